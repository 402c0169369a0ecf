/- entry: the walks of Add and Put. -/
import Derived.Test.YtjepglbolkbldaaEntD
import Derived.Deep.RegionHeld3
import Derived.Deep.RegionLaw
import Derived.Deep.DrawnRows
namespace Go.Proofs.Ytjepglbolkbldaa
set_option linter.unusedVariables false
open Go.RowKit
attribute [local go_sem ↓] Go.wp_at_zero Go.wp_at_succ

/-- a row of the call's own, or one without room that is only read -/
def RowOr (w : World) (base e size : Nat) (v : Value) (n : Nat) (xs : List Value) : Prop :=
  w.ownsRow base e size v n xs ∨ ∃ ao, v = .slice ao n n ∧ (ao = none → n = 0) ∧ xs.length = n * size ∧ ∀ b, ao = some b → b.block < w.heap.size ∧ ∀ j u, xs[j]? = some u → w.cell? (b.add j) = some u

theorem RowOr.step {F : List Nat} {w w' : World} {base e size n : Nat} {v : Value} {xs : List Value} (h : RowOr w base e size v n xs) (hs : Step F w w') (hn : ∀ k, k ∈ foot v → k ∉ F) : RowOr w' base e size v n xs := by
  rcases h with h | ⟨ao, rfl, h0, hl, hc⟩
  · exact .inl (owns_step h hs hn)
  · refine .inr ⟨ao, rfl, h0, hl, fun b hb => ⟨Nat.lt_of_lt_of_le (hc b hb).1 hs.size, fun j u hu => ?_⟩⟩
    obtain ⟨h1, h2⟩ := hc b hb
    have h3 := h2 j u hu
    have hbl : (b.add j).block = b.block := by cases b; unfold Addr.add; split <;> rfl
    rw [← h3]
    exact World.cell?_of_block (hs.block (b.add j).block (by rw [hbl]; exact h1) (by
      rw [hbl]
      obtain ⟨x, y, z⟩ := b
      exact hn x ((foot_slice _ _ _ x).2 ⟨y, z, hb⟩)))

/-- append at a step of a region that draws -/
theorem step_append_row {P : Program} {ops : Array Oper} {o : Oper} {a : Act} {w : World} {K : Act → World → Prop} {Q : Exit → Act → World → Prop} {E : Prop}
    (hg : o.guard = none) (s x : Operand) (t : TypeId) (hop : o.op = Op.call { callee := Callee.builtin Builtin.append, args := #[s, x], argTypes := #[t, t] })
    (base : Nat) (e : TypeId) (i : TypeInfo) (z : Value) (size bytes : Nat) (h1 : P.underlying t = some (.slice e)) (h2 : P.info? e = some i) (h3 : i.zero = some z) (h4 : i.size = size) (h5 : i.bytes = bytes) (h6 : z.cells.size = size) (h7 : 0 < size)
    (v : Value) (n : Nat) (xs : List Value) (hs : a.eval s = v) (hrow : RowOr w base e size v n xs)
    (ad : Addr) (m c : Nat) (news : List Value) (hx : a.eval x = .slice (some ad) m c) (hm : 0 < m) (hn : news.length = m * size) (hc : ∀ j u, news[j]? = some u → w.cell? (ad.add j) = some u) (h1c : ∀ u ∈ news, u.oneCell' = true)
    (b1 : n + m ≤ maxLen) (b2 : (n + m) * bytes ≤ 140737488355328) (hbase : base ≤ w.heap.size)
    (hK : ∀ g c' w', w'.ownsRow base e size (.slice (some ⟨g, 0, none⟩) (n + m) c') (n + m) (xs ++ news) → Step (foot v) w w' → Fresh w (foot v) (foot (.slice (some ⟨g, 0, none⟩) (n + m) c')) → K (a.put o.dst (.slice (some ⟨g, 0, none⟩) (n + m) c')) w') :
    if Region.wanted o (yielded ops a.tmps) = true then Oper.wp P o a w K Q else E := by
  have key : ∀ v' w', w'.ownsRow base e size v' (n + m) (xs ++ news) → Step (foot v) w w' → Fresh w (foot v) (foot v') → K (a.put o.dst v') w' := by
    intro v' w' hr hs' hf
    obtain ⟨g, cap, rfl, _⟩ := owns_form hr (by omega)
    exact hK _ _ w' hr hs' hf
  rcases hrow with hown | ⟨ao, rfl, h0, hl, hcells⟩
  · have hw : Region.wanted o (yielded ops a.tmps) = true := by simp [Region.wanted, hg]
    rw [if_pos hw]
    obtain ⟨v', w', hr, r2, r3, _, r5⟩ := run_append_own_at (P := P) w base t o.type e i z size bytes h1 h2 h3 h4 h5 h6 h7 v n xs hown ad m c news hn hc h1c b1 b2 hbase
    unfold Oper.wp execOp
    simp only [hop, resolve, invoke, builtin, Sem.run_bind, Sem.run_pure, Result.andThen_ok, List.map_toArray, List.map_cons, List.map_nil, hs, hx, hr]
    refine key v' w' r2 ((Step.refl _ _).grown r3 (fun k hk => .inl (mem_foot.2 hk))) (fun k hk => ?_)
    rcases r5 with r5 | r5
    · exact .inl (by unfold foot; rw [← r5]; exact hk)
    · right
      have := mem_foot.1 hk
      rw [r5] at this
      cases this
      exact Nat.le_refl _
  · refine step_append_grows hg s x t hop e i z size bytes h1 h2 h3 h4 h5 h6 h7 ao n n xs hs (fun h => ⟨h0 h, h0 h⟩) hl (fun b hb => (hcells b hb).2) ad m c news hx hn hc h1c (by omega) b1 b2 ?_
    intro v' w' r2 r3
    exact key v' w' (owns_low r2 hbase) ((Step.refl _ _).grown r3 (fun k hk => by cases hk)) (fun k hk => .inr (owns_base r2 k hk))

/-- a log behind a store of its row -/
theorem Log.put {w2 : World} {base lb : Nat} {a2 : Option Addr} {c2 ix tm : Nat} {us : List Nat} {v0 : Value} {L : List En} {n2 : Nat}
    (hb : Blk w2 lb #[.int .u64 (ix : Int), .int .u64 (tm : Int), v0] 50) (hk : L.map key = keysFrom ix us) (hown : w2.ownsRow base 42 4 (.slice a2 n2 c2) n2 (cellsL L)) (hn : n2 = us.length) (hlow : base ≤ lb)
    (hap : lb ∉ foot (.slice a2 n2 c2)) (hsm : ix + us.length < 9223372036854775808) (hf : us.length ≤ 1024) :
    Log (w2.setCell ⟨lb, 2, none⟩ (.slice a2 n2 c2)) base lb a2 c2 ix tm us := by
  subst hn
  refine ⟨hb.set 2 _, ⟨L, hk, ?_⟩, hlow, ?_, hsm, hf⟩
  · exact owns_step hown ((Step.refl [lb] w2).setCell (.inl (by simp)) 2 _) (fun k hk hm => by simp at hm; subst hm; exact hap hk)
  · intro b off s e h
    subst h
    exact hap ((foot_slice _ _ _ lb).2 ⟨off, s, e⟩)

/-- what an adding leaves -/
def Added (base lb : Nat) (a : Option Addr) (n cap ix tm : Nat) (us : List Nat) (w w' : World) : Prop :=
  ∃ a2 c2, Log w' base lb a2 c2 ix tm us ∧ Step (lb :: foot (.slice a n cap)) w w' ∧ Fresh w (foot (.slice a n cap)) (foot (.slice a2 us.length c2))

theorem clone_nil (w : World) : Calls Try.prog 23 #[.slice none 0 0] w fun e w' => (∃ a k, e = .returned (.slice a 0 k)) ∧ Step [] w w' := by
  refine (clone_bytes none 0 [] w (fun _ => ⟨rfl, rfl⟩) (Bytes.nil _ _) (by simp)).mono ?_
  rintro e w1 ⟨v, rfl, hown, hs⟩
  obtain ⟨a1, cap1, rfl, -, -, -, -, -, -⟩ := owns_bytes hown
  exact ⟨⟨_, _, rfl⟩, hs⟩

set_option maxHeartbeats 1000000 in
theorem add_any (base lb : Nat) (a : Option Addr) (cap ix tm : Nat) (ts : List Nat) (t : Nat) (c : Bool) (w : World) (h : Log w base lb a cap ix tm ts) (ht : ¬ t < lastT tm ts) (hf : ts.length < 1024) (hs : ix + ts.length + 1 < 4611686018427387904) :
    Calls Try.prog 11 #[.pointer (some ⟨lb, 0, none⟩), .int .u64 (t : Int), .bool c, .slice none 0 0] w fun e w' => e = .returned (.tuple #[.int .u64 ((ix + ts.length + 1 : Nat) : Int), .int .i64 0]) ∧ Added base lb a ts.length cap ix tm (ts ++ [t]) w w' := by
  obtain ⟨i0, hi0, hz0, hz1, hz2⟩ := info_parts Try.infoE
  have HL := Lib.hid (last_any _ _ _ _ _ _ _ _ h)
  have HH := Lib.hid h
  clear h
  have e1 : IntKind.u64.wrap (((ix + ts.length : Nat) : Int) + 1) = ((ix + ts.length : Nat) : Int) + 1 := u64_self _ (by omega) (by omega)
  have p1 : decide ((t : Int) < (lastT tm ts : Int)) = false := by simp; omega
  have p2 : decide ((1024 : Int) ≤ (ts.length : Int)) = false := by simp; omega
  obtain ⟨I, hI⟩ : ∃ I, ix + ts.length = I := ⟨_, rfl⟩
  rw [hI] at HL e1 ⊢
  go_enter Try.func11, Try.ntmps11
  go_wp2_with fail
  refine HL.out.mono ?_
  rintro e w1 ⟨rfl, hs1⟩
  have HS := Lib.hid hs1
  have hL1 := HH.out.step0 hs1
  obtain ⟨c0, c1, c2⟩ := hL1.three
  have f2 := hL1.blk.free 2
  have HL1 := Lib.hid hL1
  clear hs1 hL1 HL HH
  go_wp2_with fail
  obtain ⟨L, hkL, hoL⟩ := HL1.out.own
  have HK := Lib.hid hkL
  have HO := Lib.hid hoL
  clear hkL hoL
  have hap := Lib.hid (show lb ∉ foot (.slice a ts.length cap) from fun hk => by obtain ⟨off, s, e⟩ := (foot_slice _ _ _ _).1 hk; exact HL1.out.apart _ _ _ e rfl)
  have hlt := HL1.out.blk.lt
  have hlow := HL1.out.low
  go_region_law (first
    | (go_simp; go_at_call 23; refine (clone_nil _).mono ?_; rintro e7 w7 ⟨⟨a7, k7, rfl⟩, hs7⟩
       have c7 : w7.cell? ⟨lb, 2, none⟩ = some (.slice a ts.length cap) := (hs7.cell hlt (by simp)).trans c2
       have d7 : ∀ o, (w7.alloc o).cell? ⟨lb, 2, none⟩ = some (.slice a ts.length cap) := fun o => (((Step.refl [] w7).alloc o).cell (Nat.lt_of_lt_of_le hlt hs7.size) (by simp)).trans c7
       have hs7' : Step [] w1 w7 := (Step.refl [] w1).drew.then hs7 (by simp)
       have hrow := Lib.hid (fun o => (RowOr.step (.inl HO.out) (hs7'.alloc o) (by simp) : RowOr (w7.alloc o) base 42 4 (.slice a ts.length cap) ts.length (cellsL L)))
       have hblk := Lib.hid (fun o => HL1.out.blk.step (hs7'.alloc o) (by simp))
       have hbase : base ≤ w7.heap.size := by have := hs7'.size; omega
       have hs7 := Lib.hid hs7'
       clear hs7')
    | (refine step_append_row rfl (.tmp 39) (.tmp 47) 23 rfl base 42 i0 _ 4 48 Try.underlying23 hi0 hz0 hz1 hz2 rfl (by decide) (.slice a ts.length cap) ts.length (cellsL L) (by rfl) ?hr ⟨w7.heap.size, 0, none⟩ 1 1 [.int .u64 ((I : Int) + 1), .int .u64 (t : Int), .bool c, .slice a7 0 k7] (by rfl) (by decide) rfl (World.news_of_block (Go.heap_alloc_new _ _)) ?h1 ?h2 ?h3 ?h4 ?_
       case hr => exact hrow.out _
       case h1 => intro u hu; simp at hu; rcases hu with rfl | rfl | rfl | rfl <;> rfl
       case h2 => unfold maxLen; omega
       case h3 => omega
       case h4 => rw [World.size_alloc]; exact Nat.le_succ_of_le hbase
       intro g8 k8 w8 hown8 hs8 hf8
       have hB8 := (hblk.out _).step hs8 hap.out
       have c8 := hB8.cell 2
       have f8 := hB8.free 2
       simp only [List.getElem?_toArray, List.getElem?_cons_zero, List.getElem?_cons_succ] at c8
       have HB8 := Lib.hid hB8
       have HO8 := Lib.hid hown8
       have HS8 := Lib.hid hs8
       have HF8 := Lib.hid hf8
       clear hown8 hs8 hf8 hB8))
  all_goals
    have hL8 : Log (w8.setCell ⟨lb, 2, none⟩ (.slice (some ⟨g8, 0, none⟩) (ts.length + 1) k8)) base lb (some ⟨g8, 0, none⟩) k8 ix tm (ts ++ [t]) := by
      refine Log.put (v0 := .slice a ts.length cap) (L := L ++ [⟨I + 1, t, c, a7, 0, k7⟩]) HB8.out ?_ ?_ (by simp) hlow ?_ (by simp; omega) (by simp; omega)
      · rw [List.map_append, HK.out, keysFrom_app, hI]
        rfl
      · rw [cellsL_app]
        exact HO8.out
      · intro hk
        rcases HF8.out _ hk with h | h
        · exact hap.out h
        · rw [World.size_alloc] at h
          have := hs7.out.size
          omega
    have hst8 : Step (lb :: foot (.slice a ts.length cap)) w (w8.setCell ⟨lb, 2, none⟩ (.slice (some ⟨g8, 0, none⟩) (ts.length + 1) k8)) := by
      have h1 := ((HS.out.then hs7.out (by simp)).alloc (Obj.cells #[Value.int IntKind.u64 (↑I + 1), Value.int IntKind.u64 ↑t, Value.bool c, Value.slice a7 0 k7] 42)).mono (G := lb :: foot (.slice a ts.length cap)) (by simp)
      exact (h1.then HS8.out (fun k hk => .inl (List.mem_cons_of_mem _ hk))).setCell (.inl (by simp)) 2 _
    have hfr8 : Fresh w (foot (.slice a ts.length cap)) (foot (.slice (some ⟨g8, 0, none⟩) (ts ++ [t]).length k8)) := by
      intro k hk
      have hk' : k ∈ foot (.slice (some ⟨g8, 0, none⟩) (ts.length + 1) k8) := hk
      rcases HF8.out _ hk' with h | h
      · exact .inl h
      · rw [World.size_alloc] at h
        have := hs7.out.size
        have := HS.out.size
        exact .inr (by omega)
    have HA := Lib.hid (show Added base lb a ts.length cap ix tm (ts ++ [t]) w (w8.setCell ⟨lb, 2, none⟩ (.slice (some ⟨g8, 0, none⟩) (ts.length + 1) k8)) from ⟨_, _, hL8, hst8, hfr8⟩)
    clear hL8 hst8 hfr8
    go_wp2_with fail
    go_ret2
    exact ⟨by push_cast; rfl, HA.out⟩
end Go.Proofs.Ytjepglbolkbldaa
