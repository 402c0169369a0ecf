/- frame: the law's own bytes of a record; Size. -/
import Derived.Test.YtkogchmnpffiaaaFrameS
import Derived.Test.YtkogchmnpffiaaaRefText
import Derived.Lib.AppendStr
namespace Go.Proofs.Ytkogchmnpffiaaa
set_option linter.unusedVariables false
open Go.RowKit
attribute [local go_sem ↓] Go.wp_at_zero Go.wp_at_succ

/-- append of a string's bytes at a step of a region that draws -/
theorem step_append_str {P : Program} {ops : Array Oper} {o : Oper} {a : Act} {w : World} {K : Act → World → Prop} {Q : Exit → Act → World → Prop} {E : Prop}
    (hg : o.guard = none) (s x : Operand) (t u : TypeId) (hop : o.op = Op.call { callee := Callee.builtin Builtin.append, args := #[s, x], argTypes := #[t, u] })
    (base : Nat) (e : TypeId) (i : TypeInfo) (h1 : P.underlying t = some (.slice e)) (hu : P.underlying u = some .string) (h2 : P.info? e = some i) (h3 : i.zero = some (.int .u8 0)) (h4 : i.size = 1) (h5 : i.bytes = 1)
    (v : Value) (n : Nat) (l : List UInt8) (hs : a.eval s = v) (hrow : w.ownsRow base e 1 v n (l.map byteVal)) (hn : 0 < n)
    (r : List UInt8) (hx : a.eval x = .string (bstr r)) (b1 : n + r.length ≤ 140737488355328) (hbase : base ≤ w.heap.size)
    (hK : ∀ g c w', w'.ownsRow base e 1 (.slice (some ⟨g, 0, none⟩) (n + r.length) c) (n + r.length) ((l ++ r).map byteVal) → Step (foot v) w w' → K (a.put o.dst (.slice (some ⟨g, 0, none⟩) (n + r.length) c)) w') :
    if Region.wanted o (yielded ops a.tmps) = true then Oper.wp P o a w K Q else E := by
  have hw : Region.wanted o (yielded ops a.tmps) = true := by simp [Region.wanted, hg]
  rw [if_pos hw]
  have hsz := bstr_size r
  obtain ⟨v', w', hr, r2, r3, _⟩ := Lib.run_append_own_string (P := P) w base t u o.type e i h1 hu h2 h3 h4 h5 v n (l.map byteVal) hrow (bstr r) (by rw [hsz]; unfold maxLen; omega) (by rw [hsz]; exact b1) hbase
  rw [hsz, show Lib.strCells (bstr r) = r.map byteVal from rfl, ← List.map_append] at r2
  obtain ⟨g, cap, rfl, _⟩ := owns_form r2 (by omega)
  unfold Oper.wp execOp
  simp only [hop, resolve, invoke, builtin, Sem.run_bind, Sem.run_pure, Result.andThen_ok, List.map_toArray, List.map_cons, List.map_nil, hs, hx, hr]
  exact hK g cap w' r2 ((Step.refl _ _).grown r3 (fun k hk => .inl (mem_foot.2 hk)))

theorem two_owns (w0 w : World) (k : UInt8) (h : w0.heap.size ≤ w.heap.size) : (w.alloc (.cells #[.int .u8 197, .int .u8 (k.toNat : Int)] 5)).ownsRow w0.heap.size 5 1 (.slice (some ⟨w.heap.size, 0, none⟩) 2 2) 2 ([197, k].map byteVal) :=
  World.ownsRow_lit (base := w0.heap.size) (e := 5) (size := 1) w #[.int .u8 197, .int .u8 (k.toNat : Int)] 2 h (by decide) rfl

set_option maxHeartbeats 1000000 in
theorem size_any (k : UInt8) (a : Option Addr) (cap : Nat) (d : List UInt8) (w : World) (h : RecIn w a cap d) (hlen : d.length ≤ 100000) :
    Calls Try.prog 12 #[.agg #[.int .u8 (k.toNat : Int), .slice a d.length cap]] w fun e w' => e = .returned (.int .i64 (((headB k d).length : Nat) + 4 : Int)) ∧ Step [] w w' := by
  have HC := Lib.hid (head_any k a cap d (w.alloc (.cells #[.int .u8 (k.toNat : Int), .slice a d.length cap] 25)) h.nil (h.bytes.step ((Step.refl [] w).alloc _) (by simp)) (by omega))
  have hl := headB_len k d
  have hn := numB_len d.length
  clear h
  obtain ⟨H, hH⟩ : ∃ H, headB k d = H := ⟨_, rfl⟩
  rw [hH] at HC hl ⊢
  clear hH
  have hb : H.length ≤ 200000 := by omega
  have e1 : IntKind.i64.wrap ((H.length : Int) + 4) = (H.length : Int) + 4 := by rw [IntKind.wrap_i64]; omega
  clear hl hn
  go_enter Try.func12, Try.ntmps12
  go_wp2_with fail
  refine HC.out.mono ?_
  rintro e w1 ⟨v, rfl, hown, hst⟩
  obtain ⟨g, c, rfl, -⟩ := owns_bytes hown
  have HS := Lib.hid (((Step.refl [] w).alloc _).then hst (by simp))
  clear hown hst HC
  go_wp2_with fail
  go_ret
  exact ⟨rfl, HS.out⟩

set_option maxHeartbeats 4000000 in
theorem lawBytes_any (s : Nat) (k : UInt8) (a : Option Addr) (cap : Nat) (d : List UInt8) (w : World) (hs : s < 4294967296) (h : RecIn w a cap d) (hd : d.length ≤ 100000) :
    Calls Try.prog 11 #[.int .u32 (s : Int), .agg #[.int .u8 (k.toNat : Int), .slice a d.length cap]] w fun e w' => ∃ v, e = .returned (.tuple #[v, .int .u32 ((moreN s (headB k d) : Nat) : Int)]) ∧ w'.ownsRow w.heap.size 5 1 v (frameB s k d).length ((frameB s k d).map byteVal) ∧ Step [] w w' := by
  obtain ⟨i0, hi, hz0, hz1, hz2⟩ := info_parts Try.infoB
  have hln := numB_len d.length
  have hs0 : Step [] w (w.alloc (.cells #[.int .u8 (k.toNat : Int), .slice a d.length cap] 25)) := (Step.refl [] w).alloc _
  have hK : ∀ W, Step [] (w.alloc (.cells #[.int .u8 (k.toNat : Int), .slice a d.length cap] 25)) W → W.cell? ⟨w.heap.size, 0, none⟩ = some (.int .u8 (k.toNat : Int)) ∧ W.cell? ⟨w.heap.size, 1, none⟩ = some (.slice a d.length cap) ∧ (convert 23 9 (.slice a d.length cap)).run Try.prog W = .ok (.string (bstr d)) W := fun W hW =>
    ⟨((Blk.new w _ _).step hW (by simp)).cell 0, ((Blk.new w _ _).step hW (by simp)).cell 1, (h.bytes.step (hs0.then hW (by simp)) (by simp)).str (P := Try.prog) (fun h2 => (h.nil h2).1) cap 23 9 5 Try.underlying23 Try.underlying5 Try.underlying9⟩
  obtain ⟨w0, hw0⟩ : ∃ w0, w.alloc (.cells #[.int .u8 (k.toNat : Int), .slice a d.length cap] 25) = w0 := ⟨_, rfl⟩
  have hsz0 : w0.heap.size = w.heap.size + 1 := by rw [← hw0, World.size_alloc]
  rw [hw0] at hs0 hK
  have HK := Lib.hid hK
  have HS0 := Lib.hid hs0
  have HZ0 := Lib.hid hsz0
  clear hK hs0 h hsz0
  have HW0 := Lib.hid hw0
  clear hw0
  obtain ⟨n, hn⟩ : ∃ n, d.length = n := ⟨_, rfl⟩
  have HN := Lib.hid hn
  rw [hn] at HK HW0 hd hln ⊢
  clear hn
  go_enter Try.func11, Try.ntmps11
  go_wp2_with fail
  rw [HW0.out]
  have htl : (numB d.length ++ d).length ≤ 100010 := by rw [List.length_append, HN.out]; omega
  have HC := Lib.hid (fun W => refText_any d W (by rw [HN.out]; omega))
  obtain ⟨R, hR⟩ : ∃ R, numB d.length ++ d = R := ⟨_, rfl⟩
  rw [hR] at HC htl
  have HR0 := Lib.hid hR
  clear hR
  go_region_held3 (fun w' => w'.cell? ⟨w.heap.size, 0, none⟩ = some (.int .u8 (k.toNat : Int)) ∧ w'.cell? ⟨w.heap.size, 1, none⟩ = some (.slice a n cap) ∧ (convert 23 9 (.slice a n cap)).run Try.prog w' = .ok (.string (bstr d)) w')
    (first | exact HK.out _ (Step.refl [] w0) | exact HK.out _ (Step.refl [] w0).drew | exact HK.out _ ((Step.refl [] w0).drew.alloc _) | exact HK.out _ hs7.out | exact HK.out _ (hs7.out.alloc _) | exact HK.out _ hs8.out)
    (first
      | (go_at_call 25; refine (HC.out _).mono ?_; rintro e7 w7 ⟨rfl, hst⟩
         have hs7 : Hid (Step [] w0 w7) := by first | exact Lib.hid ((Step.refl [] w0).drew.then hst (by simp)) | exact Lib.hid (((Step.refl [] w0).drew.alloc _).then hst (by simp))
         try have HR := Lib.hid (owns_step (two_owns w w0.drew k (by show w.heap.size ≤ w0.heap.size; have := HZ0.out; omega)) hst (by simp))
         clear hst)
      | (refine step_append_str rfl (.tmp 10) (.tmp 14) 23 9 rfl w.heap.size 5 i0 Try.underlying23 Try.underlying9 hi hz0 hz1 hz2 _ 2 [197, k] (by rfl) HR.out (by decide) R (by rfl) (by omega) (by have := hs7.out.size; have := HZ0.out; omega) ?_
         intro g8 c8 w8 hown8 hst
         have hs8 : Hid (Step [] w0 w8) := Lib.hid (hs7.out.then hst (fun r hr => .inr (Nat.le_of_eq (Option.some.inj (mem_foot.1 hr)))))
         have HO8 := Lib.hid hown8
         clear hst hown8)
      | (refine step_append_str rfl (.tmp 10) (.tmp 14) 23 9 rfl w.heap.size 5 i0 Try.underlying23 Try.underlying9 hi hz0 hz1 hz2 _ 2 [197, k] (by rfl) (two_owns w w7 k (by have := hs7.out.size; have := HZ0.out; omega)) (by decide) R (by rfl) (by omega) (by rw [World.size_alloc]; have := hs7.out.size; have := HZ0.out; omega) ?_
         intro g8 c8 w8 hown8 hst
         have hs8 : Hid (Step [] w0 w8) := Lib.hid ((hs7.out.alloc _).then hst (fun r hr => .inr (by simp [foot, Value.ownBlock] at hr; have := hs7.out.size; omega)))
         have HO8 := Lib.hid hown8
         clear hst hown8))
  all_goals
    have hH : [197, k] ++ R = headB k d := by rw [← HR0.out]; rfl
    rw [hH] at HO8
    have hHl : (headB k d).length = 2 + R.length := by rw [← hH]; simp; omega
    have HHl := Lib.hid hHl
    have HS8 := Lib.hid (HS0.out.then hs8.out (by simp))
    obtain ⟨a9, c9, hv9, -, -, -, hsl9, -, -⟩ := owns_bytes HO8.out
    cases hv9
    have HM := Lib.hid (more_any s _ (2 + R.length) c8 (headB k d) w8 hs hHl (by unfold maxLen; omega) hsl9)
    obtain ⟨S, hS⟩ : ∃ S, moreN s (headB k d) = S := ⟨_, rfl⟩
    have hSl := moreN_lt s (headB k d)
    rw [hS] at HM hSl
    have HS := Lib.hid hS
    clear hH hHl hsl9 hS
    go_wp2_with fail
    refine HM.out.mono ?_
    rintro e w9 ⟨rfl, rfl⟩
    have e4 : S / 16777216 % 256 = S / 16777216 := by omega
    have hf4 : fourCells S = #[.int .u8 ((S : Int) % 256), .int .u8 ((S : Int) / 256 % 256), .int .u8 ((S : Int) / 65536 % 256), .int .u8 ((S : Int) / 16777216)] := by
      simp [fourCells, e4]
    have hb4 := four_bytes w8 S
    rw [hf4] at hb4
    have HB4 := Lib.hid hb4
    have hsz8 := HS8.out.size
    clear e4 hf4 hb4
    go_wp2_with (at_builtin; refine wpList_append_sep rfl (.tmp 19) (.tmp 34) 23 rfl w.heap.size 5 i0 (.int .u8 0) 1 1 Try.underlying23 hi hz0 hz1 hz2 rfl (by decide) _ (2 + R.length) ((headB k d).map byteVal) rfl (owns_step HO8.out ((Step.refl [] w8).alloc _) (by simp)) (some ⟨w8.heap.size, 0, none⟩) 4 4 ((leN 4 S).map byteVal) rfl (by intro h; cases h) rfl HB4.out.news (byteVals_cell _) (by unfold maxLen; omega) (by omega) (by rw [World.size_alloc]; omega) ?_)
    intro v10 w10 hown10 hg10 hf10
    have HO10 := Lib.hid hown10
    have HS10 := Lib.hid ((HS8.out.alloc (.cells #[.int .u8 ((S : Int) % 256), .int .u8 ((S : Int) / 256 % 256), .int .u8 ((S : Int) / 65536 % 256), .int .u8 ((S : Int) / 16777216)] 5)).grown hg10 (fun r hr => .inr (owns_base HO8.out r (mem_foot.2 hr))))
    clear hown10 hg10 hf10
    go_wp2_with fail
    go_ret2
    refine ⟨v10, by rw [HS.out]; rfl, ?_, HS10.out⟩
    unfold frameB
    have ho := HO10.out
    rw [HS.out, List.map_append, List.length_append, leN4_len, HHl.out]
    exact ho
end Go.Proofs.Ytkogchmnpffiaaa
