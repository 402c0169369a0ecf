/- HeapSorts: the law's own walk. -/
import Derived.Test.YtdbhldlgfchjpaaHpJC
import Derived.Test.YtdbhldlgfchjpaaHpNC
import Derived.Test.YtdbhldlgfchjpaaHpLives
import Derived.Test.YtdbhldlgfchjpaaMapLen
import Derived.Test.YtdbhldlgfchjpaaNums
import Derived.Test.YtdbhldlgfchjpaaStrs
import Derived.Test.YtdbhldlgfchjpaaDj
import Derived.Test.YtdbhldlgfchjpaaSeqNone
import Derived.RangeFuncLeaves
import Derived.Shelf.Abstract
namespace Go.Proofs.Ytdbhldlgfchjpaa
set_option linter.unusedVariables false
open Go.RowKit Go.Shelf HpC
/-- a map that says of each key what it stands for in a row -/
def Tells (f : ByteArray → Option Int) (s : List It) : Prop := ∀ k r, f k = some r ↔ (k, r) ∈ s
theorem tells_put {f : ByteArray → Option Int} {s : List It} (h : Tells f s) (k : ByteArray) (r : Int) : Tells (upd f k (some r)) (Hp.ins lt (k, r) (Hp.wok k s)) := by
  intro y q
  rw [Hp.mem_ins, Hp.mem_wok]
  unfold upd
  by_cases e : y = k
  · subst e
    rw [if_pos rfl]
    constructor
    · intro h1
      injection h1 with h1
      exact .inl (by rw [h1])
    · rintro (h1 | ⟨_, h1⟩)
      · injection h1 with _ h1
        rw [h1]
      · exact absurd rfl h1
  · rw [if_neg e, h y q]
    constructor
    · intro h1
      exact .inr ⟨h1, e⟩
    · rintro (h1 | ⟨h1, _⟩)
      · injection h1 with h1 _
        exact absurd h1 e
      · exact h1
abbrev elU : ElT Int := intEl .u8
theorem zeroU (w : World) : (zeroValue 5).run Try.prog w = .ok (elU.val 0) w := by kernel_rfl
/-- behind so many keys -/
structure St (w0 w : World) (base hb mb : Nat) (f : ByteArray → Option Int) (n : Nat) (s : List It) (F : List Nat) : Prop where
  hs : Hs w base hb s F
  map : MapF (strKey Try.underlying9) elU w mb n f
  tell : Tells f s
  dj : Dj [mb] F
  low : w0.heap.size ≤ base ∧ w0.heap.size ≤ mb
  len : s.length ≤ n
  st : Step [] w0 w
theorem St.put {w0 w : World} {base hb mb n : Nat} {f : ByteArray → Option Int} {s : List It} {F : List Nat} (h : St w0 w base hb mb f n s F) (k : ByteArray) (r : Int) (hg : HpC.good k) (hn : n < 1000) :
    Calls Try.prog 22 #[.pointer (some ⟨hb, 0, none⟩), .string k, .int .u8 r] w fun e w' => ∃ F', e = .returned (.bool (hasK s k)) ∧ Hs w' base hb (Hp.ins lt (k, r) (Hp.wok k s)) F' ∧ MapF (strKey Try.underlying9) elU w' mb n f ∧ Dj [mb] F' ∧ Step [] w0 w' := by
  refine (put_hs h.hs k r hg (by have := h.len; omega)).mono ?_
  rintro e w' ⟨F', rfl, h1, h2, h3⟩
  exact ⟨F', rfl, h1, h.map.step h2 (h.dj mb (by simp)), h.dj.fresh (fun k hk => by simp at hk; subst hk; exact h.map.lt) h3, h.st.then h2 (fun k hk => .inr (Nat.le_trans h.low.1 (h.hs.low k hk)))⟩
set_option maxRecDepth 100000 in
set_option maxHeartbeats 8000000 in
theorem sorts_in (a b : Option Addr) (ca cb : Nat) (la : List ByteArray) (lb : List Int) (w : World) (hA : Strs w a la) (hB : Nums .u8 w b lb) (wa : ∀ x ∈ la, x.size ≤ maxLen) (na : la.length ≤ 60) :
    Calls Try.prog 5 #[.slice a la.length ca, .slice b lb.length cb] w fun e w' => e = .returned (.bool true) ∧ Below w.heap.size w w' := by
  have HA := Lib.hid (And.intro hA wa)
  have HB := Lib.hid hB
  obtain ⟨nA, hnA⟩ : ∃ n, la.length = n := ⟨_, rfl⟩
  obtain ⟨nB, hnB⟩ : ∃ n, lb.length = n := ⟨_, rfl⟩
  have HN := Lib.hid (And.intro hnA hnB)
  rw [hnA] at na ⊢
  rw [hnB]
  clear hA hB wa hnA hnB
  have q1 : ((60 : Int) < (nA : Int)) = False := by simp; omega
  have hmm := @run_makeMap Try.prog
  refine calls_of_wp_marks Try.func5 rfl ?_
  simp only [Try.ntmps5, List.size_toArray, List.length_cons, List.length_nil, Nat.reduceAdd, Nat.reduceSub, Array.replicate_succ, Array.replicate_zero, List.push_toArray, List.append_toArray, List.nil_append, List.cons_append]
  go_wp2_with fail
  refine (lives_any w).mono ?_
  rintro e w1 ⟨rfl, hs⟩
  have HS := Lib.hid hs
  clear hs
  go_wp2_with fail
  refine (new_hs w1).mono ?_
  rintro e w2 ⟨hb, F1, rfl, h1, s1⟩
  have hmap := MapF.made (strKey Try.underlying9) elU w2
  have HT := Lib.hid (show St w1 (w2.alloc (.map #[] 0)) w1.heap.size hb w2.heap.size (fun _ => Option.none) 0 [] F1 from
    ⟨h1.step ((Step.refl [] w2).alloc _) (by simp), hmap, fun k r => by simp, fun k hk hm => by simp at hk; subst hk; have := h1.live _ hm; omega, ⟨Nat.le_refl _, s1.size⟩, Nat.le_refl _, s1.alloc _⟩)
  clear h1 s1 hmap
  go_wp2_with fail
  generalize w2.alloc (.map #[] 0) = W2 at HT ⊢
  generalize w2.heap.size = mb at HT ⊢
  go_loopw [33] (fun s wr => ∃ (i : Nat) (t : List It) (f : ByteArray → Option Int) (F : List Nat), s = .int .i64 (i : Int) ∧ i ≤ nA ∧ St w1 wr w1.heap.size hb mb f i t F) (fun s _ => nA - (intOf s).toNat)
  case atStart => exact ⟨0, [], _, F1, rfl, Nat.zero_le _, HT.out⟩
  case round =>
    obtain ⟨i, t, f, F, rfl, hi, hT⟩ := hrel
    have HT2 := Lib.hid hT
    clear hT HT
    by_cases hik : i < nA
    · have p1 : (i : Int) < (nA : Int) := by omega
      obtain ⟨bb, off, ha, hlt, hc⟩ := HA.out.1 i (by have := HN.out.1; omega)
      have hc2 : wr.cell? ⟨bb, off + i, none⟩ = some (.string (la.getD i ByteArray.empty)) := by rw [(HS.out.then HT2.out.st (by simp)).cell hlt (by simp)]; exact hc
      have hw : (la.getD i ByteArray.empty).size ≤ maxLen := HA.out.2 _ (by have := HN.out.1; rw [show la.getD i ByteArray.empty = la[i]'(by omega) from by simp [List.getD, show i < la.length by omega]]; exact List.getElem_mem _)
      obtain ⟨k, hk⟩ : ∃ k, la.getD i ByteArray.empty = k := ⟨_, rfl⟩
      rw [hk] at hc2 hw
      have HG := Lib.hid (show HpC.good k from hw)
      subst ha
      clear hc hk hw
      by_cases h20 : k.size ≤ 20
      · have p2 : ((20 : Int) < (k.size : Int)) = False := by simp; omega
        by_cases hib : i < nB
        · have p3 : (i : Int) < (nB : Int) := by omega
          obtain ⟨b2, off2, hb2, hlt2, hc3⟩ := HB.out i (by have := HN.out.2; omega)
          have hc4 : wr.cell? ⟨b2, off2 + i, none⟩ = some (.int .u8 (lb.getD i 0)) := by rw [(HS.out.then HT2.out.st (by simp)).cell hlt2 (by simp)]; exact hc3
          obtain ⟨r, hr⟩ : ∃ r, lb.getD i 0 = r := ⟨_, rfl⟩
          rw [hr] at hc4
          subst hb2
          clear hc3 hr
          go_wp2_with fail
          refine (HT2.out.put k r HG.out (by omega)).mono ?_
          rintro e w5 ⟨F5, rfl, h5, m5, d5, s5⟩
          have H5 := Lib.hid (And.intro h5 (And.intro m5 (And.intro d5 s5)))
          clear h5 m5 d5 s5
          go_wp2_with (at_mapUpdate; refine wpList_store (strKey Try.underlying9) elU rfl _ _ _ 59 5 rfl Try.underlying59 rfl H5.out.2.1 (by unfold maxLen; omega) k rfl HG.out r rfl ?_)
          intro w6 m6 s6
          obtain ⟨h5, m5, d5, s5⟩ := H5.out
          have HT6 := Lib.hid (show St w1 w6 w1.heap.size hb mb (upd f k (some r)) (i + 1) (Hp.ins lt (k, r) (Hp.wok k t)) F5 from
            ⟨h5.step s6 d5.symm, m6, tells_put HT2.out.tell k r, d5, HT2.out.low, by rw [Hp.ins_len]; have := Hp.wok_len k t; have := HT2.out.len; omega, s5.then s6 (fun k hk => .inr (by simp at hk; subst hk; exact HT2.out.low.2))⟩)
          clear h5 m5 d5 s5 m6 s6 H5
          go_wp2_with fail
          go_roundw
          case rel => exact ⟨i + 1, _, _, F5, by go_num, by omega, HT6.out⟩
          case measure => simp [intOf]; omega
        · have p3 : decide ((i : Int) < (nB : Int)) = false := by simp; omega
          go_wp2_with fail
          refine (HT2.out.put k 0 HG.out (by omega)).mono ?_
          rintro e w5 ⟨F5, rfl, h5, m5, d5, s5⟩
          have H5 := Lib.hid (And.intro h5 (And.intro m5 (And.intro d5 s5)))
          clear h5 m5 d5 s5
          go_wp2_with (at_mapUpdate; refine wpList_store (strKey Try.underlying9) elU rfl _ _ _ 59 5 rfl Try.underlying59 rfl H5.out.2.1 (by unfold maxLen; omega) k rfl HG.out 0 rfl ?_)
          intro w6 m6 s6
          obtain ⟨h5, m5, d5, s5⟩ := H5.out
          have HT6 := Lib.hid (show St w1 w6 w1.heap.size hb mb (upd f k (some 0)) (i + 1) (Hp.ins lt (k, 0) (Hp.wok k t)) F5 from
            ⟨h5.step s6 d5.symm, m6, tells_put HT2.out.tell k 0, d5, HT2.out.low, by rw [Hp.ins_len]; have := Hp.wok_len k t; have := HT2.out.len; omega, s5.then s6 (fun k hk => .inr (by simp at hk; subst hk; exact HT2.out.low.2))⟩)
          clear h5 m5 d5 s5 m6 s6 H5
          go_wp2_with fail
          go_roundw
          case rel => exact ⟨i + 1, _, _, F5, by go_num, by omega, HT6.out⟩
          case measure => simp [intOf]; omega
      · have p2 : ((20 : Int) < (k.size : Int)) = True := by simp; omega
        go_wp2_with fail
        exact ⟨_, results_tmp rfl _ _ _, rfl, (HS.out.then HT2.out.st (by simp)).below'⟩
    · have hie : i = nA := by omega
      subst hie
      have p1 : decide ((i : Int) < (i : Int)) = false := by simp
      have hs0 : t.length ≤ i := HT2.out.len
      generalize hN0 : t.length = N at hs0
      have HN0 := Lib.hid hN0
      clear hN0
      go_wp2_with fail
      obtain ⟨b0, hb0⟩ : ∃ b, wr.heap.size = b := ⟨_, rfl⟩
      have hT := HT2.out
      have hsA := (Step.refl [] wr).alloc (.cells #[.int .i64 0] 3)
      have hsB := hsA.alloc (.cells #[.string ⟨#[]⟩, .int .u8 0] 62)
      have hB0 := (Blk.new wr #[.int .i64 0] 3).alloc (.cells #[.string ⟨#[]⟩, .int .u8 0] 62)
      have hB1 := Blk.new (wr.alloc (.cells #[.int .i64 0] 3)) #[.string ⟨#[]⟩, .int .u8 0] 62
      rw [World.size_alloc] at hB1
      have hdj : Dj [mb, b0, b0 + 1] F := by
        intro k hk hm
        have := hT.hs.live k hm
        have := hT.dj mb (by simp)
        simp at hk
        rcases hk with rfl | rfl | rfl
        · exact this hm
        · omega
        · omega
      have HI := Lib.hid (And.intro (hT.hs.step hsB (by simp)) (And.intro (hT.map.step hsB (by simp)) (And.intro hdj (And.intro (hT.st.then hsB (by simp)) (And.intro hB0 hB1)))))
      have HTL := Lib.hid (And.intro hT.tell (And.intro hT.low (And.intro hT.st.size (And.intro hT.hs.keys (And.intro hT.map.lt hT.hs.good)))))
      generalize ((wr.alloc (.cells #[.int .i64 0] 3)).alloc (.cells #[.string ⟨#[]⟩, .int .u8 0] 62)) = W3 at HI ⊢
      rw [hb0] at HI HTL ⊢
      clear hT hsA hsB hB0 hB1 hdj hb0 HT2
      go_loopw [58] (fun _ wr => ∃ (t' : List It) (F' : List Nat) (was : It) (m : Nat), Hs wr w1.heap.size hb t' F' ∧ MapF (strKey Try.underlying9) elU wr mb i f ∧ Dj [mb, b0, b0 + 1] F' ∧ Step [] w1 wr ∧ Blk wr b0 #[.int .i64 (m : Int)] 3 ∧ Blk wr (b0 + 1) #[.string was.1, .int .u8 was.2] 62 ∧ m + t'.length = N ∧ (∃ p, t = p ++ t') ∧ (0 < m → ∀ x ∈ t', lt was x = true)) (fun _ wr => szAt wr hb)
      case atStart =>
        obtain ⟨h1, h2, h3, h4, h5, h6⟩ := HI.out
        exact ⟨t, F, (⟨#[]⟩, 0), 0, h1, h2, h3, h4, h5, h6, by have := HN0.out; omega, ⟨[], rfl⟩, fun h => by omega⟩
      case round =>
        obtain ⟨t', F', was, m, h1, h2, h3, h4, h5, h6, h7, h8, h9⟩ := hrel
        have HH := Lib.hid (And.intro h1 (And.intro h2 (And.intro h3 (And.intro h4 (And.intro h5 h6)))))
        have HQ := Lib.hid (And.intro h7 (And.intro h8 h9))
        clear h1 h2 h3 h4 h5 h6 h7 h8 h9 HI
        go_wp2_with fail
        refine (len_hs HH.out.1).mono ?_
        rintro e w5 ⟨rfl, rfl⟩
        cases t' with
        | nil =>
          simp only [List.length_nil]
          go_wp2_with fail
          refine (first_nil _).mono ?_
          rintro e w5 ⟨rfl, s5⟩
          have S5 := Lib.hid (s5.alloc (.cells #[.string ByteArray.empty, .int .u8 0] 62))
          clear s5
          go_wp2_with fail
          refine (pop_nil _).mono ?_
          rintro e w6 ⟨rfl, s6⟩
          have S6 := Lib.hid ((S5.out.then s6 (by simp)).alloc (.cells #[.string ByteArray.empty, .int .u8 0] 62))
          clear s6 S5
          go_wp2_with fail
          refine (rank_nil _ _).mono ?_
          rintro e w7 ⟨rfl, rfl⟩
          go_wp2_with fail
          generalize hW7 : w6.alloc (.cells #[.string ByteArray.empty, .int .u8 0] 62) = w7 at S6 ⊢
          refine (all_box _ _).mono ?_
          rintro e w8 ⟨rfl, hw8⟩
          have hc := (Blk.new w7 #[.pointer none] 57).cell 0
          rw [show (#[Value.pointer none] : Array Value)[0]? = some (.pointer none) from rfl] at hc
          rw [← hw8] at hc
          have S8 := Lib.hid (S6.out.alloc (.cells #[.pointer none] 57))
          rw [← hw8] at S8
          have hlt8 : w7.heap.size < w8.heap.size := by rw [hw8, World.size_alloc]; omega
          clear S6 hw8
          go_wp2_with fail
          refine wp_range_none (gf := 49) (lb := #[.pointer (some ⟨w7.heap.size, 0, none⟩)]) rfl (enters_of Try.func49 (by kernel_rfl) rfl) ?_ ?_
          · intro l W hW
            exact all1_nil l _ W ((hW.cell hlt8 (by simp)).trans hc)
          · intro D W hD hW hK
            have S9 := S8.out.then hW (by simp)
            obtain ⟨h1, h2, h3, h4, h5', h6⟩ := HH.out
            have hc0 := (h5'.step S9 (by simp)).cell 0
            simp only [List.getElem?_toArray, List.getElem?_cons_zero] at hc0
            have hlen := (h2.step S9 (by simp)).len (t.map (fun x => x.1)) HTL.out.2.2.2.1 (fun x hx => by
              rw [List.mem_map]
              constructor
              · intro hn
                cases e : f x with
                | none => exact absurd e hn
                | some r => exact ⟨(x, r), (HTL.out.1 x r).1 e, rfl⟩
              · rintro ⟨⟨y, r⟩, hy, rfl⟩ hn
                rw [(HTL.out.1 y r).2 hy] at hn
                cases hn) (fun x hx => by
              rw [List.mem_map] at hx
              obtain ⟨y, hy, rfl⟩ := hx
              exact HTL.out.2.2.2.2.2 y hy) (t := 59) Try.underlying59 3
            rw [List.length_map] at hlen
            have hmN : (t.length : Int) = (m : Int) := by have := HQ.out.1; have := HN0.out; simp at *; omega
            rw [hmN] at hlen
            have HW := Lib.hid (And.intro S9 h4)
            clear S9 h1 h2 h3 h4 h5' h6 hW
            go_wp2_with (first
              | (go_at_call 22; refine (put_nil _ _ _).mono ?_; rintro e w7 ⟨rfl, rfl⟩)
              | (go_at_call 28; refine (cut_nil _ _).mono ?_; rintro e w7 ⟨rfl, rfl⟩)
              | (go_at_call 23; refine (len_nil _).mono ?_; rintro e w7 ⟨rfl, rfl⟩)
              | (go_at_call 29; refine (copy_nil _).mono ?_; rintro e w7 ⟨rfl, rfl⟩))
            refine ⟨by simp, .inl ⟨_, _, rfl, run_takeDeferred hK, ?_⟩⟩
            have hS := (HS.out.then HW.out.2 (by simp)).then HW.out.1 (by simp)
            have hle : w.heap.size ≤ D := Nat.le_trans ((HS.out.then HW.out.2 (by simp)).then S8.out (by simp)).size hD
            exact ⟨_, results_tmp rfl _ _ _, rfl, hS.below'.trans (belowK_b (w := w) (Nat.le_refl _) _ D _ _ hle hK rfl rfl)⟩
        | cons x t' =>
          have p2 : 0 < (x :: t').length := by simp
          generalize hLn : (x :: t').length = L at p2 ⊢
          clear hLn
          have HP := Lib.hid (pop_hs HH.out.1)
          simp only [hdS, List.tail_cons] at HP
          obtain ⟨xk, xr⟩ := x
          dsimp only at HP
          go_wp2_with fail
          refine HP.out.mono ?_
          rintro e w5 ⟨F5, rfl, h5, s5, f5⟩
          obtain ⟨h1, h2, h3, h4, h5', h6⟩ := HH.out
          obtain ⟨g1, g2, g3⟩ := HQ.out
          have n0 := h3 mb (by simp)
          have n1 := h3 b0 (by simp)
          have n2 := h3 (b0 + 1) (by simp)
          have hm5 := h2.step s5 n0
          have hb0 := h5'.step s5 n1
          have hb1 := h6.step s5 n2
          have c0 := hb0.cell 0
          have fr0 := hb0.free 0
          have c1 := hb1.cell 0
          have c2 := hb1.cell 1
          have fr1 := hb1.free 0
          have fr2 := hb1.free 1
          have lt0 := hb0.lt
          have lt1 := hb1.lt
          simp only [List.getElem?_toArray, List.getElem?_cons_zero, List.getElem?_cons_succ] at c0 c1 c2
          have hin : (xk, xr) ∈ t := by
            obtain ⟨p, hp⟩ := g2
            rw [hp]
            simp
          have hgk := h1.good (xk, xr) (by simp)
          have hfx := (HTL.out.1 xk xr).2 hin
          have hlk := (hm5.step ((Step.refl [] w5).alloc (.cells #[.string xk, .int .u8 xr] 62)) (by simp)).run (t := 59) Try.underlying59 (0 : Int) (zeroU _) xk hgk
          rw [hfx] at hlk
          simp only [Option.getD_some, intEl, strKey] at hlk
          have hdj := h3.fresh (w := wr) (fun k hk => by
            simp at hk
            rcases hk with rfl | rfl | rfl
            · exact h2.lt
            · exact h5'.lt
            · exact h6.lt) f5
          have hst := h4.then s5 (fun k hk => .inr (h1.low k hk))
          have hmN : m + 1 + t'.length = N := by simp at g1; omega
          have hm60 : m < 61 := by omega
          obtain ⟨W, hW⟩ : ∃ W, (((w5.setCell ⟨b0 + 1, 0, none⟩ (.string xk)).setCell ⟨b0 + 1, 1, none⟩ (.int .u8 xr)).setCell ⟨b0, 0, none⟩ (.int .i64 ((m + 1 : Nat) : Int))).alloc (.cells #[.string xk, .int .u8 xr] 62) = W := ⟨_, rfl⟩
          have hX : Step [b0, b0 + 1] w5 W := by
            rw [← hW]
            exact ((((Step.refl [b0, b0 + 1] w5).setCell (.inl (by simp)) _ _).setCell (.inl (by simp)) _ _).setCell (.inl (by simp)) _ _).alloc _
          have HX := Lib.hid hW
          have hmb : mb < b0 := HTL.out.2.2.2.2.1
          have hlow := HTL.out.2.2.1
          have hrel : Hs W w1.heap.size hb t' F5 ∧ MapF (strKey Try.underlying9) elU W mb i f ∧ Dj [mb, b0, b0 + 1] F5 ∧ Step [] w1 W ∧ Blk W b0 #[.int .i64 ((m + 1 : Nat) : Int)] 3 ∧ Blk W (b0 + 1) #[.string xk, .int .u8 xr] 62 ∧ m + 1 + t'.length = N ∧ (∃ p, t = p ++ t') ∧ (0 < m + 1 → ∀ x ∈ t', lt (xk, xr) x = true) := by
            refine ⟨h5.step hX (fun k hk hm => ?_), hm5.step hX (by simp; omega), hdj, hst.then hX (fun k hk => .inr (by simp at hk; omega)), ?_, ?_, hmN, ?_, fun _ => (List.pairwise_cons.1 h1.srt).1⟩
            · simp at hm
              rcases hm with rfl | rfl
              · exact hdj k (by simp) hk
              · exact hdj (b0 + 1) (by simp) hk
            · rw [← hW]
              exact ((((hb0.set_ne _ _ _ (by omega)).set_ne _ _ _ (by omega)).set 0 _).alloc _)
            · rw [← hW]
              exact (((((hb1.set 0 (.string xk)).set 1 (.int .u8 xr)).set_ne b0 0 _ (by omega)).alloc _))
            · obtain ⟨p, hp⟩ := g2
              exact ⟨p ++ [(xk, xr)], by rw [hp]; simp⟩
          have HREL := Lib.hid hrel
          have HSZ := Lib.hid h1.sz
          clear hrel hX hW hmb hlow
          have e1 : IntKind.i64.wrap ((m : Int) + 1) = ((m + 1 : Nat) : Int) := by rw [HpC.wrapI (by omega) (by omega)]; omega
          clear h1 h2 h3 h4 h5' h6 g1 g2 hb0 hb1 hm5 hin hgk hfx hdj hst hmN h5 s5 f5 n0 n1 n2 HP
          by_cases hm0 : m = 0
          · subst hm0
            clear g3 HQ
            go_wp2_with fail
            go_roundw
            case rel =>
              have hr := HREL.out
              rw [← HX.out] at hr
              exact ⟨t', F5, (xk, xr), 0 + 1, hr⟩
            case measure =>
              have hr := HREL.out.1.sz
              rw [← HX.out] at hr
              have hz := HSZ.out
              simp only [List.length_cons] at hz
              refine Nat.lt_of_lt_of_eq ?_ hz.symm
              exact Nat.lt_succ_of_le (Nat.le_of_eq hr)
          · have hl := g3 (by omega) (xk, xr) (by simp)
            have p5 : decide ((0 : Int) < (m : Int)) = true := by simp; omega
            have p6 : 0 < m := by omega
            clear g3 HQ
            simp only [HpC.lt, Hp.ltI, Bool.or_eq_true, Bool.and_eq_true, decide_eq_true_eq] at hl
            obtain ⟨wk, wr_⟩ := was
            dsimp only at hl c1 c2
            rcases hl with hl | ⟨hl, hl2⟩
            · have qa : decide (xr < wr_) = false := by simp; omega
              have qb : (wr_ == xr) = false := by simp; omega
              go_wp2_with fail
              go_roundw
              case rel =>
                have hr := HREL.out
                rw [← HX.out] at hr
                exact ⟨t', F5, (xk, xr), m + 1, hr⟩
              case measure =>
                have hr := HREL.out.1.sz
                rw [← HX.out] at hr
                have hz := HSZ.out
                simp only [List.length_cons] at hz
                refine Nat.lt_of_lt_of_eq ?_ hz.symm
                exact Nat.lt_succ_of_le (Nat.le_of_eq hr)
            · subst hl
              have qb : Op.bytesLess wk.toList xk.toList = true := hl2
              go_wp2_with fail
              go_roundw
              case rel =>
                have hr := HREL.out
                rw [← HX.out] at hr
                exact ⟨t', F5, (xk, wr_), m + 1, hr⟩
              case measure =>
                have hr := HREL.out.1.sz
                rw [← HX.out] at hr
                have hz := HSZ.out
                simp only [List.length_cons] at hz
                refine Nat.lt_of_lt_of_eq ?_ hz.symm
                exact Nat.lt_succ_of_le (Nat.le_of_eq hr)
theorem sorts_any (a b : Option Addr) (ca cb : Nat) (la : List ByteArray) (lb : List Int) (w : World) (hA : Strs w a la) (hB : Nums .u8 w b lb) (wa : ∀ x ∈ la, x.size ≤ maxLen) :
    Calls Try.prog 5 #[.slice a la.length ca, .slice b lb.length cb] w fun e w' => e = .returned (.bool true) ∧ Below w.heap.size w w' := by
  by_cases na : la.length ≤ 60
  · exact sorts_in a b ca cb la lb w hA hB wa na
  · clear hA hB wa
    generalize la.length = nA at *
    generalize lb.length = nB at *
    refine calls_of_wp_marks Try.func5 rfl ?_
    simp only [Try.ntmps5, List.size_toArray, List.length_cons, List.length_nil, Nat.reduceAdd, Nat.reduceSub, Array.replicate_succ, Array.replicate_zero, List.push_toArray, List.append_toArray, List.nil_append, List.cons_append]
    go_wp2_with fail
    refine (lives_any w).mono ?_
    rintro e w1 ⟨rfl, hs⟩
    have HS := Lib.hid hs
    clear hs
    go_wp2_with fail
    refine (lives_any w1).mono ?_
    rintro e w2 ⟨rfl, hs⟩
    have HT := Lib.hid (HS.out.then hs (fun k hk => by cases hk))
    clear hs HS
    go_wp2_with fail
    exact ⟨_, results_tmp rfl _ _ _, rfl, HT.out.below'⟩
end Go.Proofs.Ytdbhldlgfchjpaa
