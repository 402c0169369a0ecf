/- heap E (string, uint64): New, First, Pop, Rank. -/
import Derived.Test.YtebgojcecgimaaaHpHE
import Derived.Laws.ResultCell
namespace Go.Proofs.Ytebgojcecgimaaa
set_option linter.unusedVariables false
set_option linter.unusedSimpArgs false
open Go.RowKit
namespace HpE
def hd (l : List It) : It × Bool := if l.length = 0 then ((ByteArray.empty, 0), false) else (Hp.nth l 0, true)
theorem hd_nil {l : List It} (h : l.length = 0) : hd l = ((ByteArray.empty, 0), false) := if_pos h
theorem hd_cons {l : List It} (h : 0 < l.length) : hd l = (Hp.nth l 0, true) := if_neg (by omega)
set_option maxHeartbeats 1000000 in
theorem first_any (base hb mb : Nat) (lv : Value) (l : List It) (f : ByteArray → Option Int) (w : World) (h : HR w base hb lv mb l f) :
    Calls Try.prog 38 #[.pointer (some ⟨hb, 0, none⟩)] w fun e w' => e = .returned (.tuple #[.agg #[.string ((hd l).1.1), .int .u64 ((hd l).1.2)], .bool (hd l).2]) ∧ Step [] w w' := by
  have HL := Lib.hid (fun o => len_any base hb mb lv l f (w.alloc o) (h.step ((Step.refl [] w).alloc o) (by simp)))
  by_cases h0 : l.length = 0
  · rw [hd_nil h0]
    rw [h0] at HL
    clear h
    go_enter Try.func38, Try.ntmps38
    go_wp2_with fail
    refine (HL.out _).mono ?_
    rintro e w2 ⟨rfl, rfl⟩
    go_wp2_with fail
    refine bodyPost_ret (v := .tuple #[.agg #[.string (ByteArray.empty), .int .u64 (0)], .bool false]) (by rw [results_cell_tmp rfl]; go_simp <;> rfl) rfl ⟨rfl, ?_⟩
    (repeat' (first | exact Step.refl _ _ | refine Step.drew ?_ | refine Step.setCell ?_ (.inr (by simp <;> omega)) _ _ | refine Step.alloc ?_ _))
  · rw [hd_cons (by omega)]
    obtain ⟨gb, cap, rfl⟩ := lv_some h (by omega)
    obtain ⟨⟨xk, xr⟩, hx⟩ : ∃ x, Hp.nth l 0 = x := ⟨_, rfl⟩
    obtain ⟨ck, cr⟩ := h.cell 0 (by omega)
    rw [hx] at ck cr ⊢
    simp only [Nat.zero_mul, Nat.zero_add] at ck cr
    have c0 : w.cell? ⟨hb, 0, none⟩ = some (.slice (some ⟨gb, 0, none⟩) l.length cap) := h.blk.cell 0
    obtain ⟨n, hn⟩ : ∃ n, l.length = n + 1 := ⟨l.length - 1, by omega⟩
    rw [hn] at HL c0
    have h1 := h.blk.lt
    have h2 := World.block_lt_of_cell? w _ ck
    have e1 : (((n + 1 : Nat) : Int) == 0) = false := by simp; omega
    have e2 : (((n : Int) + 1) == 0) = false := by simp; omega
    clear h hn h0 hx
    go_enter Try.func38, Try.ntmps38
    go_wp2_with fail
    refine (HL.out _).mono ?_
    rintro e w2 ⟨rfl, rfl⟩
    go_wp2_with fail
    refine bodyPost_ret (v := .tuple #[.agg #[.string (xk), .int .u64 (xr)], .bool true]) (by rw [results_cell_tmp rfl]; go_simp <;> rfl) rfl ⟨rfl, ?_⟩
    (repeat' (first | exact Step.refl _ _ | refine Step.drew ?_ | refine Step.setCell ?_ (.inr (by simp <;> omega)) _ _ | refine Step.alloc ?_ _))
def popL (l : List It) : List It := Hp.wo (key := fun x : It => x.1) (hd l).1.1 l
def PopPost (base hb : Nat) (lv : Value) (mb : Nat) (l : List It) (w : World) (e : Ending) (w' : World) : Prop :=
  e = .returned (.tuple #[.agg #[.string ((hd l).1.1), .int .u64 ((hd l).1.2)], .bool (hd l).2]) ∧ ∃ lv' l' f', HR w' base hb lv' mb l' f' ∧ Hp.OK (Hp.ltI ltStr) l' ∧ l'.Perm (popL l) ∧ Step (footH hb lv mb) w w' ∧ Fresh w (foot lv) (foot lv')
set_option maxHeartbeats 1000000 in
theorem pop_any (base hb mb : Nat) (lv : Value) (l : List It) (f : ByteArray → Option Int) (w : World) (h : HR w base hb lv mb l f) (hok : Hp.OK (Hp.ltI ltStr) l) :
    Calls Try.prog 35 #[.pointer (some ⟨hb, 0, none⟩)] w (PopPost base hb lv mb l w) := by
  unfold PopPost
  have HF := Lib.hid (fun o => first_any base hb mb lv l f (w.alloc o) (h.step ((Step.refl [] w).alloc o) (by simp)))
  by_cases h0 : l.length = 0
  · have hl : l = [] := List.eq_nil_of_length_eq_zero h0
    rw [hd_nil h0] at HF ⊢
    have HH := Lib.hid (And.intro h (And.intro hok hl))
    clear h hok hl
    go_enter Try.func35, Try.ntmps35
    go_wp2_with fail
    refine (HF.out _).mono ?_
    rintro e w2 ⟨rfl, hs2⟩
    have hB := (Blk.new w #[.string (ByteArray.empty), .int .u64 (0)] 66).step hs2 (by simp)
    have hlt := hB.lt
    obtain ⟨b1, hb1⟩ : ∃ b, w.heap.size = b := ⟨_, rfl⟩
    have HSZ := Lib.hid hb1
    rw [hb1] at hB hlt ⊢
    have q0 := hB.cell 0
    have q1 := hB.cell 1
    have f0 := hB.free 0
    have f1 := hB.free 1
    simp only [List.getElem?_toArray, List.getElem?_cons_zero, List.getElem?_cons_succ] at q0 q1
    have HB := Lib.hid hB
    have HS2 := Lib.hid hs2
    clear hB hb1 hs2 HF
    go_wp2_with fail
    have hs := ((Step.refl [] w).alloc (.cells #[.string (ByteArray.empty), .int .u64 (0)] 66)).then HS2.out (by simp)
    have hsz := HSZ.out
    have hst : Step [] w (((w2.setCell ⟨b1, 0, none⟩ (.string (ByteArray.empty))).setCell ⟨b1, 1, none⟩ (.int .u64 (0))).alloc (.cells #[.string (ByteArray.empty), .int .u64 (0)] 66)) :=
      ((hs.setCell (.inr (by omega)) 0 _).setCell (.inr (by omega)) 1 _).alloc _
    obtain ⟨h, hok, hl⟩ := HH.out
    refine bodyPost_ret (v := .tuple #[.agg #[.string (ByteArray.empty), .int .u64 (0)], .bool false]) (by rw [results_cell_tmp rfl]; go_simp <;> rfl) rfl ⟨rfl, lv, l, f, h.step hst (by simp), hok, ?_, hst.mono (by simp), fun k hk => .inl hk⟩
    rw [hl]
    exact List.Perm.refl _
  · rw [hd_cons (by omega)] at HF ⊢
    obtain ⟨⟨xk, xr⟩, hx⟩ : ∃ x, Hp.nth l 0 = x := ⟨_, rfl⟩
    have hg : ((strKey Try.underlying9) : KeyT Try.prog _ _).good (Hp.nth l 0).1 := h.good _ (Hp.nth_mem l 0 (by omega))
    have hpl : popL l = Hp.wo (key := fun x : It => x.1) xk l := by unfold popL; rw [hd_cons (by omega), hx]
    rw [hx] at HF hg ⊢
    have HC := Lib.hid (fun (W : World) (hs : Step [] w W) => cut_any base hb mb lv l f xk W (h.step hs (by simp)) hok hg)
    have hbl := h.base'
    have hlv := h.live
    have HH := Lib.hid (And.intro hpl (And.intro hlv (h.at'.1 0 (by omega))))
    clear h hok hg hpl hbl hlv h0
    go_enter Try.func35, Try.ntmps35
    go_wp2_with fail
    refine (HF.out _).mono ?_
    rintro e w2 ⟨rfl, hs2⟩
    have hB := (Blk.new w #[.string (ByteArray.empty), .int .u64 (0)] 66).step hs2 (by simp)
    have hlt := hB.lt
    have hs := ((Step.refl [] w).alloc (.cells #[.string (ByteArray.empty), .int .u64 (0)] 66)).then hs2 (by simp)
    have HC2 := Lib.hid (HC.out _ (hs.alloc (.cells #[.string (xk), .int .u64 (xr)] 66)))
    have HB := Lib.hid (hB.alloc (.cells #[.string (xk), .int .u64 (xr)] 66))
    have HB2 := Lib.hid (Blk.new w2 #[.string (xk), .int .u64 (xr)] 66)
    have HS2 := Lib.hid (hs.alloc (.cells #[.string (xk), .int .u64 (xr)] 66))
    obtain ⟨b1, hb1⟩ : ∃ b, w.heap.size = b := ⟨_, rfl⟩
    have HSZ := Lib.hid hb1
    rw [hb1] at HB hlt ⊢
    clear hB hb1 hs2 HF HC hs
    go_wp2_with fail
    refine HC2.out.mono ?_
    rintro e w5 ⟨rfl, lv', l', f', hR, hO, hp, hs5, hfr⟩
    obtain ⟨hpl, hlv, hsome⟩ := HH.out
    have hsz := HSZ.out
    have n1 : b1 ∉ footH hb lv mb := fun hk => by have := hlv _ hk; omega
    have n2 : w2.heap.size ∉ footH hb lv mb := fun hk => by have := hlv _ hk; omega
    have hB1 := HB.out.step hs5 n1
    have hB2 := HB2.out.step hs5 n2
    have q0 := hB1.cell 0
    have q1 := hB1.cell 1
    have f0 := hB1.free 0
    have f1 := hB1.free 1
    have r0 := hB2.cell 0
    have r1 := hB2.cell 1
    have hl1 := hB1.lt
    have hl2 := hB2.lt
    obtain ⟨b2, hb2⟩ : ∃ b, w2.heap.size = b := ⟨_, rfl⟩
    have HSZ2 := Lib.hid hb2
    rw [hb2] at r0 r1 hl2 hlt ⊢
    simp only [List.getElem?_toArray, List.getElem?_cons_zero, List.getElem?_cons_succ] at q0 q1 r0 r1
    have hst := (HS2.out.mono (G := footH hb lv mb) (by simp)).then hs5 (fun k hk => .inl hk)
    have HP := Lib.hid (And.intro hR (And.intro hO (And.intro hp (And.intro hst hfr))))
    clear hR hO hp hs5 hfr hpl hlv hB1 hB2 n1 n2 hst hb2 HC2
    go_wp2_with fail
    obtain ⟨hR, hO, hp, hst, hfr⟩ := HP.out
    obtain ⟨hpl, hlv, _⟩ := HH.out
    have hsz2 := HS2.out.size
    have hS5 : Step [b1] w5 ((w5.setCell ⟨b1, 0, none⟩ (.string (xk))).setCell ⟨b1, 1, none⟩ (.int .u64 (xr))) := ((Step.refl [b1] w5).setCell (.inl (by simp)) 0 _).setCell (.inl (by simp)) 1 _
    have hfr2 : Fresh w (foot lv) (foot lv') := fun k hk => (hfr k hk).elim .inl (fun h => .inr (by omega))
    have hn : ∀ k, k ∈ footH hb lv' mb → k ∉ [b1] := by
      intro k hk hm
      simp at hm
      subst hm
      have h1 := hlv hb (by simp [footH])
      have h2 := hlv mb (by simp [footH])
      simp only [footH, List.mem_cons] at hk
      rcases hk with hk | hk | hk
      · omega
      · omega
      · rcases hfr k hk with h5 | h5
        · have := hlv k (by simp [footH, h5])
          omega
        · rw [World.size_alloc] at h5
          have := HSZ2.out
          omega
    refine bodyPost_ret (v := .tuple #[.agg #[.string (xk), .int .u64 (xr)], .bool true]) (by rw [results_cell_tmp rfl]; go_simp <;> rfl) rfl ⟨rfl, lv', l', f', hR.step hS5 hn, hO, ?_, hst.then hS5 (by intro k hk; simp at hk; exact .inr (by omega)), hfr2⟩
    rw [hpl]
    exact hp
set_option maxHeartbeats 1000000 in
theorem new_any (w : World) :
    Calls Try.prog 21 #[] w fun e w' => e = .returned (.pointer (some ⟨w.heap.size + 1, 0, none⟩)) ∧ HR w' w.heap.size (w.heap.size + 1) (.slice none 0 0) w.heap.size [] (fun _ => Option.none) ∧ Step [] w w' := by
  have hmm := @run_makeMap Try.prog
  go_enter Try.func21, Try.ntmps21
  go_wp2_with fail
  have hm := (MapF.made (strKey Try.underlying9) (intEl .i64) w).step ((Step.refl [] _).alloc (.cells #[.slice none 0 0, .map (some w.heap.size)] 71)) (by simp)
  have hb := Blk.new (w.alloc (.map #[] 0)) #[.slice none 0 0, .map (some w.heap.size)] 71
  rw [World.size_alloc] at hb
  have hs1 : Step [] w ((w.alloc (.map #[] 0)).alloc (.cells #[.slice none 0 0, .map (some w.heap.size)] 71)) := ((Step.refl [] w).alloc _).alloc _
  go_ret
  exact ⟨rfl, ⟨hb, World.ownsRow_nil _ _ _ _, hm, Hp.at_nil, (fun x hx => absurd hx List.not_mem_nil), ⟨by omega, Nat.le_refl _⟩, by simp [foot, Value.ownBlock], by simp [foot, Value.ownBlock], by omega, by simp⟩, hs1⟩
end HpE
end Go.Proofs.Ytebgojcecgimaaa
