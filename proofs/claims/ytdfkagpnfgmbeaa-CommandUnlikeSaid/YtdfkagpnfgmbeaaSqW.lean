/- Few, spec.Clone, complineref14.Bytes. -/
import Derived.Test.YtdfkagpnfgmbeaaSqM
namespace Go.Proofs.Ytdfkagpnfgmbeaa
set_option linter.unusedVariables false
open Go.RowKit
attribute [local go_sem ↓] exec_load_s exec_store_s
attribute [local go_sem] Try.load_s row_drew Try.store_s

theorem blk2' (w : World) (C D : Array Value) (T : TypeId) : Blk ((w.alloc (.cells C T)).alloc (.cells D T)) w.heap.size C T ∧ Blk ((w.alloc (.cells C T)).alloc (.cells D T)) (w.heap.size + 1) D T ∧ Step [] w ((w.alloc (.cells C T)).alloc (.cells D T)) := by
  refine ⟨(Blk.new w C T).alloc _, ?_, ((Step.refl [] w).alloc _).alloc _⟩
  have := Blk.new (w.alloc (.cells C T)) D T
  rwa [World.size_alloc] at this

def fewDs (l : List (List UInt8)) : Bool := l.all fun d => decide (d.length ≤ 60)
def fewS (s : PS) : Bool := fewDs s.ds && decide (s.nm.length ≤ 60) && decide (s.tn.length ≤ 60) && decide (s.ds.length ≤ 20) && decide (s.cr.length ≤ 200)
theorem fewS_iff (s : PS) : fewS s = true ↔ FewS s := by
  unfold fewS fewDs
  simp only [Bool.and_eq_true, List.all_eq_true, decide_eq_true_eq]
  exact ⟨fun ⟨⟨⟨⟨h1, h2⟩, h3⟩, h4⟩, h5⟩ => ⟨h2, h3, h4, h1, h5⟩, fun ⟨h2, h3, h4, h1, h5⟩ => ⟨⟨⟨⟨h1, h2⟩, h3⟩, h4⟩, h5⟩⟩

set_option maxRecDepth 20000 in
set_option maxHeartbeats 1000000 in
theorem few_any (s : PS) (a : Option Addr) (c : Nat) (w : World) (ha : TxS w a s.ds) (hl : s.ds.length ≤ 9223372036854775807) (h1 : s.nm.length ≤ 9223372036854775807) (h2 : s.tn.length ≤ 9223372036854775807) (h3 : s.cr.length ≤ 9223372036854775807) (h4 : ∀ d ∈ s.ds, d.length ≤ 9223372036854775807) :
    Calls Try.prog 29 #[.agg (spC s a s.ds.length c).toArray] w fun e w' => e = .returned (.bool (fewS s)) ∧ Step [] w w' := by
  have hb := Blk.new w (spC s a s.ds.length c).toArray 36
  have hst := (Step.refl [] w).alloc (.cells (spC s a s.ds.length c).toArray 36)
  obtain ⟨c0, c1, c2, c3, c4, c5, c6, c7, c8, c9, c10⟩ := sp_cells hb
  have HA := Lib.hid (ha.step0 hst)
  have HS := Lib.hid hst
  have H4 := Lib.hid h4
  have z0 := bstr_size s.nm
  have z1 := bstr_size s.tn
  have z9 := bstr_size s.cr
  obtain ⟨r, hr⟩ : ∃ r, fewS s = r := ⟨_, rfl⟩
  rw [hr]
  have HR := Lib.hid hr
  clear hb hst ha h4 hr c2 c3 c5 c6 c7 c8 c10
  obtain ⟨n, hn⟩ : ∃ n, s.ds.length = n := ⟨_, rfl⟩
  have HN := Lib.hid hn
  rw [hn] at HA HS c0 c1 c4 c9 hl ⊢
  clear hn
  go_enter Try.func29, Try.ntmps29
  go_wp2_with fail
  obtain ⟨W, hW⟩ : ∃ W, w.alloc (.cells (spC s a n c).toArray 36) = W := ⟨_, rfl⟩
  rw [hW] at HA HS c0 c1 c4 c9 ⊢
  clear hW
  go_loop [8] (fun j => ∃ k : Nat, j = .int .i64 k ∧ k ≤ n ∧ fewDs (s.ds.take k) = true) (fun j => n - (intOf j).toNat)
  case atStart => exact ⟨0, rfl, Nat.zero_le _, by simp [fewDs]⟩
  case round =>
    obtain ⟨k, rfl, hk, hf⟩ := hrel
    have HF := Lib.hid hf
    clear hf
    by_cases hkn : k < n
    · have hkl : k < s.ds.length := by rw [HN.out]; exact hkn
      obtain ⟨b1, off, rfl, hlt, hc⟩ := HA.out k hkl
      have hkk : (k : Int) < (n : Int) := by omega
      have hd := H4.out _ (List.getElem_mem hkl)
      have hge := getD_eq (d := ([] : List UInt8)) hkl
      have htk : s.ds.take (k + 1) = s.ds.take k ++ [s.ds[k]] := List.take_succ_eq_append_getElem hkl
      rw [hge] at hc
      obtain ⟨x, hx⟩ : ∃ x, s.ds[k] = x := ⟨_, rfl⟩
      rw [hx] at hc hd htk
      have HX := Lib.hid (And.intro hx htk)
      have zx := bstr_size x
      have hmem : x ∈ s.ds := by rw [← hx]; exact List.getElem_mem hkl
      have HM := Lib.hid hmem
      clear hx htk hge hmem
      by_cases h60 : x.length ≤ 60
      · go_wp2_with fail
        go_round
        case rel => exact ⟨k + 1, by go_num, by omega, by
          rw [HX.out.2]
          have := HF.out
          unfold fewDs at this ⊢
          rw [List.all_append, this]
          simp [h60]⟩
        case measure => simp [intOf]; omega
      · have hr : r = false := by
          rw [← HR.out]
          unfold fewS
          have : fewDs s.ds = false := by
            unfold fewDs
            rw [List.all_eq_false]
            exact ⟨x, HM.out, by simpa using h60⟩
          rw [this]
          rfl
        have HRF := Lib.hid hr
        clear hr
        go_wp2_with fail
        go_ret
        exact ⟨by rw [HRF.out]; rfl, HS.out⟩
    · have hke : k = n := by omega
      subst hke
      have hds : fewDs s.ds = true := by
        have := HF.out
        rwa [← HN.out, List.take_length] at this
      have hr2 : r = (decide (s.nm.length ≤ 60) && decide (s.tn.length ≤ 60) && decide (k ≤ 20) && decide (s.cr.length ≤ 200)) := by
        rw [← HR.out]
        unfold fewS
        rw [hds, HN.out]
        simp
      have HR2 := Lib.hid hr2
      clear hds hr2 HF
      go_wp2
      all_goals go_ret
      all_goals refine ⟨?_, HS.out⟩
      all_goals rw [HR2.out]
      all_goals refine congrArg (fun b => Ending.returned (Value.bool b)) ?_
      all_goals rw [Bool.eq_iff_iff]
      all_goals simp only [Bool.and_eq_true, decide_eq_true_eq, Bool.false_eq_true, false_iff]
      all_goals omega

/-- a spec's copy -/
def Copied (s : PS) (w : World) (e : Ending) (w' : World) : Prop := ∃ a c, e = .returned (.agg (spC s a s.ds.length c).toArray) ∧ w'.ownsRow w.heap.size 9 1 (.slice a s.ds.length c) s.ds.length (s.ds.map txV) ∧ Step [] w w'
attribute [local go_sem] zeroS'
set_option maxRecDepth 20000 in
set_option maxHeartbeats 1000000 in
theorem sclone_any (s : PS) (a : Option Addr) (c : Nat) (w : World) (hn : a = none → s.ds.length = 0 ∧ c = 0) (ha : TxS w a s.ds) (hl : s.ds.length ≤ 1000000) :
    Calls Try.prog 33 #[.agg (spC s a s.ds.length c).toArray] w (Copied s w) := by
  obtain ⟨hb1, hb2, hst⟩ := blk2' w (spC s a s.ds.length c).toArray (spC ps0 none 0 0).toArray 36
  have HC := Lib.hid (fun (W : World) (hs : Step [] w W) => clone_txs a c s.ds W hn (ha.step0 hs) hl)
  obtain ⟨W, hW⟩ : ∃ W, (w.alloc (.cells (spC s a s.ds.length c).toArray 36)).alloc (.cells (spC ps0 none 0 0).toArray 36) = W := ⟨_, rfl⟩
  rw [hW] at hb1 hb2 hst
  have HW := Lib.hid (show (w.alloc (.cells (spC s a s.ds.length c).toArray 36)).alloc (.cells #[.string { data := #[] }, .string { data := #[] }, .int .i64 0, .int .i64 0, .slice none 0 0, .int .i64 0, .int .i64 0, .int .i64 0, .int .i64 0, .string { data := #[] }, .int .i64 0] 36) = W from hW)
  have HB1 := Lib.hid hb1
  have HB2 := Lib.hid hb2
  have HS := Lib.hid hst
  have c4 := (sp_cells hb1).2.2.2.2.1
  clear hW hb1 hb2 hst ha hn
  go_enter Try.func33, Try.ntmps33
  go_wp2_with (rw [HW.out])
  refine (HC.out W HS.out).mono ?_
  rintro e w1 ⟨a1, c1, rfl, ho, hs1⟩
  have hB1 := HB1.out.step hs1 (by simp)
  have hB2 := HB2.out.step hs1 (by simp)
  have hS1 := HS.out.then hs1 (by simp)
  have hwsz : W.heap.size = w.heap.size + 2 := by
    rw [← HW.out, World.size_alloc, World.size_alloc]
  obtain ⟨b, hb⟩ : ∃ b, w.heap.size = b := ⟨_, rfl⟩
  have hlow : w.heap.size ≤ b := by omega
  rw [hb] at hB1 hB2
  have hne : b + 1 ≠ b := by omega
  have f4 := hB1.free 4
  have k4 := hB1.cell 4
  simp only [spC, List.getElem?_toArray, List.getElem?_cons_zero, List.getElem?_cons_succ] at k4
  have r1 : Blk (w1.setCell ⟨b, 4, none⟩ (.slice a1 s.ds.length c1)) b (spC s a1 s.ds.length c1).toArray 36 := hB1.set 4 _
  have r2 := hB2.set_ne b 4 (.slice a1 s.ds.length c1) hne
  have q1 := sp_row r1
  have q2 := sp_there r2
  have hfin : Blk ((w1.setCell ⟨b, 4, none⟩ (.slice a1 s.ds.length c1)).setCells (b + 1) 0 (spC s a1 s.ds.length c1)) (b + 1) (spC s a1 s.ds.length c1).toArray 36 := sp_set r2
  have hsx : Step [b, b + 1] w1 ((w1.setCell ⟨b, 4, none⟩ (.slice a1 s.ds.length c1)).setCells (b + 1) 0 (spC s a1 s.ds.length c1)) := ((Step.refl _ w1).setCell (.inl (by simp)) 4 _).setCells (.inl (by simp)) _ _
  have hst : Step [] w ((w1.setCell ⟨b, 4, none⟩ (.slice a1 s.ds.length c1)).setCells (b + 1) 0 (spC s a1 s.ds.length c1)) := (hS1.setCell (.inr hlow) 4 _).setCells (.inr (by omega)) _ _
  have hof := owns_low (owns_step ho hsx (fun k hk hm => by
    have h1 := owns_base ho k hk
    simp only [List.mem_cons, List.not_mem_nil, or_false] at hm
    omega)) (show w.heap.size ≤ W.heap.size by omega)
  have HF := Lib.hid (show Copied s w (.returned (.agg (spC s a1 s.ds.length c1).toArray)) ((w1.setCell ⟨b, 4, none⟩ (.slice a1 s.ds.length c1)).setCells (b + 1) 0 (spC s a1 s.ds.length c1)) from ⟨a1, c1, rfl, hof, hst⟩)
  have HX := Lib.hid hfin
  clear hof hst hsx hfin ho hs1 hS1 r1 r2 hB1 hB2
  simp only [hb]
  go_simp
  go_wp2_with fail
  refine bodyPost_ret (v := .agg (spC s a1 s.ds.length c1).toArray) (results_cell_row rfl _ _ (b + 1) 36 _ (0, 0) _ rfl HX.out Try.underlying36 rfl (by kernel_rfl)) rfl HF.out
end Go.Proofs.Ytdfkagpnfgmbeaa
