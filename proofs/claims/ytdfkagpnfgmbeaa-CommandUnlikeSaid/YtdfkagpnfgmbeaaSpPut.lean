/- spec.Put. -/
import Derived.Test.YtdfkagpnfgmbeaaGetS
namespace Go.Proofs.Ytdfkagpnfgmbeaa
set_option linter.unusedVariables false
open Go.RowKit
attribute [local go_sem ↓] exec_load_s exec_store_s
attribute [local go_sem] Try.load_s row_drew Try.store_s

theorem txS_low {w : World} {a : Option Addr} {l : List (List UInt8)} (h : TxS w a l) {base pb : Nat} {v : Value} {bs : List UInt8} {w' : World} (hW : Wr w' base pb v bs) (hb : w.heap.size ≤ base) (hl : 0 < l.length) : ∀ b off, a = some ⟨b, off, none⟩ → b ∉ pb :: foot v := by
  intro b off ha hm
  obtain ⟨b', off', ha', hlt, -⟩ := h 0 hl
  rw [ha] at ha'
  cases ha'
  rcases List.mem_cons.1 hm with rfl | hm
  · have := hW.low; omega
  · have := owns_base hW.own _ hm; omega

set_option maxRecDepth 20000 in
set_option maxHeartbeats 2000000 in
theorem sput_any (w0 : World) (base pb : Nat) (v : Value) (bs : List UInt8) (s : PS) (a : Option Addr) (c : Nat) (w : World) (hW : Wr w base pb v bs) (h0 : w0.heap.size ≤ base) (hs : Step [] w0 w) (ha : TxS w0 a s.ds)
    (hf : LitS s) (hw : WfS s) (hbl : bs.length ≤ 1000000) :
    Calls Try.prog 42 #[.pointer (some ⟨pb, 0, none⟩), .agg (spC s a s.ds.length c).toArray] w (Wrote base pb v (bs ++ bytesS s) w) := by
  have hb1 := Blk.new w (spC s a s.ds.length c).toArray 36
  have hst := (Step.refl (pb :: foot v) w).alloc (.cells (spC s a s.ds.length c).toArray 36)
  have hap0 : w.heap.size ∉ pb :: foot v := fun hm => by
    rcases List.mem_cons.1 hm with h | hm
    · have := hW.blk.lt; omega
    · have := owns_live hW.own _ hm; omega
  have hP : Pk w base pb v w.heap.size (spC s a s.ds.length c).toArray 36 1000000 v bs (w.alloc (.cells (spC s a s.ds.length c).toArray 36)) :=
    ⟨hW.step ((Step.refl [] w).alloc _) (by simp) (by simp), hst, fun k hk => .inl hk, hb1, hap0, hbl⟩
  have HX := Lib.hid (And.intro hf hw)
  have hD : ∀ (n : Nat) (v1 : Value) (bs1 : List UInt8) (w1 : World), Pk w base pb v w.heap.size (spC s a s.ds.length c).toArray 36 n v1 bs1 w1 → n ≤ 1000000000 → Calls Try.prog 54 #[.pointer (some ⟨pb, 0, none⟩), .slice a s.ds.length c, .func (.func 52) #[] #[]] w1 (Wrote base pb v1 (bs1 ++ (numB s.ds.length ++ depsS s.ds)) w1) := by
    intro n v1 bs1 w1 hp hn
    exact puts_any base pb v1 bs1 a c s.ds w1 hp.wr ((ha.step0 hs).step' hp.st (txS_low ha hW h0)) (txS_low ha hp.wr h0) hf.dl hf.ds (by have := hp.len; omega)
  have HD := Lib.hid hD
  have HA := Lib.hid ha
  have HS0 := Lib.hid (And.intro hs h0)
  obtain ⟨n, hn⟩ : ∃ n, s.ds.length = n := ⟨_, rfl⟩
  have HN := Lib.hid hn
  obtain ⟨W, hWW⟩ : ∃ W, w.alloc (.cells (spC s a s.ds.length c).toArray 36) = W := ⟨_, rfl⟩
  rw [hWW] at hP
  have HWW := Lib.hid hWW
  have HP := Lib.hid hP
  clear hb1 hst hap0 hP hD hWW hn ha hf hw hbl hW hs h0
  rw [HN.out] at HP HWW HD ⊢
  obtain ⟨B, hB⟩ : ∃ B, w.heap.size = B := ⟨_, rfl⟩
  have HB := Lib.hid hB
  obtain ⟨c0, c1, c2, c3, c4, c5, c6, c7, c8, c9, c10⟩ := sp_cells HP.out.blk
  rw [hB] at c0 c1 c2 c3 c4 c5 c6 c7 c8 c9 c10 HP HD
  clear hB
  go_enter Try.func42, Try.ntmps42
  go_wp2_with (rw [HWW.out, HB.out])
  have hp := HP.out
  refine (wtext_any base pb _ _ s.nm _ HP.out.wr (by have := HP.out.len; have := HX.out.1.nm; omega)).mono ?_
  rintro e w2 hwr
  obtain ⟨rfl, v1, hP⟩ := hp.next (show (txtB s.nm).length ≤ 1010 by have := txtB_len s.nm; have := HX.out.1.nm; omega) hwr
  clear HP c0 c1 c2 c3 c4 c5 c6 c7 c8 c9 c10 hwr hp
  have HP := Lib.hid hP
  obtain ⟨c0, c1, c2, c3, c4, c5, c6, c7, c8, c9, c10⟩ := sp_cells hP.blk
  clear hP
  go_wp2_with fail
  have hp := HP.out
  refine (wtext_any base pb _ _ s.tn _ HP.out.wr (by have := HP.out.len; have := HX.out.1.tn; omega)).mono ?_
  rintro e w3 hwr
  obtain ⟨rfl, v2, hP⟩ := hp.next (show (txtB s.tn).length ≤ 1010 by have := txtB_len s.tn; have := HX.out.1.tn; omega) hwr
  clear HP c0 c1 c2 c3 c4 c5 c6 c7 c8 c9 c10 hwr hp
  have HP := Lib.hid hP
  obtain ⟨c0, c1, c2, c3, c4, c5, c6, c7, c8, c9, c10⟩ := sp_cells hP.blk
  clear hP
  go_wp2_with fail
  have hp := HP.out
  refine (wint_any base pb _ _ s.pr _ HP.out.wr HX.out.2.pr (by have := HP.out.len; omega)).mono ?_
  rintro e w4 hwr
  obtain ⟨rfl, v3, hP⟩ := hp.next (show (intB s.pr).length ≤ 10 from intB_len _) hwr
  clear HP c0 c1 c2 c3 c4 c5 c6 c7 c8 c9 c10 hwr hp
  have HP := Lib.hid hP
  obtain ⟨c0, c1, c2, c3, c4, c5, c6, c7, c8, c9, c10⟩ := sp_cells hP.blk
  clear hP
  go_wp2_with fail
  have hp := HP.out
  refine (wint_any base pb _ _ s.de _ HP.out.wr HX.out.2.de (by have := HP.out.len; omega)).mono ?_
  rintro e w5 hwr
  obtain ⟨rfl, v4, hP⟩ := hp.next (show (intB s.de).length ≤ 10 from intB_len _) hwr
  clear HP c0 c1 c2 c3 c4 c5 c6 c7 c8 c9 c10 hwr hp
  have HP := Lib.hid hP
  obtain ⟨c0, c1, c2, c3, c4, c5, c6, c7, c8, c9, c10⟩ := sp_cells hP.blk
  clear hP
  go_wp2_with fail
  have hp := HP.out
  refine (HD.out _ _ _ _ hp (by omega)).mono ?_
  rintro e w6 hwr
  obtain ⟨rfl, v5, hP⟩ := hp.next (show (numB n ++ depsS s.ds).length ≤ 1100000 by have := depsS_len3 s.ds HX.out.1.dl; have := HX.out.1.ds; have := numB_len n; rw [List.length_append]; omega) hwr
  clear HP c0 c1 c2 c3 c4 c5 c6 c7 c8 c9 c10 hwr hp
  have HP := Lib.hid hP
  obtain ⟨c0, c1, c2, c3, c4, c5, c6, c7, c8, c9, c10⟩ := sp_cells hP.blk
  clear hP
  go_wp2_with fail
  have hp := HP.out
  refine (wint_any base pb _ _ s.ba _ HP.out.wr HX.out.2.ba (by have := HP.out.len; omega)).mono ?_
  rintro e w7 hwr
  obtain ⟨rfl, v6, hP⟩ := hp.next (show (intB s.ba).length ≤ 10 from intB_len _) hwr
  clear HP c0 c1 c2 c3 c4 c5 c6 c7 c8 c9 c10 hwr hp
  have HP := Lib.hid hP
  obtain ⟨c0, c1, c2, c3, c4, c5, c6, c7, c8, c9, c10⟩ := sp_cells hP.blk
  clear hP
  go_wp2_with fail
  have hp := HP.out
  refine (wint_any base pb _ _ s.ca _ HP.out.wr HX.out.2.ca (by have := HP.out.len; omega)).mono ?_
  rintro e w8 hwr
  obtain ⟨rfl, v7, hP⟩ := hp.next (show (intB s.ca).length ≤ 10 from intB_len _) hwr
  clear HP c0 c1 c2 c3 c4 c5 c6 c7 c8 c9 c10 hwr hp
  have HP := Lib.hid hP
  obtain ⟨c0, c1, c2, c3, c4, c5, c6, c7, c8, c9, c10⟩ := sp_cells hP.blk
  clear hP
  go_wp2_with fail
  have hp := HP.out
  refine (wint_any base pb _ _ s.at' _ HP.out.wr HX.out.2.at' (by have := HP.out.len; omega)).mono ?_
  rintro e w9 hwr
  obtain ⟨rfl, v8, hP⟩ := hp.next (show (intB s.at').length ≤ 10 from intB_len _) hwr
  clear HP c0 c1 c2 c3 c4 c5 c6 c7 c8 c9 c10 hwr hp
  have HP := Lib.hid hP
  obtain ⟨c0, c1, c2, c3, c4, c5, c6, c7, c8, c9, c10⟩ := sp_cells hP.blk
  clear hP
  go_wp2_with fail
  have hp := HP.out
  refine (wint_any base pb _ _ s.le _ HP.out.wr HX.out.2.le (by have := HP.out.len; omega)).mono ?_
  rintro e w10 hwr
  obtain ⟨rfl, v9, hP⟩ := hp.next (show (intB s.le).length ≤ 10 from intB_len _) hwr
  clear HP c0 c1 c2 c3 c4 c5 c6 c7 c8 c9 c10 hwr hp
  have HP := Lib.hid hP
  obtain ⟨c0, c1, c2, c3, c4, c5, c6, c7, c8, c9, c10⟩ := sp_cells hP.blk
  clear hP
  go_wp2_with fail
  have hp := HP.out
  refine (wtext_any base pb _ _ s.cr _ HP.out.wr (by have := HP.out.len; have := HX.out.1.cr; omega)).mono ?_
  rintro e w11 hwr
  obtain ⟨rfl, v10, hP⟩ := hp.next (show (txtB s.cr).length ≤ 1010 by have := txtB_len s.cr; have := HX.out.1.cr; omega) hwr
  clear HP c0 c1 c2 c3 c4 c5 c6 c7 c8 c9 c10 hwr hp
  have HP := Lib.hid hP
  obtain ⟨c0, c1, c2, c3, c4, c5, c6, c7, c8, c9, c10⟩ := sp_cells hP.blk
  clear hP
  go_wp2_with fail
  have hp := HP.out
  refine (wint_any base pb _ _ s.ct _ HP.out.wr HX.out.2.ct (by have := HP.out.len; omega)).mono ?_
  rintro e w12 hwr
  obtain ⟨rfl, v11, hP⟩ := hp.next (show (intB s.ct).length ≤ 10 from intB_len _) hwr
  clear HP c0 c1 c2 c3 c4 c5 c6 c7 c8 c9 c10 hwr hp
  have HP := Lib.hid hP
  obtain ⟨c0, c1, c2, c3, c4, c5, c6, c7, c8, c9, c10⟩ := sp_cells hP.blk
  clear hP
  go_wp2_with fail
  go_end0
  have h := HP.out.wrote
  unfold bytesS headS tailS
  rw [HN.out]
  simp only [List.append_assoc] at h ⊢
  exact h
end Go.Proofs.Ytdfkagpnfgmbeaa
