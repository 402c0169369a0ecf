/- SpecClones: the law walked. -/
import Derived.Test.YtiilgpffclhlcaaSpecSame
import Derived.Test.YtiilgpffclhlcaaSpecW
import Derived.Test.YtiilgpffclhlcaaSpecB
import Derived.Test.YtiilgpffclhlcaaSpecO
import Derived.Test.YtiilgpffclhlcaaSpecNamesLaw
namespace Go.Proofs.Ytiilgpffclhlcaa
set_option linter.unusedVariables false
open Go.RowKit
attribute [local go_sem ↓] exec_load_s exec_store_s
attribute [local go_sem] Try.load_s row_drew Try.store_s zeroS' bstr_toList

theorem lives_s (w : World) : Calls Try.prog 5 #[] w fun e w' => e = .returned (.bool true) ∧ Step [] w w' :=
  (lives_any w).mono fun e w' h => ⟨h.1, Step.of_below h.2 []⟩
theorem few_in {w W : World} {a : Option Addr} {c : Nat} {s : PS} (h : SpIn w a c s) (hs : Step [] w W) : Calls Try.prog 7 #[.agg (spC s a s.ds.length c).toArray] W fun e w' => e = .returned (.bool (fewS s)) ∧ Step [] W w' :=
  few_any s a c W (h.ds.step0 hs) (Nat.le_trans h.dl (by unfold maxLen; omega)) (Nat.le_trans h.nm (by unfold maxLen; omega)) (Nat.le_trans h.tn (by unfold maxLen; omega)) (Nat.le_trans h.cr (by unfold maxLen; omega)) (fun d hd => Nat.le_trans (h.dm d hd) (by unfold maxLen; omega))

set_option maxRecDepth 100000 in
set_option maxHeartbeats 4000000 in
theorem clones_any (s t : PS) (a b : Option Addr) (c d : Nat) (w : World) (hs : SpIn w a c s) (ht : SpIn w b d t) :
    Calls Try.prog 4 #[.agg (spC s a s.ds.length c).toArray, .agg (spC t b t.ds.length d).toArray] w fun e w' => e = .returned (.bool true) ∧ Step [] w w' := by
  obtain ⟨hb1, hb2, hst⟩ := blk2 w (spC s a s.ds.length c).toArray (spC t b t.ds.length d).toArray 28
  obtain ⟨W, hW⟩ : ∃ W, (w.alloc (.cells (spC s a s.ds.length c).toArray 28)).alloc (.cells (spC t b t.ds.length d).toArray 28) = W := ⟨_, rfl⟩
  have hwsz : W.heap.size = w.heap.size + 2 := by rw [← hW, World.size_alloc, World.size_alloc]
  rw [hW] at hb1 hb2 hst
  have HW := Lib.hid hW
  have HB1 := Lib.hid hb1
  have HB2 := Lib.hid hb2
  have HS := Lib.hid hst
  have HI := Lib.hid hs
  have HT := Lib.hid ht
  obtain ⟨f1, hf1⟩ : ∃ f, fewS s = f := ⟨_, rfl⟩
  obtain ⟨f2, hf2⟩ : ∃ f, fewS t = f := ⟨_, rfl⟩
  have HF1 := Lib.hid hf1
  have HF2 := Lib.hid hf2
  clear hW hb1 hb2 hst hs ht hf1 hf2
  go_enter Try.func4, Try.ntmps4
  go_wp2_with (rw [HW.out])
  refine (lives_s _).mono ?_
  rintro e w1 ⟨rfl, h1⟩
  have HS1 := Lib.hid (HS.out.then h1 (by simp))
  have B1 := Lib.hid (HB1.out.step h1 (by simp))
  have B2 := Lib.hid (HB2.out.step h1 (by simp))
  clear h1
  have r1 := sp_row B1.out
  cases f1 with
  | false =>
    go_simp
    go_wp2_with fail
    refine (few_in HI.out HS1.out).mono ?_
    rw [HF1.out]
    rintro e w2 ⟨rfl, h2⟩
    go_wp2_with fail
    refine (lives_s _).mono ?_
    rintro e w3 ⟨rfl, h3⟩
    go_wp2_with fail
    go_ret
    exact ⟨rfl, (HS1.out.then h2 (by simp)).then h3 (by simp)⟩
  | true =>
    go_simp
    go_wp2_with fail
    refine (few_in HI.out HS1.out).mono ?_
    rw [HF1.out]
    rintro e w2 ⟨rfl, h2⟩
    have HS2 := Lib.hid (HS1.out.then h2 (by simp))
    have C1 := Lib.hid (B1.out.step h2 (by simp))
    have C2 := Lib.hid (B2.out.step h2 (by simp))
    clear h2 r1
    have r2 := sp_row C2.out
    cases f2 with
    | false =>
      go_simp
      go_wp2_with fail
      refine (few_in HT.out HS2.out).mono ?_
      rw [HF2.out]
      rintro e w2 ⟨rfl, h2⟩
      go_wp2_with fail
      refine (lives_s _).mono ?_
      rintro e w3 ⟨rfl, h3⟩
      go_wp2_with fail
      go_ret
      exact ⟨rfl, (HS2.out.then h2 (by simp)).then h3 (by simp)⟩
    | true =>
      go_simp
      go_wp2_with fail
      refine (few_in HT.out HS2.out).mono ?_
      rw [HF2.out]
      rintro e w3 ⟨rfl, h3⟩
      have HS3 := Lib.hid (HS2.out.then h3 (by simp))
      have D1 := Lib.hid (C1.out.step h3 (by simp))
      have D2 := Lib.hid (C2.out.step h3 (by simp))
      have FA := (fewS_iff s).1 HF1.out
      have FB := (fewS_iff t).1 HF2.out
      have HFA := Lib.hid (And.intro FA FB)
      clear h3 r2 FA FB
      have r1 := sp_row D1.out
      have HBA := Lib.hid (fun (X : World) (hX : Step [] w X) => refBytes_any s a c X (HI.out.ds.step0 hX) HFA.out.1 HI.out.wf)
      have HBB := Lib.hid (fun (X : World) (hX : Step [] w X) => refBytes_any t b d X (HT.out.ds.step0 hX) HFA.out.2 HT.out.wf)
      have hq : (bytesS s == bytesS t) = sameS s t := (sameS_bytes HFA.out.1 HFA.out.2 HI.out.wf HT.out.wf).symm
      obtain ⟨x, hx⟩ : ∃ x, bytesS s = x := ⟨_, rfl⟩
      obtain ⟨y, hy⟩ : ∃ y, bytesS t = y := ⟨_, rfl⟩
      rw [hx] at hq HBA
      rw [hy] at hq HBB
      obtain ⟨r, hr⟩ : ∃ r, sameS s t = r := ⟨_, rfl⟩
      rw [hr] at hq
      have HR := Lib.hid hr
      clear hx hy hr
      go_simp
      go_wp2_with fail
      refine (HBA.out w3 HS3.out).mono ?_
      rintro e w4 ⟨rfl, h4⟩
      have HS4 := Lib.hid (HS3.out.then h4 (by simp))
      have E1 := Lib.hid (D1.out.step h4 (by simp))
      have E2 := Lib.hid (D2.out.step h4 (by simp))
      clear h4 r1
      have r1 := sp_row E1.out
      go_simp
      go_wp2_with fail
      refine (sclone_any s a c w4 HI.out.nil (HI.out.ds.step0 HS4.out) (by have := HFA.out.1.ds; omega)).mono ?_
      rintro e w5 ⟨a1, c1, rfl, ho, h5⟩
      have HS5 := Lib.hid (HS4.out.then h5 (by simp))
      have F1 := E1.out.step h5 (by simp)
      have F2 := E2.out.step h5 (by simp)
      have hsz := HS4.out.size
      have hsz5 := h5.size
      have n0 : Blk (w5.alloc (.cells #[.string { data := #[] }, .string { data := #[] }, .int .i64 0, .int .i64 0, .slice none 0 0, .int .i64 0, .int .i64 0, .int .i64 0, .int .i64 0, .string { data := #[] }, .int .i64 0] 28)) w5.heap.size (spC ps0 none 0 0).toArray 28 := Blk.new w5 _ _
      have t0 := sp_there n0
      have n1 : Blk ((w5.alloc (.cells #[.string { data := #[] }, .string { data := #[] }, .int .i64 0, .int .i64 0, .slice none 0 0, .int .i64 0, .int .i64 0, .int .i64 0, .int .i64 0, .string { data := #[] }, .int .i64 0] 28)).setCells w5.heap.size 0 (spC s a1 s.ds.length c1)) w5.heap.size (spC s a1 s.ds.length c1).toArray 28 := sp_set n0
      have h6 : Step [] w5 ((w5.alloc (.cells #[.string { data := #[] }, .string { data := #[] }, .int .i64 0, .int .i64 0, .slice none 0 0, .int .i64 0, .int .i64 0, .int .i64 0, .int .i64 0, .string { data := #[] }, .int .i64 0] 28)).setCells w5.heap.size 0 (spC s a1 s.ds.length c1)) := ((Step.refl [] w5).alloc _).setCells (.inr (Nat.le_refl _)) _ _
      have hsz6 := h6.size
      go_simp
      go_wp2_with fail
      obtain ⟨V, hV⟩ : ∃ V, (w5.alloc (.cells #[.string { data := #[] }, .string { data := #[] }, .int .i64 0, .int .i64 0, .slice none 0 0, .int .i64 0, .int .i64 0, .int .i64 0, .int .i64 0, .string { data := #[] }, .int .i64 0] 28)).setCells w5.heap.size 0 (spC s a1 s.ds.length c1) = V := ⟨_, rfl⟩
      rw [hV] at n1 h6 hsz6 ⊢
      obtain ⟨b2, hb2⟩ : ∃ b2, w5.heap.size = b2 := ⟨_, rfl⟩
      rw [hb2] at n1 ⊢
      have hTx : TxS w5 a1 s.ds := by
        rcases ho.2 with ⟨hv, h0⟩ | ⟨g, c', cur, hv, _⟩
        · intro i hi; omega
        · cases hv; exact owns_txs ho
      have HS6 := Lib.hid (HS5.out.then h6 (by simp))
      have G1 := Lib.hid (F1.step h6 (by simp))
      have G2 := Lib.hid (F2.step h6 (by simp))
      have G3 := Lib.hid n1
      have hoV := owns_step ho h6 (fun _ _ h => by cases h)
      have hgl : ∀ k, k ∈ foot (.slice a1 s.ds.length c1) → w4.heap.size ≤ k ∧ k < b2 := fun k hk => ⟨owns_base ho k hk, by rw [← hb2]; exact owns_live ho k hk⟩
      have HO := Lib.hid (And.intro hoV hgl)
      have HSA := Lib.hid (show ∀ X, Step [] V X → Calls Try.prog 10 #[.agg (spC s a s.ds.length c).toArray, .agg (spC s a1 s.ds.length c1).toArray] X fun e w' => e = .returned (.bool true) ∧ Step [] X w' from fun X hX => by
        have := same_any s s a a1 c c1 X (HI.out.ds.step0 (HS6.out.then hX (by simp))) ((hTx.step0 h6).step0 hX) (by have := HFA.out.1.ds; omega) (by have := HFA.out.1.ds; omega)
        rwa [(sameS_iff s s).2 rfl] at this)
      have HSB := Lib.hid (show ∀ X, Step [] w X → Calls Try.prog 10 #[.agg (spC s a s.ds.length c).toArray, .agg (spC t b t.ds.length d).toArray] X fun e w' => e = .returned (.bool r) ∧ Step [] X w' from fun X hX => by
        have := same_any s t a b c d X (HI.out.ds.step0 hX) (HT.out.ds.step0 hX) (by have := HFA.out.1.ds; omega) (by have := HFA.out.2.ds; omega)
        rwa [HR.out] at this)
      have hlow : w.heap.size ≤ b2 := by rw [← hb2]; exact HS5.out.size
      have hlow4 := HS4.out.size
      have HN := Lib.hid (And.intro hlow hlow4)
      clear ho h5 F1 F2 hsz hsz5 n0 t0 n1 h6 hsz6 hV hb2 hTx hoV hgl r1 hlow hlow4
      have hne : Nonempty (ClsW (Step [] V.drew)) := ⟨⟨_, Step.refl _ _⟩⟩
      have q1 : ∀ y : ClsW (Step [] V.drew), rowC y.val w.heap.size 0 11 = some (spC s a s.ds.length c) := fun y => sp_row (G1.out.drew.step y.ok (by simp))
      have q2 : ∀ y : ClsW (Step [] V.drew), rowC y.val (w.heap.size + 1) 0 11 = some (spC t b t.ds.length d) := fun y => sp_row (G2.out.drew.step y.ok (by simp))
      have q3 : ∀ y : ClsW (Step [] V.drew), rowC y.val b2 0 11 = some (spC s a1 s.ds.length c1) := fun y => sp_row (G3.out.drew.step y.ok (by simp))
      have HQ := Lib.hid hq
      clear hq
      obtain ⟨CA, hCA⟩ : ∃ L, spC s a s.ds.length c = L := ⟨_, rfl⟩
      obtain ⟨CB, hCB⟩ : ∃ L, spC t b t.ds.length d = L := ⟨_, rfl⟩
      obtain ⟨CC, hCC⟩ : ∃ L, spC s a1 s.ds.length c1 = L := ⟨_, rfl⟩
      rw [hCA] at q1 HSA HSB HBA ⊢
      rw [hCB] at q2 HSB HBB ⊢
      rw [hCC] at q3 HSA ⊢
      have HCC := Lib.hid (And.intro hCA (And.intro hCB hCC))
      clear hCA hCB hCC
      go_cut [38] (fun z wr => z = .bool false ∧ Step [] V wr)
      case first =>
        have hq := HQ.out
        cases r with
        | true =>
          refine region_cls (G := Step [] V.drew) (by kernel_rfl) (by kernel_rfl) (Step.refl _ _) ?_
          iterate 7 (go_big_quiet_step ((go_at_call 10; exact cls_call ((HSA.out _ ((Step.refl [] V).drew.then (ClsW.ok _) (by simp))).mono fun e w3 h => ⟨h.1, Step.then (ClsW.ok _) h.2 (by simp)⟩))))
          repeat (go_big_quiet_step ((first
            | (go_at_call 10; exact cls_call ((HSB.out _ ((HS6.out.then (Step.refl [] V).drew (by simp)).then (ClsW.ok _) (by simp))).mono fun e w3 h => ⟨h.1, Step.then (ClsW.ok _) h.2 (by simp)⟩))
            | (go_at_call 8; exact cls_call ((HBB.out _ ((HS6.out.then (Step.refl [] V).drew (by simp)).then (ClsW.ok _) (by simp))).mono fun e w3 h => ⟨h.1, Step.then (ClsW.ok _) h.2 (by simp)⟩)))))
          refine wpQuiet_nil ?_
          rintro w6 ⟨⟨w6i, hw6⟩, he⟩
          have he' : w6 = w6i := he
          subst he'
          clear he
          have HG := Lib.hid ((Step.refl [] V).drew.then hw6 (by simp))
          clear hne hw6 q1 q2 q3
          go_wp2_with fail
          go_meet
          exact ⟨rfl, HG.out⟩
        | false =>
          refine region_cls (G := Step [] V.drew) (by kernel_rfl) (by kernel_rfl) (Step.refl _ _) ?_
          iterate 7 (go_big_quiet_step ((go_at_call 10; exact cls_call ((HSA.out _ ((Step.refl [] V).drew.then (ClsW.ok _) (by simp))).mono fun e w3 h => ⟨h.1, Step.then (ClsW.ok _) h.2 (by simp)⟩))))
          repeat (go_big_quiet_step ((first
            | (go_at_call 10; exact cls_call ((HSB.out _ ((HS6.out.then (Step.refl [] V).drew (by simp)).then (ClsW.ok _) (by simp))).mono fun e w3 h => ⟨h.1, Step.then (ClsW.ok _) h.2 (by simp)⟩))
            | (go_at_call 8; exact cls_call ((HBB.out _ ((HS6.out.then (Step.refl [] V).drew (by simp)).then (ClsW.ok _) (by simp))).mono fun e w3 h => ⟨h.1, Step.then (ClsW.ok _) h.2 (by simp)⟩)))))
          refine wpQuiet_nil ?_
          rintro w6 ⟨⟨w6i, hw6⟩, he⟩
          have he' : w6 = w6i := he
          subst he'
          clear he
          have HG := Lib.hid ((Step.refl [] V).drew.then hw6 (by simp))
          clear hne hw6 q1 q2 q3
          go_wp2_with fail
          go_meet
          exact ⟨rfl, HG.out⟩
      case rest =>
        obtain ⟨rfl, hVr⟩ := hcut
        have K3 := Lib.hid (G3.out.step hVr (by simp))
        have p5 := (sp_cells K3.out).2.2.2.2.1
        have HVR := Lib.hid (And.intro (HS6.out.then hVr (by simp)) (owns_step HO.out.1 hVr (fun _ _ h => by cases h)))
        have K1 := Lib.hid (And.intro (G1.out.step hVr (by simp)) E1.out.lt)
        clear hne q1 q2 q3 hVr
        obtain ⟨n, hn⟩ : ∃ n, s.ds.length = n := ⟨_, rfl⟩
        have hl20 := HFA.out.1.ds
        have HNN := Lib.hid hn
        rw [hn] at HO K3 p5 hl20 HVR
        clear hn
        go_simp
        go_wp2_with fail
        go_loopw [42] (fun i wr => ∃ (k : Nat) (xs : List Value), i = .int .i64 k ∧ k ≤ n ∧ Step [] w wr ∧ Blk wr b2 (spC s a1 n c1).toArray 28 ∧ wr.ownsRow w4.heap.size 9 1 (.slice a1 n c1) n xs ∧ Blk wr w.heap.size CA.toArray 28) (fun i _ => n - (intOf i).toNat)
        case atStart => exact ⟨0, _, rfl, Nat.zero_le _, HVR.out.1, K3.out, HVR.out.2, by rw [← HCC.out.1]; exact K1.out.1⟩
        case round =>
          obtain ⟨k, xs, rfl, hk, hsr, hbr, hor, hb0⟩ := hrel
          have HB0 := Lib.hid hb0
          have HSR := Lib.hid hsr
          have HBR := Lib.hid hbr
          have p6 := (sp_cells hbr).2.2.2.2.1
          by_cases hkn : k < n
          · rcases hor.2 with ⟨_, h0⟩ | ⟨g, c', cur, hv, _⟩
            · exact absurd hkn (by omega)
            · cases hv
              have hkk : (k : Int) < (n : Int) := by omega
              have hth := owns_there hor k 1 (by omega)
              have hc0 := (hth 0 (by omega)).1
              have hf0 := (hth 0 (by omega)).2
              rw [Nat.add_zero] at hc0 hf0
              obtain ⟨v0, hv0⟩ := Option.isSome_iff_exists.1 hc0
              have hgl := HO.out.2 g (by simp [foot, Value.ownBlock])
              have hst := HSR.out.setCell (b := g) (.inr (Nat.le_trans HN.out.2 hgl.1)) k (.string { data := #[63] })
              have hbk := HBR.out.set_ne g k (.string { data := #[63] }) (by omega)
              have hok := (World.ownsRow.stored hor k (.string { data := #[63] })).1
              have hb0k := HB0.out.set_ne g k (.string { data := #[63] }) (by have := K1.out.2; omega)
              have HK := Lib.hid (And.intro hst (And.intro hbk (And.intro hok hb0k)))
              clear hst hbk hok hgl hth hc0 hor hsr hbr hb0 hb0k
              go_wp2_with fail
              go_roundw
              case rel => exact ⟨k + 1, _, by go_num, by omega, HK.out⟩
              case measure => simp [intOf]; omega
          · have hke : k = n := by omega
            subst hke
            have r1 : rowC wr w.heap.size 0 11 = some CA := by
              have h0 := hb0
              rw [← HCC.out.1] at h0 ⊢
              exact sp_row h0
            clear hor hsr hbr hb0
            go_simp
            go_wp2_with fail
            refine (HBA.out wr HSR.out).mono ?_
            rintro e w7 ⟨rfl, h7⟩
            go_wp2_with fail
            go_ret
            exact ⟨by simp, HSR.out.then h7 (by simp)⟩
end Go.Proofs.Ytiilgpffclhlcaa
