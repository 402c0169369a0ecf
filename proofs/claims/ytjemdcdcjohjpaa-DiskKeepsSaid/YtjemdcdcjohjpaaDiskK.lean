/- DiskKeeps: what was written where; the rows of a map. -/
import Derived.Test.YtjemdcdcjohjpaaDiskH
import Derived.Test.YtjemdcdcjohjpaaSlEl
import Derived.Deep.RegionHeldLaw
namespace Go.Proofs.Ytjemdcdcjohjpaa
set_option linter.unusedVariables false
open Go.RowKit Go.Maps

theorem bstr_app (l r : List UInt8) : bstr l ++ bstr r = bstr (l ++ r) := by
  apply ByteArray.ext
  simp [bstr, ByteArray.data_append]
theorem bstr_size (l : List UInt8) : (bstr l).size = l.length := rfl

theorem full_any (l : List UInt8) (hl : l.length ≤ 64) (w : World) : Calls Try.prog 10 #[.string (bstr l)] w fun e w' => e = .returned (.string (bstr (pad l))) ∧ w = w' := by
  obtain ⟨m, hm⟩ : ∃ m, 64 - l.length = m := ⟨_, rfl⟩
  go_enter Try.func10, Try.ntmps10
  go_wp2_with fail
  go_loop [0] (fun s => ∃ j : Nat, j ≤ m ∧ s = .string (bstr (l ++ List.replicate j 0))) (fun s => match s with | .string b => 64 - b.size | _ => 0)
  case atStart => exact ⟨0, Nat.zero_le _, by simp⟩
  case round =>
    obtain ⟨j, hj, rfl⟩ := hrel
    have hsz : (bstr (l ++ List.replicate j 0)).size = l.length + j := by rw [bstr_size]; simp
    have hap : bstr (l ++ List.replicate j 0) ++ ({ data := #[0] } : ByteArray) = bstr (l ++ List.replicate (j + 1) 0) := by
      rw [show ({ data := #[0] } : ByteArray) = bstr [0] from rfl, bstr_app, List.append_assoc, ← List.replicate_succ']
    have hnew : (bstr (l ++ List.replicate (j + 1) 0)).size = l.length + (j + 1) := by rw [bstr_size]; simp
    have HN := Lib.hid hnew
    have HA := Lib.hid hap
    have HZ := Lib.hid hsz
    have HM := Lib.hid hm
    clear hnew hap hm hsz
    by_cases hk : j < m
    · have h1 : ((bstr (l ++ List.replicate j 0)).size : Int) < 64 := by rw [HZ.out]; have := HM.out; omega
      go_wp2_with fail
      have hsz := HZ.out
      have hm := HM.out
      rw [HA.out]
      refine ⟨⟨j + 1, by omega, rfl⟩, ?_⟩
      show 64 - (bstr (l ++ List.replicate (j + 1) 0)).size < 64 - (bstr (l ++ List.replicate j 0)).size
      rw [HN.out, hsz]
      omega
    · have h1 : ¬ ((bstr (l ++ List.replicate j 0)).size : Int) < 64 := by rw [HZ.out]; have := HM.out; omega
      have hpad : pad l = l ++ List.replicate j 0 := by
        unfold pad
        rw [HM.out, show j = m by omega]
      have HP := Lib.hid hpad
      clear hpad
      go_wp2_with fail
      go_ret
      rw [HP.out]
      exact ⟨rfl, rfl⟩

/-- what was written to one sector, in order -/
def hist (W : List (Nat × List UInt8)) (q : Nat) : List (List UInt8) := (W.filter (fun y => y.1 == q)).map (·.2)
theorem hist_same (W : List (Nat × List UInt8)) (q : Nat) (b : List UInt8) : hist (W ++ [(q, b)]) q = hist W q ++ [b] := by
  simp [hist]
theorem hist_other (W : List (Nat × List UInt8)) (q q' : Nat) (b : List UInt8) (h : q' ≠ q) : hist (W ++ [(q, b)]) q' = hist W q' := by
  simp [hist, Ne.symm h]
theorem hist_len (W : List (Nat × List UInt8)) (q : Nat) : (hist W q).length ≤ W.length := by
  unfold hist
  rw [List.length_map]
  exact List.length_filter_le _ _
def strV (b : List UInt8) : Value := .string (bstr b)
def cur (f : Int → Option SL) (q : Nat) : SL := (f (q : Int)).getD (none, 0, 0)

/-- a map from sectors to rows of what was written -/
structure Rows (w : World) (base mb n : Nat) (f : Int → Option SL) (W : List (Nat × List UInt8)) : Prop where
  map : MapF (intKey Try.underlying3) slEl w mb n f
  row : ∀ q, q < 8 → w.ownsRow base 9 1 (slV (cur f q)) (hist W q).length ((hist W q).map strV)
  sep : ∀ q q', q < 8 → q' < 8 → q ≠ q' → ∀ k, k ∈ foot (slV (cur f q)) → k ∉ foot (slV (cur f q'))
  nom : ∀ q, q < 8 → mb ∉ foot (slV (cur f q))
  low : base ≤ mb
/-- its blocks -/
def RB (mb : Nat) (f : Int → Option SL) (k : Nat) : Prop := k = mb ∨ ∃ q, q < 8 ∧ k ∈ foot (slV (cur f q))

theorem Rows.step {F : List Nat} {w w' : World} {base mb n : Nat} {f : Int → Option SL} {W : List (Nat × List UInt8)} (h : Rows w base mb n f W) (hs : Step F w w') (hF : ∀ k, k ∈ F → ¬ RB mb f k) : Rows w' base mb n f W :=
  ⟨h.map.step hs (fun hm => hF _ hm (.inl rfl)), fun q hq => owns_step (h.row q hq) hs (fun k hk hm => hF _ hm (.inr ⟨q, hq, hk⟩)), h.sep, h.nom, h.low⟩
theorem Rows.live {w : World} {base mb n : Nat} {f : Int → Option SL} {W : List (Nat × List UInt8)} (h : Rows w base mb n f W) : ∀ k, RB mb f k → base ≤ k ∧ k < w.heap.size := by
  rintro k (rfl | ⟨q, hq, hk⟩)
  · exact ⟨h.low, h.map.lt⟩
  · exact ⟨owns_base (h.row q hq) k hk, owns_live (h.row q hq) k hk⟩

theorem cur_same (f : Int → Option SL) (q : Nat) (v : SL) : cur (upd f (q : Int) (some v)) q = v := by
  simp [cur, upd]
theorem cur_other (f : Int → Option SL) (q q' : Nat) (v : SL) (h : q' ≠ q) : cur (upd f (q : Int) (some v)) q' = cur f q' := by
  unfold cur upd
  rw [if_neg (by omega)]

theorem Rows.put {w w8 w9 : World} {base mb n : Nat} {f : Int → Option SL} {W : List (Nat × List UInt8)} (h : Rows w base mb n f W) (q : Nat) (hq : q < 8) (b : List UInt8) (g k8 : Nat)
    (h8 : w8.ownsRow base 9 1 (slV (some (g, 0), (hist W q).length + 1, k8)) ((hist W q).length + 1) ((hist W q).map strV ++ [strV b])) (hs8 : Step (foot (slV (cur f q))) w w8) (hf8 : Fresh w (foot (slV (cur f q))) (foot (slV (some (g, 0), (hist W q).length + 1, k8))))
    (h9 : MapF (intKey Try.underlying3) slEl w9 mb (n + 1) (upd f (q : Int) (some (some (g, 0), (hist W q).length + 1, k8)))) (hs9 : Step [mb] w8 w9) :
    Rows w9 base mb (n + 1) (upd f (q : Int) (some (some (g, 0), (hist W q).length + 1, k8))) (W ++ [(q, b)]) := by
  have hlv : ∀ q', q' < 8 → ∀ k, k ∈ foot (slV (cur f q')) → k < w.heap.size := fun q' hq' => owns_live (h.row q' hq')
  have hf : ∀ k, k ∈ foot (slV (some (g, 0), (hist W q).length + 1, k8)) → k ∈ foot (slV (cur f q)) ∨ w.heap.size ≤ k := hf8
  have hmb : mb ∉ foot (slV (some (g, 0), (hist W q).length + 1, k8)) := fun hm => by
    rcases hf _ hm with h1 | h1
    · exact h.nom q hq h1
    · have := h.map.lt
      omega
  refine ⟨h9, fun q' hq' => ?_, fun q1 q2 h1 h2 hne k hk1 hk2 => ?_, fun q' hq' => ?_, h.low⟩
  · by_cases he : q' = q
    · subst he
      rw [cur_same, hist_same, List.length_append, List.map_append]
      exact owns_step h8 hs9 (fun k hk hm => by simp at hm; subst hm; exact hmb hk)
    · rw [cur_other _ _ _ _ he, hist_other _ _ _ _ he]
      exact owns_step (owns_step (h.row q' hq') hs8 (fun k hk hm => h.sep q' q hq' hq he k hk hm)) hs9 (fun k hk hm => by simp at hm; subst hm; exact h.nom q' hq' hk)
  · by_cases e1 : q1 = q
    · subst e1
      have e2 : q2 ≠ q1 := fun e => hne e.symm
      rw [cur_same] at hk1
      rw [cur_other _ _ _ _ e2] at hk2
      rcases hf _ hk1 with h3 | h3
      · exact h.sep q1 q2 h1 h2 hne k h3 hk2
      · have := hlv q2 h2 k hk2
        omega
    · rw [cur_other _ _ _ _ e1] at hk1
      by_cases e2 : q2 = q
      · subst e2
        rw [cur_same] at hk2
        rcases hf _ hk2 with h3 | h3
        · exact h.sep q1 q2 h1 h2 hne k hk1 h3
        · have := hlv q1 h1 k hk1
          omega
      · rw [cur_other _ _ _ _ e2] at hk2
        exact h.sep q1 q2 h1 h2 hne k hk1 hk2
  · by_cases he : q' = q
    · subst he
      rw [cur_same]
      exact hmb
    · rw [cur_other _ _ _ _ he]
      exact h.nom q' hq'
/-- the blocks behind a put: the old ones, or new ones -/
theorem RB_put {w : World} {mb : Nat} {f : Int → Option SL} {q : Nat} {v : SL} (hq : q < 8) (hf8 : Fresh w (foot (slV (cur f q))) (foot (slV v))) : ∀ k, RB mb (upd f (q : Int) (some v)) k → RB mb f k ∨ w.heap.size ≤ k := by
  rintro k (rfl | ⟨q', hq', hk⟩)
  · exact .inl (.inl rfl)
  · by_cases he : q' = q
    · subst he
      rw [cur_same] at hk
      rcases hf8 k hk with h | h
      · exact .inl (.inr ⟨q', hq', h⟩)
      · exact .inr h
    · rw [cur_other _ _ _ _ he] at hk
      exact .inl (.inr ⟨q', hq', hk⟩)
theorem Rows.made (w w' : World) (base : Nat) (hb : base ≤ w.heap.size) (hs : Step [] (w.alloc (.map #[] 0)) w') : Rows w' base w.heap.size 0 (fun _ => Option.none) [] :=
  ⟨(MapF.made (intKey Try.underlying3) slEl w).step hs (by simp), fun q _ => World.ownsRow_nil _ _ _ _, fun q q' _ _ _ k hk => by simp [cur, slV, foot, Value.ownBlock] at hk, fun q _ hk => by simp [cur, slV, foot, Value.ownBlock] at hk, hb⟩

theorem put_all {W0 w8 : World} {base mb n : Nat} {f : Int → Option SL} {Wl : List (Nat × List UInt8)} (R : Rows W0 base mb n f Wl) (q : Nat) (hq : q < 8) {ao : Option Addr} {m cap : Nat} (hsv : slV (cur f q) = .slice ao m cap) (hm : (hist Wl q).length = m) (b : List UInt8) (g k8 : Nat) (hn : n < 100)
    (h8 : w8.ownsRow base 9 1 (.slice (some ⟨g, 0, none⟩) (m + 1) k8) (m + 1) ((hist Wl q).map strV ++ [strV b])) (hs8 : Step (foot (.slice ao m cap)) W0 w8) (hf8 : Fresh W0 (foot (.slice ao m cap)) (foot (.slice (some ⟨g, 0, none⟩) (m + 1) k8))) :
    ∃ w10 f', (Instr.mapUpdate 29 (.map (some mb)) (.int .i64 (q : Int)) (.slice (some ⟨g, 0, none⟩) (m + 1) k8)).run Try.prog w8 = .ok () w10 ∧ Rows w10 base mb (n + 1) f' (Wl ++ [(q, b)]) ∧ Step (mb :: foot (.slice ao m cap)) W0 w10 ∧ Step [mb] w8 w10 ∧ ∀ k, RB mb f' k → RB mb f k ∨ W0.heap.size ≤ k := by
  have hmap8 := R.map.step hs8 (fun h => R.nom q hq (by rw [hsv]; exact h))
  obtain ⟨w10, hr, hm10, hs10⟩ := hmap8.put_run Try.underlying29 (by unfold maxLen; omega) (q : Int) (by show (Lit.int .i64 (q : Int)).wf = true; simp [Lit.wf, IntKind.min, IntKind.max, IntKind.bits, IntKind.signed]; omega) ((some (g, 0), m + 1, k8) : SL)
  subst hm
  refine ⟨w10, _, hr, R.put q hq b g k8 h8 (by rw [hsv]; exact hs8) (by rw [hsv]; exact hf8) hm10 hs10, ?_, hs10, RB_put hq (by rw [hsv]; exact hf8)⟩
  exact (hs8.mono (fun k hk => List.mem_cons_of_mem _ hk)).then hs10 (fun k hk => .inl (by simp at hk; subst hk; simp))

/-- what the closure has done so far -/
def WInv (base db : Nat) (lv wv : Value) (S : List (List UInt8)) (w : World) (k : Nat) (W : List (Nat × List UInt8)) (wr : World) : Prop :=
  ∃ wv' f n, n ≤ k ∧ Dsk wr base db lv wv' S W false ∧ Step (footD db lv wv) w wr ∧ Fresh w (foot wv) (foot wv') ∧ Rows wr w.heap.size w.heap.size n f W ∧ ∀ j, j ∈ footD db lv wv' → ¬ RB w.heap.size f j
theorem WInv.quiet {base db : Nat} {lv wv : Value} {S : List (List UInt8)} {w : World} {k : Nat} {W : List (Nat × List UInt8)} {wr w' : World} (h : WInv base db lv wv S w k W wr) (hs : Step [] wr w') : WInv base db lv wv S w (k + 1) W w' := by
  obtain ⟨wv', f, n, hn, h1, h2, h3, h4, h5⟩ := h
  exact ⟨wv', f, n, by omega, h1.step hs (by simp), h2.then hs (by simp), h3, h4.step hs (by simp), h5⟩
theorem Try.infoStr : (Try.prog.info? 9).map (fun i => (i.zero, i.size, i.bytes)) = some (some (.string { data := #[] }), 1, 16) := by kernel_rfl

set_option maxRecDepth 20000 in
set_option maxHeartbeats 4000000 in
theorem write_cl (base db dc : Nat) (lv wv : Value) (S : List (List UInt8)) (a : Option Addr) (c : Nat) (l : List Ac) (w : World) (h : Dsk w base db lv wv S [] false) (hS : S.length = 8) (hdc : w.cell? ⟨dc, 0, none⟩ = some (.pointer (some ⟨db, 0, none⟩))) (hdn : dc ∉ footD db lv wv)
    (hA : ∀ w', Step (footD db lv wv) w w' → Acts w' a l) (hl : l.length ≤ 60) :
    Calls Try.prog 8 #[.slice a l.length c, .pointer (some ⟨dc, 0, none⟩)] w fun e w' => e = .returned (.map (some w.heap.size)) ∧ WInv base db lv wv S w 60 (accL l l.length) w' := by
  have hdl : dc < w.heap.size := World.block_lt_of_cell? w _ hdc
  obtain ⟨i0, hi0, hz0, hz1, hz2⟩ := info_parts Try.infoStr
  have HA := Lib.hid hA
  have HH := Lib.hid h
  have HSl := Lib.hid hS
  have HDC := Lib.hid (fun wr (hs : Step (footD db lv wv) w wr) => (hs.cell hdl hdn).trans hdc)
  clear hA h hS hdc
  obtain ⟨n1, hn1⟩ : ∃ n, l.length = n := ⟨_, rfl⟩
  have HN1 := Lib.hid hn1
  rw [hn1] at hl ⊢
  clear hn1
  have H0 := Lib.hid (fun w' (hs : Step [] (w.alloc (.map #[] 0)) w') => (show WInv base db lv wv S w 0 (accL l 0) w' from
    ⟨wv, _, 0, Nat.le_refl _, HH.out.step (((Step.refl [] w).alloc _).then hs (by simp)) (by simp), (((Step.refl (footD db lv wv) w).alloc _).then hs (by simp)), fun k hk => .inl hk, Rows.made w w' w.heap.size (Nat.le_refl _) hs, fun j hj hb => by
      have h1 : j < w.heap.size := by
        simp only [footD, List.mem_cons, List.mem_append] at hj
        rcases hj with rfl | hk | hk
        · exact HH.out.blk.lt
        · exact owns_live HH.out.own1 _ hk
        · exact owns_live HH.out.own2 _ hk
      have := ((Rows.made w w' w.heap.size (Nat.le_refl _) hs).live j hb).1
      omega⟩))
  have hmm := @run_makeMap Try.prog
  go_enter Try.func8, Try.ntmps8
  go_wp2_with fail
  go_loopw [10] (fun j wr => ∃ k : Nat, k ≤ n1 ∧ j = .int .i64 k ∧ WInv base db lv wv S w k (accL l k) wr) (fun j _ => n1 - (intOf j).toNat)
  case atStart => exact ⟨0, Nat.zero_le _, rfl, H0.out _ (Step.refl _ _)⟩
  case round =>
    obtain ⟨k, hkn, rfl, hW⟩ := hrel
    have HW := Lib.hid hW
    clear hW H0
    by_cases hk : k < n1
    · have hkl : k < l.length := by have := HN1.out; omega
      have hkk : (k : Int) < (n1 : Int) := by omega
      have hstep := HW.out
      obtain ⟨x, hx⟩ : ∃ x, l.getD k ac0 = x := ⟨_, rfl⟩
      obtain ⟨wv', f, n, hnk, hD, hst, hfr, hR, hdis⟩ := HW.out
      obtain ⟨b, off, ha, hlt, r0, r1, r2, r3, r4, r5, r6⟩ := HA.out wr hst k hkl
      rw [hx] at r0 r1 r2 r3 r4 r5 r6
      subst ha
      have hdcr := HDC.out wr hst
      have hnext : accL l (k + 1) = accA (accL l k) x := by rw [accL_next l k hkl, hx]
      have HNX := Lib.hid hnext
      have HX0 := Lib.hid hx
      have HR5 := Lib.hid r5
      have HR6 := Lib.hid r6
      have HD := Lib.hid hD
      have HST := Lib.hid hst
      have HFR := Lib.hid hfr
      have HR := Lib.hid hR
      have HDis := Lib.hid hdis
      clear hnext r5 r6 hx hD hst hfr hR hdis hstep
      have hlenW := accL_len l k
      by_cases q3 : x.bs.length ≤ 64
      · have p3 : decide ((x.bs.length : Int) ≤ 64) = true := by simp; omega
        obtain ⟨bn, hbn⟩ : ∃ n, x.bs.length = n := ⟨_, rfl⟩
        have HBN := Lib.hid hbn
        rw [hbn] at r3 p3
        clear hbn
        by_cases hp : 0 ≤ x.pos ∧ x.pos < 8
        · obtain ⟨q, hqe⟩ : ∃ q : Nat, x.pos = (q : Int) := ⟨x.pos.toNat, by omega⟩
          have hq8 : q < 8 := by omega
          have hacc : accA (accL l k) x = accL l k ++ [(q, pad x.bs)] := by
            unfold accA
            rw [if_pos ⟨q3, hp⟩, hqe]
            rfl
          have HACC := Lib.hid hacc
          rw [hqe] at r1
          have HQE := Lib.hid hqe
          have hs9 : Step [] wr (wr.alloc (.cells #[.int .i64 x.kind, .int .i64 (q : Int), .int .i64 x.cnt, .slice x.ba bn x.bc, .int .u64 x.keep] 32)) := (Step.refl [] wr).alloc _
          have hb9 := Blk.new wr #[.int .i64 x.kind, .int .i64 (q : Int), .int .i64 x.cnt, .slice x.ba bn x.bc, .int .u64 x.keep] 32
          have hdcr2 := (hs9.cell (World.block_lt_of_cell? wr _ hdcr) (by simp)).trans hdcr
          have hw9 := write_ok base db lv wv' S (accL l k) q x.ba x.bc x.bs _ (HD.out.step hs9 (by simp)) (by have := HSl.out; omega) (HR5.out.step hs9 (by simp)) HR6.out q3 (by omega)
          rw [HBN.out] at hw9
          have HW9 := Lib.hid hw9
          have HB9 := Lib.hid hb9
          have HS9 := Lib.hid hs9
          clear hacc hs9 hp hqe hw9 hb9
          go_wp2_with fail
          refine HW9.out.mono ?_
          rintro e w9 ⟨rfl, wv2, hD9, hg9, hf9⟩
          have hlvD : ∀ j, j ∈ footD db lv wv' → j < wr.heap.size := fun j hj => by
            simp only [footD, List.mem_cons, List.mem_append] at hj
            rcases hj with rfl | hk | hk
            · exact HD.out.blk.lt
            · exact owns_live HD.out.own1 _ hk
            · exact owns_live HD.out.own2 _ hk
          have hsz9 : (wr.alloc (.cells #[.int .i64 x.kind, .int .i64 (q : Int), .int .i64 x.cnt, .slice x.ba bn x.bc, .int .u64 x.keep] 32)).heap.size = wr.heap.size + 1 := World.size_alloc _ _
          have hB9 := HB9.out.step hg9 (fun h => by have := hlvD _ h; omega)
          have hR9 := (HR.out.step HS9.out (by simp)).step hg9 (fun j hj => HDis.out j hj)
          have hfr : ∀ j, j ∈ foot wv' → j ∈ foot wv ∨ w.heap.size ≤ j := HFR.out
          have hF9 : ∀ j, j ∈ foot wv2 → j ∈ foot wv' ∨ wr.heap.size + 1 ≤ j := fun j hj => by
            rcases hf9 j hj with h | h
            · exact .inl h
            · exact .inr (by omega)
          have hdis9 : ∀ j, j ∈ footD db lv wv2 → ¬ RB w.heap.size f j := fun j hj hb => by
            simp only [footD, List.mem_cons, List.mem_append] at hj
            rcases hj with hj | hj | hj
            · exact HDis.out j (by simp [footD, hj]) hb
            · exact HDis.out j (by simp [footD, hj]) hb
            · rcases hF9 j hj with h | h
              · exact HDis.out j (by simp [footD, h]) hb
              · have := (HR.out.live j hb).2
                omega
          have hst9 : Step (footD db lv wv) w w9 := (HST.out.then HS9.out (by simp)).then hg9 (fun j hj => by
            simp only [footD, List.mem_cons, List.mem_append] at hj ⊢
            rcases hj with hj | hj | hj
            · exact .inl (.inl hj)
            · exact .inl (.inr (.inl hj))
            · rcases hfr j hj with h | h
              · exact .inl (.inr (.inr h))
              · exact .inr h)
          have hfr9 : Fresh w (foot wv) (foot wv2) := fun j hj => by
            rcases hF9 j hj with h | h
            · exact hfr j h
            · have := HST.out.size
              exact .inr (by omega)
          obtain ⟨ao, cap, hsv, -⟩ := owns_shape (hR9.row q hq8)
          obtain ⟨m, hm⟩ : ∃ m, (hist (accL l k) q).length = m := ⟨_, rfl⟩
          rw [hm] at hsv
          have hrow9 := hR9.row q hq8
          rw [hsv, hm] at hrow9
          have hm60 : m ≤ 60 := by rw [← hm]; exact Nat.le_trans (hist_len _ _) (by omega)
          have hRBa : ∀ j, j ∈ foot (.slice ao m cap) → RB w.heap.size f j := fun j hj => .inr ⟨q, hq8, by rw [hsv]; exact hj⟩
          have hK9 : ∀ W', Step (w.heap.size :: foot (.slice ao m cap)) w9 W' → W'.cell? ⟨wr.heap.size, 1, none⟩ = some (.int .i64 (q : Int)) ∧ W'.cell? ⟨wr.heap.size, 3, none⟩ = some (.slice x.ba bn x.bc) ∧ (convert 30 9 (.slice x.ba bn x.bc)).run Try.prog W' = .ok (.string (bstr x.bs)) W' := fun W' hW' => by
            have hnv : wr.heap.size ∉ (w.heap.size :: foot (.slice ao m cap)) := fun hm => by
              have h1 : RB w.heap.size f wr.heap.size := by
                rcases List.mem_cons.1 hm with h | h
                · exact .inl h
                · exact hRBa _ h
              have := (HR.out.live _ h1).2
              omega
            have h1 := hB9.step hW' hnv
            obtain ⟨b', off', ha', hlt', -, -, -, -, -, h5, h6⟩ := HA.out w9 hst9 k hkl
            have h5' : Bytes w9 x.ba x.bs := by
              have h0 : l.getD k ac0 = x := HX0.out
              rw [h0] at h5
              exact h5
            have h5w : ∀ bb oo, x.ba = some ⟨bb, oo, none⟩ → 0 < x.bs.length → bb < w.heap.size := fun bb oo hbb hpos => by
              obtain ⟨b0, off0, ha0, hlt0, -, -, -, -, -, g5, g6⟩ := HA.out w (Step.refl _ _) k hkl
              have h0 : l.getD k ac0 = x := HX0.out
              rw [h0] at g5
              obtain ⟨b1, o1, e1, hlt1, -⟩ := g5 0 hpos
              rw [hbb] at e1
              cases e1
              exact hlt1
            have h7 : Bytes W' x.ba x.bs := fun i hi => by
              obtain ⟨bb, oo, e1, hlt1, hc1⟩ := h5' i hi
              have hbw := h5w bb oo e1 (by omega)
              refine ⟨bb, oo, e1, Nat.lt_of_lt_of_le hlt1 hW'.size, (hW'.cell hlt1 (fun hm => ?_)).trans hc1⟩
              have h1 : RB w.heap.size f bb := by
                rcases List.mem_cons.1 hm with h | h
                · exact .inl h
                · exact hRBa _ h
              have := (HR.out.live _ h1).1
              omega
            have h8 := h7.str (P := Try.prog) (fun h => (HR6.out h).1) x.bc 30 9 5 Try.underlying30 Try.underlying5 Try.underlying9
            rw [HBN.out] at h8
            exact ⟨h1.cell 1, h1.cell 3, h8⟩
          have hlk : ∀ W', Step [] w9 W' → (Instr.lookup 29 (.map (some w.heap.size)) (.int .i64 (q : Int)) false).run Try.prog W' = .ok (.slice ao m cap) W' := fun W' hW' => by
            have h1 := (hR9.step hW' (by simp)).map.run Try.underlying29 ((Option.none, 0, 0) : SL) (by rfl) (q : Int) (by show (Lit.int .i64 (q : Int)).wf = true; simp [Lit.wf, IntKind.min, IntKind.max, IntKind.bits, IntKind.signed]; omega)
            have h2 : slEl.val ((f (q : Int)).getD (Option.none, 0, 0)) = .slice ao m cap := hsv
            rw [h2] at h1
            exact h1
          have hl1 := hlk w9.drew (Step.refl [] w9).drew
          have hl2 := fun o => hlk (w9.alloc o).drew ((Step.refl [] w9).alloc o).drew
          have hfull := full_any x.bs q3
          have HK := Lib.hid hK9
          have HFU := Lib.hid hfull
          have HRW := Lib.hid (fun o => (RowOr.step (.inl hrow9) ((Step.refl [] w9).drew.alloc o) (by simp) : RowOr (w9.drew.alloc o) w.heap.size 9 1 (.slice ao m cap) m ((hist (accL l k) q).map strV)))
          have HRO := Lib.hid (fun o => hR9.step ((Step.refl [] w9).drew.alloc o) (by simp))
          have HSV := Lib.hid hsv
          have HM := Lib.hid hm
          have HD9 := Lib.hid hD9
          have HDI9 := Lib.hid hdis9
          have HST9 := Lib.hid hst9
          have HFR9 := Lib.hid hfr9
          have hb9 : w.heap.size ≤ w9.heap.size := hst9.size
          obtain ⟨c1, c2, c3⟩ := hK9 w9 (Step.refl _ _)
          clear hD9 hg9 hf9 hlvD hsz9 hB9 hR9 hfr hF9 hdis9 hst9 hfr9 hsv hm hrow9 hRBa hK9 hlk hfull
          go_wp2_with fail
          clear r0 r1 r2 r3 r4 hdcr hdcr2 HB9 HS9 HW9
          go_region_held_law (fun W' => W'.cell? ⟨wr.heap.size, 1, none⟩ = some (.int .i64 (q : Int)) ∧ W'.cell? ⟨wr.heap.size, 3, none⟩ = some (.slice x.ba bn x.bc) ∧ (convert 30 9 (.slice x.ba bn x.bc)).run Try.prog W' = .ok (.string (bstr x.bs)) W')
            (first | exact HK.out _ (Step.refl _ w9).drew | exact HK.out _ ((Step.refl _ w9).alloc _).drew | exact HK.out _ hs8k | exact HK.out _ hs10k)
            (first
              | (go_simp; go_at_call 10; refine (HFU.out _).mono ?_; rintro e7 w7 ⟨rfl, rfl⟩; dsimp only)
              | (refine step_append_row rfl (.tmp 33) (.tmp 38) 34 rfl w.heap.size 9 i0 _ 1 16 Try.underlying34 hi0 hz0 hz1 hz2 rfl (by decide) (.slice ao m cap) m ((hist (accL l k) q).map strV) (by rfl) ?hr ⟨w9.heap.size, 0, none⟩ 1 1 [strV (pad x.bs)] (by rfl) (by decide) rfl (World.news_of_block (Go.heap_alloc_new _ _)) ?h1 ?h2 ?h3 ?h4 ?_
                 case hr => exact HRW.out _
                 case h1 => intro u hu; simp at hu; subst hu; rfl
                 case h2 => unfold maxLen; omega
                 case h3 => omega
                 case h4 => exact Nat.le_trans hb9 (Nat.le_of_lt (by show w9.heap.size < (w9.alloc _).heap.size; rw [World.size_alloc]; exact Nat.lt_succ_self _))
                 intro g8 k8 w8 hown8 hs8 hf8
                 obtain ⟨w10, f', hmu, hR10, hs10, hs10b, hrb⟩ := put_all (HRO.out (.cells #[strV (pad x.bs)] 9)) q hq8 HSV.out HM.out (pad x.bs) g8 k8 (by omega) hown8 hs8 hf8
                 have hs8k : Step (w.heap.size :: foot (.slice ao m cap)) w9 w8 := (((Step.refl _ w9).drew.alloc (.cells #[strV (pad x.bs)] 9)).then hs8 (fun j hj => .inl (List.mem_cons_of_mem _ hj)))
                 have hs10k : Step (w.heap.size :: foot (.slice ao m cap)) w9 w10 := hs8k.then hs10b (fun j hj => .inl (by simp at hj; subst hj; simp))
                 have HR10 := Lib.hid hR10
                 have HS10 := Lib.hid hs10k
                 have HRB := Lib.hid hrb
                 clear hown8 hs8 hf8 hR10 hs10 hs10b hrb))
          all_goals
            have hlvD9 : ∀ j, j ∈ footD db lv wv2 → j < w9.heap.size := fun j hj => by
              simp only [footD, List.mem_cons, List.mem_append] at hj
              rcases hj with rfl | hk | hk
              · exact HD9.out.blk.lt
              · exact owns_live HD9.out.own1 _ hk
              · exact owns_live HD9.out.own2 _ hk
            have hin : ∀ j, j ∈ (w.heap.size :: foot (.slice ao m cap)) → RB w.heap.size f j := fun j hj => by
              rcases List.mem_cons.1 hj with h | h
              · exact .inl h
              · exact .inr ⟨q, hq8, by rw [HSV.out]; exact h⟩
            have HF := Lib.hid (show WInv base db lv wv S w (k + 1) (accL l k ++ [(q, pad x.bs)]) w10 from
              ⟨wv2, _, n + 1, by omega, HD9.out.step HS10.out (fun j hj hm => HDI9.out j hj (hin j hm)), HST9.out.then HS10.out (fun j hj => .inr (HR.out.live j (hin j hj)).1), HFR9.out, HR10.out, fun j hj hb => by
                rcases HRB.out j hb with h | h
                · exact HDI9.out j hj h
                · have h1 := hlvD9 j hj
                  have h2 : w9.heap.size < j + 1 := Nat.lt_succ_of_le (Nat.le_trans (Nat.le_of_lt (by show w9.heap.size < (w9.alloc _).heap.size; rw [World.size_alloc]; exact Nat.lt_succ_self _)) h)
                  omega⟩)
            clear hlvD9 hin HS10 HR10 HRB hmu hs8k hs10k
            go_wp2_with fail
            go_roundw
            case rel => exact ⟨k + 1, by omega, by go_num, by rw [HNX.out, HACC.out]; exact HF.out⟩
            case measure => simp [intOf]; omega
        · have hacc : accA (accL l k) x = accL l k := by
            unfold accA
            rw [if_neg (fun h => hp h.2)]
          have HACC := Lib.hid hacc
          have hs9 : Step [] wr (wr.alloc (.cells #[.int .i64 x.kind, .int .i64 x.pos, .int .i64 x.cnt, .slice x.ba bn x.bc, .int .u64 x.keep] 32)) := (Step.refl [] wr).alloc _
          have hdcr2 := (hs9.cell (World.block_lt_of_cell? wr _ hdcr) (by simp)).trans hdcr
          have HQ := Lib.hid (HW.out.quiet hs9)
          have HW9 := Lib.hid (write_bad base db lv wv' S (accL l k) x.pos x.ba bn x.bc _ (HD.out.step hs9 (by simp)) (by have := HSl.out; omega))
          clear hacc hs9 hp
          go_wp2_with fail
          refine HW9.out.mono ?_
          rintro e w9 ⟨rfl, rfl⟩
          go_wp2_with fail
          go_roundw
          case rel => exact ⟨k + 1, by omega, by go_num, by rw [HNX.out, HACC.out]; exact HQ.out⟩
          case measure => simp [intOf]; omega
      · have p3 : decide ((x.bs.length : Int) ≤ 64) = false := by simp; omega
        have hskip : accA (accL l k) x = accL l k := by
          unfold accA
          rw [if_neg (fun h => q3 h.1)]
        have HSK := Lib.hid hskip
        obtain ⟨bn, hbn⟩ : ∃ n, x.bs.length = n := ⟨_, rfl⟩
        have HBN := Lib.hid hbn
        rw [hbn] at r3 p3
        clear hbn hskip q3
        have HQ := Lib.hid (HW.out.quiet (w' := wr.alloc (.cells #[.int .i64 x.kind, .int .i64 x.pos, .int .i64 x.cnt, .slice x.ba bn x.bc, .int .u64 x.keep] 32)) ((Step.refl [] wr).alloc _))
        go_wp2_with fail
        go_roundw
        case rel => exact ⟨k + 1, by omega, by go_num, by rw [HNX.out, HSK.out]; exact HQ.out⟩
        case measure => simp [intOf]; omega
    · have hke : k = n1 := by omega
      subst hke
      have HQ := HW.out
      clear HW
      obtain ⟨wv', f, n, hnk, hrest⟩ := HQ
      have HQ2 := Lib.hid (show WInv base db lv wv S w 60 (accL l k) wr from ⟨wv', f, n, by omega, hrest⟩)
      clear hrest hnk
      go_wp2_with fail
      go_ret
      exact ⟨rfl, HQ2.out⟩
end Go.Proofs.Ytjemdcdcjohjpaa
