/- net: put, cut. -/
import Derived.Test.YtminpglkipnhcaaNetE
namespace Go.Proofs.Ytminpglkipnhcaa
set_option linter.unusedVariables false
open Go.RowKit
attribute [local go_sem ↓] exec_load_m exec_store_m
attribute [local go_sem] Try.load_m row_drew Try.store_m

theorem one_m (w : World) (x : Ms) : (oneBig 38 (.agg (msC x).toArray)).run Try.prog w = .ok (.slice (some ⟨w.heap.size, 0, none⟩) 1 1) (w.alloc (.cells (msC x).toArray 31)) := by
  obtain ⟨i0, hi0, hz0, hz1, hz2⟩ := infoM_parts
  exact run_oneBig 38 31 11 i0 _ Try.underlying38 hi0 hz0 hz1 (by decide) (by decide) _ rfl w
/-- a new block with a message -/
def SpB (B : Nat) (x : Ms) (v : Value) (w : World) : Prop := ∃ b, v = .slice (some ⟨b, 0, none⟩) 1 1 ∧ Blk w b (msC x).toArray 31 ∧ B ≤ b
theorem spB_step (B : Nat) (x : Ms) : ∀ v w w', SpB B x v w → Step [] w w' → SpB B x v w' := by
  rintro v w w' ⟨b, h1, h2, h3⟩ hs
  exact ⟨b, h1, h2.step hs (by simp), h3⟩

/-- a message is the last one; the first one goes, if they are too many -/
def putL (L : List Ms) (x : Ms) : List Ms := if 64 < (L ++ [x]).length then (L ++ [x]).eraseIdx 0 else L ++ [x]

theorem putL_of_lt {L : List Ms} {x : Ms} (h : L.length < 64) : putL L x = L ++ [x] := by unfold putL; rw [if_neg (by simp; omega)]
theorem putL_of_ge {L : List Ms} {x : Ms} (h : 64 ≤ L.length) : putL L x = (L ++ [x]).eraseIdx 0 := by unfold putL; rw [if_pos (by simp; omega)]
/-- a net with another row -/
theorem Nt.stored {W w8 : World} {base nb mb : Nat} {lv lv8 : Value} {L L8 : List Ms} {n : Nat} {f : PK → Option Bool} (h : Nt W base nb mb lv L n f) (hs : Step (foot lv) W w8) (ho : w8.ownsRow base 31 11 lv8 L8.length (flatM L8)) (hf : Fresh W (foot lv) (foot lv8)) (hfew : L8.length ≤ 65) :
    Nt (w8.setCell ⟨nb, 0, none⟩ lv8) base nb mb lv8 L8 n f ∧ Step (nb :: foot lv) W (w8.setCell ⟨nb, 0, none⟩ lv8) := by
  have hst : Step [nb] w8 (w8.setCell ⟨nb, 0, none⟩ lv8) := (Step.refl [nb] w8).setCell (.inl (by simp)) 0 _
  have hnb : nb ∉ foot lv8 := fun hk => by
    rcases hf _ hk with h1 | h1
    · exact h.ap1 h1
    · have := h.blk.lt
      omega
  have hmb : mb ∉ foot lv8 := fun hk => by
    rcases hf _ hk with h1 | h1
    · exact h.ap2 h1
    · have := h.walls.lt
      omega
  exact ⟨⟨(h.blk.step hs h.ap1).set 0 _, owns_step ho hst (fun k hk hm => by simp at hm; subst hm; exact hnb hk), (h.walls.step hs h.ap2).step hst (by simp; exact Ne.symm h.ap3), h.low1, h.low2, hnb, hmb, h.ap3, hfew, h.fewn⟩,
    (hs.mono (fun k hk => List.mem_cons_of_mem _ hk)).setCell (.inl (by simp)) 0 _⟩

def PutPost (base nb mb : Nat) (lv : Value) (L : List Ms) (n : Nat) (f : PK → Option Bool) (w : World) (w' : World) : Prop := ∃ lv', Nt w' base nb mb lv' L n f ∧ Step (nb :: foot lv) w w' ∧ Fresh w (foot lv) (foot lv')

set_option maxRecDepth 20000 in
set_option maxHeartbeats 2000000 in
theorem put_any (base nb mb : Nat) (lv : Value) (L : List Ms) (n : Nat) (f : PK → Option Bool) (x : Ms) (w : World) (h : Nt w base nb mb lv L n f) (h64 : L.length ≤ 64) :
    Calls Try.prog 22 #[.pointer (some ⟨nb, 0, none⟩), .agg (msC x).toArray] w fun e w' => e = .returned (.tuple #[]) ∧ PutPost base nb mb lv (putL L x) n f w w' := by
  obtain ⟨i0, hi0, hz0, hz1, hz2⟩ := infoM_parts
  have HI := Lib.hid (And.intro hi0 (And.intro hz0 (And.intro hz1 hz2)))
  have hmx := Blk.new w (msC x).toArray 31
  have hsx := (Step.refl [] w).alloc (.cells (msC x).toArray 31)
  have hlt := h.blk.lt
  have h1 := h.step0 hsx
  obtain ⟨b1, hb1⟩ : ∃ b, w.heap.size = b := ⟨_, rfl⟩
  obtain ⟨W, hW⟩ : ∃ W, w.alloc (.cells (msC x).toArray 31) = W := ⟨_, rfl⟩
  have HW := Lib.hid hW
  have HB := Lib.hid hb1
  rw [hW] at hmx hsx h1
  rw [hb1] at hmx hlt
  have c0 := h1.blk.cell 0
  simp only [List.getElem?_toArray, List.getElem?_cons_zero] at c0
  have hr := msg_row hmx
  have hlt1 := hmx.lt
  have hltn := h1.blk.lt
  have hfew := h1.few
  have HH := Lib.hid h1
  have HS := Lib.hid hsx
  have HM := Lib.hid hmx
  have hbase : base ≤ W.heap.size := by have := h1.low1; omega
  clear h h1 hsx hmx hi0 hz0 hz1 hz2 hW hb1
  obtain ⟨PL, hPL⟩ : ∃ PL, putL L x = PL := ⟨_, rfl⟩
  have HPL := Lib.hid hPL
  rw [hPL]
  clear hPL
  go_enter Try.func22, Try.ntmps22
  go_wp2_with fail
  rw [HW.out, HB.out]
  have hne0 : Nonempty (ClsW (fun _ => True)) := ⟨⟨W, trivial⟩⟩
  have hne : Nonempty (ClsW (Step [] W.drew)) := ⟨⟨_, Step.refl _ _⟩⟩
  have d0 : ∀ y : ClsW (Step [] W.drew), y.val.cell? ⟨nb, 0, none⟩ = some lv := fun y => (y.ok.cell hltn (by simp)).trans c0
  have d1 : ∀ y : ClsW (Step [] W.drew), rowC y.val b1 0 11 = some (msC x) := fun y => msg_row ((HM.out.drew).step y.ok (by simp))
  refine wp_region_prt sp0_law 4 7 (by kernel_rfl) (by kernel_rfl) (fun c a d v w h => by cases d <;> exact h) ?_
  simp only [List.take_succ_cons, List.take_zero, List.drop_succ_cons, List.drop_zero]
  repeat (go_big_quiet_step (fail))
  refine wpQuiet_nil ?_
  refine wpR_pre sp0_law anti_tail 2 _ _ _ ?_ rfl
  simp only [List.take_succ_cons, List.take_zero, List.drop_succ_cons, List.drop_zero]
  repeat (go_big_quiet_step (fail))
  refine wpQuiet_nil ?_
  refine wpR_make sp0_law anti_tail (SpB W.heap.size x) (by rfl) (fun w1 hg => ⟨.slice (some ⟨w1.heap.size, 0, none⟩) 1 1, w1.alloc (.cells (msC x).toArray 31), by rw [execOp_oneBig]; simp [Act.eval, one_m, oVal], (Step.refl [] w1).alloc _, ⟨_, rfl, Blk.new _ _ _, hg.size⟩⟩) (spB_step _ _) ?_
  rintro v10 ⟨w10, hg10, b10, rfl, -, -⟩
  go_simp
  unfold wpR
  rintro w7 hs7 ⟨b10', hb10', hblk10, hlow10⟩
  have hbb : b10 = b10' := by simpa using hb10'
  subst hbb
  have hs70 : Step [] W w7 := (Step.refl [] W).drew.then hs7 (by simp)
  have hH7 := HH.out.step0 hs70
  refine wpList_append_sep rfl (.tmp 8) (.tmp 10) 38 rfl base 31 i0 _ 11 136 Try.underlying38 HI.out.1 HI.out.2.1 HI.out.2.2.1 HI.out.2.2.2 rfl (by decide) lv L.length (flatM L) rfl hH7.own (some ⟨b10, 0, none⟩) 1 1 (msC x) rfl (fun h => by cases h) rfl (fun ad he j u hu => by cases he; rw [Go.Proofs.Ytminpglkipnhcaa.add_plain, hblk10.cell]; simpa using hu) (msC_one x) (by unfold maxLen; omega) (by omega) (by have := hs70.size; omega) ?_
  intro v8 w8 ho8 hg8 hf8
  have hst8 : Step (foot lv) w7 w8 := ((Step.refl [] w7).mono (by simp)).grown hg8 (fun k hk => .inl (mem_foot.2 hk))
  have ho8' : w8.ownsRow base 31 11 v8 (L ++ [x]).length (flatM (L ++ [x])) := by
    rw [List.length_append]
    unfold flatM at ho8 ⊢
    rw [flatF_app]
    simpa using ho8
  obtain ⟨hN, hS⟩ := hH7.stored hst8 ho8' hf8 (by simp; omega)
  obtain ⟨g, cap, hv8, -⟩ := owns_form ho8' (by simp)
  have hlen : (L ++ [x]).length = L.length + 1 := by simp
  rw [hlen] at hv8
  subst hv8
  have hfr : Fresh w (foot lv) (foot (.slice (some ⟨g, 0, none⟩) (L.length + 1) cap)) := fun k hk => by
    rcases hf8 k hk with h1 | h1
    · exact .inl h1
    · exact .inr (by have := HS.out.size; have := hs70.size; omega)
  have hST : Step (nb :: foot lv) w (w8.setCell ⟨nb, 0, none⟩ (.slice (some ⟨g, 0, none⟩) (L.length + 1) cap)) := ((HS.out.then hs70 (by simp)).mono (by simp)).then hS (fun k hk => .inl hk)
  have HP := Lib.hid (And.intro hN (And.intro hST hfr))
  have k0 := (hH7.blk.step hst8 hH7.ap1).cell 0
  have kf := (hH7.blk.step hst8 hH7.ap1).free 0
  simp only [List.getElem?_toArray, List.getElem?_cons_zero] at k0
  obtain ⟨m, hm⟩ : ∃ m, L.length = m := ⟨_, rfl⟩
  have HML := Lib.hid hm
  rw [hm] at HP h64 ⊢
  clear hN hST hfr hS ho8 ho8' hg8 hf8 hst8 hH7 hs70 hs7 hblk10 hlow10 d0 d1 hne hne0 hlen c0 hr hfew hm hb10' hg10
  by_cases h5 : m = 64
  · have hp : putL L x = (L ++ [x]).eraseIdx 0 := putL_of_ge (by rw [HML.out]; omega)
    have HPP := Lib.hid hp
    clear hp
    subst h5
    have hD : ∀ W9, W9.ownsRow base 31 11 (.slice (some ⟨g, 0, none⟩) 65 cap) 65 (flatM (L ++ [x])) → Calls Try.prog 35 #[.slice (some ⟨g, 0, none⟩) 65 cap, .int .i64 0, .int .i64 1] W9 fun e w' =>
        e = .returned (.slice (some ⟨g, 0, none⟩) 64 cap) ∧ w'.ownsRow base 31 11 (.slice (some ⟨g, 0, none⟩) 64 cap) 64 (flatM ((L ++ [x]).eraseIdx 0)) ∧ Step [g] W9 w' := fun W9 ho => by
      have := del_any base g 65 cap 0 (L ++ [x]) W9 ho (by omega) (by omega)
      simpa using this
    have HD := Lib.hid (hD _ (by have := HP.out.1.own; rw [List.length_append, HML.out] at this; exact this))
    clear hD
    go_wp2_with fail
    refine HD.out.mono ?_
    rintro e w9 ⟨rfl, ho9, hs9⟩
    have hl8 : ((L ++ [x]).eraseIdx 0).length = 64 := by rw [List.length_eraseIdx]; simp [HML.out]
    obtain ⟨hN, hS⟩ := HP.out.1.stored (L8 := (L ++ [x]).eraseIdx 0) (lv8 := .slice (some ⟨g, 0, none⟩) 64 cap) (hs9.mono (by simp [foot_some])) (by rw [hl8]; exact ho9) (fun k hk => .inl hk) (by omega)
    have hB9 := HP.out.1.blk.step hs9 (fun hm => HP.out.1.ap1 (by simpa [foot_some] using hm))
    have q0 := hB9.cell 0
    have qf := hB9.free 0
    simp only [List.getElem?_toArray, List.getElem?_cons_zero] at q0
    have hfr := HP.out.2.2
    have hST := HP.out.2.1.then hS (fun k hk => by
      rcases List.mem_cons.1 hk with h1 | h1
      · exact .inl (by simp [h1])
      · rcases hfr k h1 with h2 | h2
        · exact .inl (List.mem_cons_of_mem _ h2)
        · exact .inr h2)
    have HQ := Lib.hid (show PutPost base nb mb lv ((L ++ [x]).eraseIdx 0) n f w (w9.setCell ⟨nb, 0, none⟩ (.slice (some ⟨g, 0, none⟩) 64 cap)) from ⟨_, hN, hST, hfr⟩)
    clear hN hST hS hfr hB9 ho9 hs9 hl8 HP HD
    go_wp2_with fail
    go_end0
    exact ⟨rfl, by rw [← HPL.out, HPP.out]; exact HQ.out⟩
  · have h6 : m < 64 := by omega
    have hp : putL L x = L ++ [x] := putL_of_lt (by rw [HML.out]; exact h6)
    have HPP := Lib.hid hp
    clear hp
    go_wp2_with fail
    go_end0
    exact ⟨rfl, by rw [← HPL.out, HPP.out]; exact ⟨_, HP.out⟩⟩
end Go.Proofs.Ytminpglkipnhcaa
