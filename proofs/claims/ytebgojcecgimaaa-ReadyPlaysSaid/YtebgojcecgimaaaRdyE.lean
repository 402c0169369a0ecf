/- Ready: All. -/
import Derived.Test.YtebgojcecgimaaaRdyD
import Derived.Test.YtebgojcecgimaaaHpLE
import Derived.Test.YtebgojcecgimaaaRdyN
import Derived.Test.YtebgojcecgimaaaMarks
namespace Go.Proofs.Ytebgojcecgimaaa
set_option linter.unusedVariables false
set_option linter.unusedSimpArgs false
open Go.RowKit Go.Shelf
attribute [local go_sem] Oper.semAt_some
namespace Rd
attribute [local go_sem] Try.idx0 Try.idx1 Try.idx2 Try.idx3
def preS (S : Nat → List It) (j : Nat) : List It := ((List.range j).map S).flatten
def allS (S : Nat → List It) : List It := preS S 4
theorem preS_succ (S : Nat → List It) (j : Nat) : preS S (j + 1) = preS S j ++ S j := by simp [preS, List.range_succ]
theorem preS_zero (S : Nat → List It) : preS S 0 = [] := rfl
theorem preS_le (S : Nat → List It) : ∀ (k j : Nat), preS S j <+: preS S (j + k)
  | 0, j => List.prefix_refl _
  | k + 1, j => (preS_le S k j).trans (by rw [← Nat.add_assoc, preS_succ]; exact List.prefix_append _ _)
theorem preS_in {S : Nat → List It} {j : Nat} (hj : j < 4) {p : List It} (h : p <+: S j) : preS S j ++ p <+: allS S := by
  have h1 : preS S j ++ p <+: preS S (j + 1) := by rw [preS_succ]; exact (List.prefix_append_right_inj _).2 h
  have h2 := preS_le S (3 - j) (j + 1)
  rw [show j + 1 + (3 - j) = 4 by omega] at h2
  exact h1.trans h2
theorem Rw.inC {w w' : World} {base rb : Nat} {hb : Nat → Nat} {S : Nat → List It} {F : Nat → List Nat} {C H : List Nat} (h : Rw w base rb hb S F) (hs : Step H w w') (hC : ∀ k, k ∈ footR rb F → k ∈ C) (hd : Dj C H) : Rw w' base rb hb S F :=
  h.step hs (fun k hk => hd k (hC k hk))
set_option maxRecDepth 20000 in
set_option maxHeartbeats 2000000 in
theorem all1_sep (n : Nat) (hn : 3 ≤ n) (bx base rb : Nat) (hb : Nat → Nat) (S : Nat → List It) (F : Nat → List Nat) :
    SeqSep Fence.wide n Try.prog 26 #[.pointer (some ⟨bx, 0, none⟩)] (fun x : It => #[.string x.1]) (footR rb F) (fun pre => pre <+: allS S) (fun xs => xs = allS S) (fun pre => pre <+: allS S)
      (fun W => W.cell? ⟨bx, 0, none⟩ = some (.pointer (some ⟨rb, 0, none⟩)) ∧ Rw W base rb hb S F) := by
  intro l J Jx W ⟨hc, hR⟩ hJ hJx hY h0
  have hlt := World.block_lt_of_cell? W _ hc
  have hlive : ∀ k, k ∈ footR rb F → k < W.heap.size := fun k hk => by
    rcases mem_footR.1 hk with rfl | ⟨i, hi, hk⟩
    · exact hR.blk.lt
    · exact (hR.hs i hi).live k hk
  have hN0 := Nest.start (yv := .func (.yield l) #[] #[]) (T := 44) hJ h0 hlive
  have s0 := (Step.refl [] W).alloc (.cells #[.func (.yield l) #[] #[]] 44)
  obtain ⟨W1, hW1⟩ : ∃ W1, W.alloc (.cells #[.func (.yield l) #[] #[]] 44) = W1 := ⟨_, rfl⟩
  rw [hW1] at s0 hN0
  have HW1 := Lib.hid hW1
  have hc1 := (s0.cell hlt (by simp)).trans hc
  have hR1 := hR.step0 s0
  obtain ⟨c0, c1, c2, c3⟩ := hR1.cells
  obtain ⟨yb, hyb⟩ : ∃ b, W.heap.size = b := ⟨_, rfl⟩
  rw [hyb] at hN0
  have HYB := Lib.hid hyb
  have HR := Lib.hid hR1
  have HN0 := Lib.hid hN0
  have HJ := Lib.hid hJ
  have HJX := Lib.hid hJx
  have HY := Lib.hid hY
  clear hR hJ hJx hY h0 hW1 hR1 hN0 s0 hlt hc hlive hyb
  refine callsIn_of_wp_marks Try.func26 rfl trivial ?_
  simp only [Try.ntmps26, List.size_toArray, List.length_cons, List.length_nil, Nat.reduceAdd, Nat.reduceSub, Array.replicate_succ, Array.replicate_zero, List.push_toArray, List.append_toArray, List.nil_append, List.cons_append]
  gi_wp2_with (rw [HW1.out, HYB.out])
  refine wpIn_loop (I := fun a wr => ∃ (j : Nat) (Ds C : List Nat) (u : Nat → Value), j ≤ 4 ∧ a = { tmps := #[.func (.yield l) #[] #[], .pointer (some ⟨bx, 0, none⟩), .pointer (some ⟨yb, 0, none⟩), u 3, u 4, u 5, u 6, u 7, u 8, u 9, u 10, .agg #[.pointer (some ⟨hb 0, 0, none⟩), .pointer (some ⟨hb 1, 0, none⟩), .pointer (some ⟨hb 2, 0, none⟩), .pointer (some ⟨hb 3, 0, none⟩)], .int .i64 j, u 13, u 14, u 15, u 16, u 17, u 18, u 19, u 20, u 21, u 22, u 23], defers := mks Ds } ∧
      Nest J (footR rb F) yb (.func (.yield l) #[] #[]) 44 (preS S j) Ds wr C ∧ Rw wr base rb hb S F) (fun a _ => 4 - (intOf (a.tmps.getD 12 undef)).toNat) ?_ ?_
  · exact ⟨0, [], _, fun k => #[undef, undef, undef, undef, undef, undef, .pointer (some ⟨rb, 0, none⟩), .bool false, .pointer (some ⟨rb, 0, none⟩), .pointer (some ⟨rb, 0, none⟩), .pointer (some ⟨rb, 0, none⟩)].getD k undef, Nat.zero_le _, rfl, HN0.out, HR.out⟩
  · rintro a wr ⟨j, Ds, C, u, hj, rfl, hN, hRr⟩
    by_cases h4 : j < 4
    · have HI := Lib.hid (And.intro hN hRr)
      have HJJ := Lib.hid h4
      have hidx : ∀ w, (Instr.index 55 (.agg #[.pointer (some ⟨hb 0, 0, none⟩), .pointer (some ⟨hb 1, 0, none⟩), .pointer (some ⟨hb 2, 0, none⟩), .pointer (some ⟨hb 3, 0, none⟩)]) (.int .i64 (j : Int))).run Try.prog w = .ok (.pointer (some ⟨hb j, 0, none⟩)) w := by
        intro w
        rcases (by omega : j = 0 ∨ j = 1 ∨ j = 2 ∨ j = 3) with rfl | rfl | rfl | rfl
        · exact Try.idx0 _ _ _ _ _
        · exact Try.idx1 _ _ _ _ _
        · exact Try.idx2 _ _ _ _ _
        · exact Try.idx3 _ _ _ _ _
      have p4 : (j : Int) < 4 := by omega
      clear hN hRr h4 hj
      gi_wp2
      refine ⟨trivial, fun _ => by omega, (callsIn_wide.2 (HpE.all_box _ _)).mono ?_⟩
      rintro e w5 ⟨rfl, hw5⟩
      have s5 : Step [] wr w5 := by rw [hw5]; exact (Step.refl [] wr).alloc _
      have hbx := (Blk.new wr #[.pointer (some ⟨hb j, 0, none⟩)] 54).cell 0
      rw [← hw5] at hbx
      simp only [List.getElem?_toArray, List.getElem?_cons_zero] at hbx
      have hNm := (HI.out.1.step HJ.out s5 (fun k _ => List.not_mem_nil)).mark HJ.out
      have hRm := (HI.out.2.step0 s5).step0 ((Step.refl [] w5).alloc (.deferred (some [])))
      have HNm := Lib.hid (And.intro hNm hRm)
      have hblt := World.block_lt_of_cell? w5 _ hbx
      have hPre : ∀ X, Step [] w5 X → X.cell? ⟨wr.heap.size, 0, none⟩ = some (.pointer (some ⟨hb j, 0, none⟩)) ∧ HpE.Hs X base (hb j) (S j) (F j) := fun X hs =>
        ⟨(hs.cell hblt (by simp)).trans hbx, (((HI.out.2.step0 s5).step0 hs).hs j HJJ.out)⟩
      have HPre := Lib.hid hPre
      obtain ⟨D, hD⟩ : ∃ D, w5.heap.size = D := ⟨_, rfl⟩
      have HDD := Lib.hid hD
      clear hw5 s5 hbx hNm hRm hblt hPre hD
      gi_wp2
      refine wpIn_range_sepD (gf := 34) (lb := #[.pointer (some ⟨wr.heap.size, 0, none⟩)]) rfl (by omega) rfl trivial (enters_of Try.func34 (by kernel_rfl) rfl)
        (HpE.all1_sep (n - 1) (by omega) wr.heap.size base (hb j) (S j) (F j)) HPre.out (fun _ => rfl) (fun k hk => absurd hk List.not_mem_nil)
        (fun xs A C => Nest J (footR rb F) yb (.func (.yield l) #[] #[]) 44 (preS S j ++ xs) (w5.heap.size :: Ds) A C ∧ Rw A base rb hb S F)
        (fun c xs A C => c = .ret ∧ ∃ p, p <+: allS S ∧ Nest Jx (footR rb F) yb (.func (.yield l) #[] #[]) 44 p (w5.heap.size :: Ds) A C)
        (fun s A B C H h hs hd => ⟨h.1.step HJ.out hs hd, h.2.inC hs h.1.rin hd⟩) (fun s A C h => h.1.live) (fun s A C h k hk => absurd hk List.not_mem_nil)
        (fun c s A B C H h hs hd => by obtain ⟨h1, p, hp, h2⟩ := h; exact ⟨h1, p, hp, h2.step HJX.out hs hd⟩) (fun c s A C h => by obtain ⟨h1, p, hp, h2⟩ := h; exact h2.live)
        (w5.heap.size :: C) ?h0 (fun x a' A => ∃ b, a' = { tmps := #[.func (.yield l) #[] #[], .pointer (some ⟨bx, 0, none⟩), .pointer (some ⟨yb, 0, none⟩), u 3, .pointer (some ⟨hb j, 0, none⟩), .pointer (some ⟨b, 0, none⟩), u 6, u 7, u 8, u 9, u 10, .agg #[.pointer (some ⟨hb 0, 0, none⟩), .pointer (some ⟨hb 1, 0, none⟩), .pointer (some ⟨hb 2, 0, none⟩), .pointer (some ⟨hb 3, 0, none⟩)], .int .i64 (j : Int), .bool true, .pointer (some ⟨hb j, 0, none⟩), .pointer (some ⟨hb j, 0, none⟩), .func (.func 34) #[] #[.pointer (some ⟨wr.heap.size, 0, none⟩)], .agg #[.string x.1, .int .u64 x.2], u 18, u 19, u 20, u 21, u 22, u 23], defers := [] } ∧ Blk A b #[.string x.1, .int .u64 x.2] 66) ?hAx ?assign ?body ?done ?stop
      case h0 => rw [List.append_nil]; exact HNm.out
      case hAx =>
        rintro x a' A B b r ⟨b0, rfl, hB⟩ hl hs
        refine ⟨b0, rfl, hB.step hs (fun hm => ?_)⟩
        simp at hm
        subst hm
        unfold Blk at hB
        rw [hB] at hl
        cases hl
      case assign =>
        rintro l2 pre ⟨xk, xr⟩ A C2 K hI hK
        gi_wp2
        exact hK _ _ ((Step.refl [] A).alloc _) ⟨A.heap.size, rfl, Blk.new A _ _⟩
      case body =>
        rintro l2 pre ⟨xk, xr⟩ a' A C2 hrec hlC hV hI ⟨b, rfl, hB⟩
        have x0 := hB.cell 0
        have y0 := hI.1.yblk.cell 0
        simp only [List.getElem?_toArray, List.getElem?_cons_zero] at x0 y0
        have hV2 := preS_in HJJ.out hV
        rw [← List.append_assoc] at hV2
        obtain ⟨fn, tmps, asg, bd, hy, hr⟩ := HY.out (preS S j ++ pre) (xk, xr) A _ hI.1.jj hV2
        dsimp only at hy
        have HI2 := Lib.hid (And.intro hI hV2)
        have HRR := Lib.hid hr
        clear hI hr hB hV hV2 hrec
        gi_wp2
        refine ⟨fun _ => by omega, RoundIn.inner rfl (HRR.out.mono ?_)⟩
        rintro e B (⟨rfl, hj3, H3, s3, d3⟩ | ⟨rfl, hj3, H3, s3, d3⟩)
        · obtain ⟨C3, n3, t3, f3⟩ := HI2.out.1.1.round hj3 s3 d3
          have HF := Lib.hid (show ∃ C', (Nest J (footR rb F) yb (.func (.yield l) #[] #[]) 44 (preS S j ++ (pre ++ [(xk, xr)])) (w5.heap.size :: Ds) B C' ∧ Rw B base rb hb S F) ∧ Step C2 A B ∧ Fresh A C2 C' from
            ⟨C3, ⟨by rw [← List.append_assoc]; exact n3, HI2.out.1.2.step s3 (fun k hk => d3 k (List.mem_append_left _ hk))⟩, t3, f3⟩)
          clear hj3 s3 d3 n3 t3 f3
          gi_wp2
          exact HF.out
        · obtain ⟨C3, n3, t3, f3⟩ := HI2.out.1.1.round hj3 s3 d3
          have HF := Lib.hid (show ∃ C', (Code.ret = Code.ret ∧ ∃ p, p <+: allS S ∧ Nest Jx (footR rb F) yb (.func (.yield l) #[] #[]) 44 p (w5.heap.size :: Ds) B C') ∧ Step C2 A B ∧ Fresh A C2 C' from
            ⟨C3, ⟨rfl, _, HI2.out.2, n3⟩, t3, f3⟩)
          clear hj3 s3 d3 n3 t3 f3
          gi_wp2
          obtain ⟨C4, ⟨_, h4⟩, h5⟩ := HF.out
          exact ⟨C4, ⟨rfl, h4⟩, h5⟩
      case done =>
        rintro xs B C2 rfl ⟨hN, hRB⟩
        rw [← preS_succ] at hN
        have HE := Lib.hid (And.intro hN hRB)
        clear hN hRB
        dsimp only
        rw [← mks_cons]
        gi_wp2
        refine ⟨⟨j + 1, w5.heap.size :: Ds, C2, fun k => #[undef, undef, undef, u 3, .pointer (some ⟨hb j, 0, none⟩), u 5, u 6, u 7, u 8, u 9, u 10, undef, undef, .bool true, .pointer (some ⟨hb j, 0, none⟩), .pointer (some ⟨hb j, 0, none⟩), .func (.func 34) #[] #[.pointer (some ⟨wr.heap.size, 0, none⟩)], u 17, u 18, u 19, u 20, u 21, u 22, .int .i64 ((j : Int) + 1)].getD k undef, HJJ.out, rfl, HE.out⟩, ?_⟩
        simp [intOf]
        omega
      case stop =>
        rintro c xs B C2 hp ⟨rfl, p, hp2, hN⟩
        have HE := Lib.hid hN
        clear hN
        gi_wp2
        refine HE.out.leave HJX.out rfl ?_
        intro w' G hG
        exact ⟨⟨_, rfl⟩, .inr ⟨p, G, hp2, hG⟩⟩
    · have hj4 : j = 4 := by omega
      subst hj4
      have HE := Lib.hid hN
      clear hN hRr
      gi_wp2
      refine HE.out.leave HJ.out rfl ?_
      intro w' G hG
      exact ⟨⟨_, rfl⟩, .inl ⟨_, G, rfl, hG⟩⟩
end Rd
end Go.Proofs.Ytebgojcecgimaaa
