/- heap E (string, uint64): order. -/
import Derived.Test.YtebgojcecgimaaaHpAE
import Derived.Test.YtebgojcecgimaaaHpOr
import Derived.Test.YtebgojcecgimaaaSep
import Derived.StillTailTactics
namespace Go.Proofs.Ytebgojcecgimaaa
set_option linter.unusedVariables false
open Go.RowKit
namespace HpE
set_option maxRecDepth 20000 in
set_option maxHeartbeats 1000000 in
theorem order_any (a b : It) (w : World) : Calls Try.prog 36 #[.agg #[.string (a.1), .int .u64 (a.2)], .agg #[.string (b.1), .int .u64 (b.2)]] w fun e w' => e = .returned (.int .i64 (Hp.cmpL (Hp.ltI ltStr) a b)) ∧ Step [] w w' := by
  rw [Hp.cmpI]
  obtain ⟨ak, ar⟩ := a
  obtain ⟨bk, br⟩ := b
  dsimp only
  obtain ⟨x, hx⟩ : ∃ x, Hp.cmpL ltInt ar br = x := ⟨_, rfl⟩
  obtain ⟨y, hy⟩ : ∃ y, Hp.cmpL ltStr ak bk = y := ⟨_, rfl⟩
  have H1 := Lib.hid (cmpR ar br)
  have H2 := Lib.hid (cmpK ak bk)
  rw [hx] at H1 ⊢
  rw [hy] at H2 ⊢
  clear hx hy
  obtain ⟨z, hz⟩ : ∃ z, (if x ≠ 0 then x else y) = z := ⟨_, rfl⟩
  have HZ := Lib.hid hz
  rw [hz]
  clear hz
  go_enter Try.func36, Try.ntmps36
  go_wp2_with fail
  have hs2 : Step [] w ((w.alloc (.cells #[.string (ak), .int .u64 (ar)] 66)).alloc (.cells #[.string (bk), .int .u64 (br)] 66)) := ((Step.refl [] w).alloc _).alloc _
  have hb1 := (Blk.new w #[.string (ak), .int .u64 (ar)] 66).alloc (.cells #[.string (bk), .int .u64 (br)] 66)
  have hb2 := Blk.new (w.alloc (.cells #[.string (ak), .int .u64 (ar)] 66)) #[.string (bk), .int .u64 (br)] 66
  rw [World.size_alloc] at hb2
  obtain ⟨W, hW⟩ : ∃ W, (w.alloc (.cells #[.string (ak), .int .u64 (ar)] 66)).alloc (.cells #[.string (bk), .int .u64 (br)] 66) = W := ⟨_, rfl⟩
  rw [hW] at hs2 hb1 hb2 ⊢
  have c10 := hb1.cell 0
  have c11 := hb1.cell 1
  have c20 := hb2.cell 0
  have c21 := hb2.cell 1
  simp only [List.getElem?_toArray, List.getElem?_cons_zero, List.getElem?_cons_succ] at c10 c11 c20 c21
  have HS := Lib.hid hs2
  clear hs2 hb1 hb2 hW
  refine wp_region_still_tail 10 (by kernel_rfl) (by kernel_rfl) ?_
  simp only [List.take_succ_cons, List.take_zero, List.drop_succ_cons, List.drop_zero]
  repeat still_step
  still_call ((H1.out _).mono fun e w' h => And.intro h.1 h.2.symm)
  repeat still_step
  still_call ((H2.out _).mono fun e w' h => And.intro h.1 h.2.symm)
  repeat still_step
  refine wpStill_nil ?_
  change wpList _ _ _ _ _ W.drew
  have hs3 : Step [] W (W.drew.alloc (.cells #[.int .i64 x, .int .i64 y] 3)) := (Step.refl [] W).drew.alloc _
  have HS3 := Lib.hid (HS.out.then hs3 (by simp))
  have hb3 := Blk.new W.drew #[.int .i64 x, .int .i64 y] 3
  have HO := Lib.hid (or_any W.heap.size x y (W.drew.alloc (.cells #[.int .i64 x, .int .i64 y] 3)) (hb3.cell 0) (hb3.cell 1))
  rw [HZ.out] at HO
  clear hs3 hb3
  go_wp2_with fail
  refine HO.out.mono ?_
  rintro e w' ⟨rfl, rfl⟩
  go_wp2_with fail
  go_ret
  exact ⟨rfl, HS3.out⟩
end HpE
end Go.Proofs.Ytebgojcecgimaaa
