/- heap E (string, uint64): All. -/
import Derived.Test.YtebgojcecgimaaaHpKE
import Derived.Test.YtebgojcecgimaaaRangeSep
import Derived.RangeFuncNested
import Derived.RangeFuncBound
import Derived.RangeFuncCalls
import Derived.RangeFuncLeaves
import Derived.Shelf.Abstract
import Derived.WalkKit
import Derived.OwnWalkIn
import Derived.TacticsInMore
import Derived.LoopNIn
import Derived.LoopIn
namespace Go.Proofs.Ytebgojcecgimaaa
set_option linter.unusedVariables false
open Go.RowKit Go.Shelf
attribute [local go_sem] Oper.semAt_some
namespace HpE
set_option maxRecDepth 20000 in
set_option maxHeartbeats 2000000 in
theorem all1_sep (n : Nat) (hn : 1 ≤ n) (bx base hb : Nat) (s : List It) (Fh : List Nat) :
    SeqSep Fence.wide n Try.prog 34 #[.pointer (some ⟨bx, 0, none⟩)] (fun x : It => #[.agg #[.string (x.1), .int .u64 (x.2)]]) [] (fun pre => pre <+: s) (fun xs => xs = s) (fun pre => pre <+: s)
      (fun W => W.cell? ⟨bx, 0, none⟩ = some (.pointer (some ⟨hb, 0, none⟩)) ∧ Hs W base hb s Fh) := by
  intro l J Jx W ⟨hc, hH⟩ hJ hJx hY h0
  have HH := Lib.hid hH
  have HJ := Lib.hid hJ
  have HY := Lib.hid hY
  have H0 := Lib.hid h0
  clear hH hJ hJx hY h0
  refine callsIn_of_wp Try.func34 rfl trivial ?_ rfl
  simp only [Try.ntmps34, List.size_toArray, List.length_cons, List.length_nil, Nat.reduceAdd, Nat.reduceSub, Array.replicate_succ, Array.replicate_zero, List.push_toArray, List.append_toArray, List.nil_append, List.cons_append]
  gi_wp2
  refine ⟨trivial, (callsIn_wide.2 (copy_hs HH.out)).mono ?_⟩
  rintro e w1 ⟨hb', F', rfl, h1, s1⟩
  have H1 := Lib.hid (And.intro h1 (HJ.out [] W w1 [] F' H0.out s1 (fun k hk => .inr (h1.low k hk)) h1.live))
  clear h1 s1 hc
  gi_wp2
  gi_loopw [10] (fun _ wr => ∃ (pre rest : List It) (G : List Nat), s = pre ++ rest ∧ Hs wr W.heap.size hb' rest G ∧ J pre wr G) (fun _ wr => szAt wr hb')
  case atStart => exact ⟨[], s, F', rfl, H1.out.1, H1.out.2⟩
  case round =>
    obtain ⟨pre, rest, G, hs, hR, hJr⟩ := hrel
    have HR' := Lib.hid (And.intro hR hJr)
    have HS := Lib.hid hs
    clear hR hJr hs H1
    gi_wp2
    refine ⟨trivial, (callsIn_wide.2 (len_hs HR'.out.1)).mono ?_⟩
    rintro e w5 ⟨rfl, rfl⟩
    cases rest with
    | nil =>
      simp only [List.length_nil]
      gi_wp2
      go_end0
      exact ⟨⟨_, rfl⟩, .inl ⟨pre, G, by rw [HS.out]; simp, HR'.out.2⟩⟩
    | cons x rest =>
      have p2 : 0 < (x :: rest).length := by simp
      have HL := Lib.hid HR'.out.1.sz
      generalize (x :: rest).length = L at p2 HL ⊢
      have HP := Lib.hid (pop_hs HR'.out.1)
      simp only [hdS, List.tail_cons] at HP
      obtain ⟨xk, xr⟩ := x
      dsimp only at HP
      gi_wp2
      refine ⟨trivial, (callsIn_wide.2 HP.out).mono ?_⟩
      rintro e w5 ⟨G5, rfl, h5, s5, f5⟩
      have hJ5 := HJ.out pre wr w5 G G5 HR'.out.2 s5 f5 h5.live
      have sA := (Step.refl [] w5).alloc (.cells #[.string (xk), .int .u64 (xr)] 66)
      have h6 := h5.step sA (by simp)
      have hJ6 := HJ.out pre w5 _ G5 G5 hJ5 (sA.mono (by simp)) (fun k hk => .inl hk) h6.live
      obtain ⟨fn, tmps, assign, body, hy, hR⟩ := HY.out pre (xk, xr) _ G5 hJ6 ⟨rest, by rw [HS.out]; simp⟩
      dsimp only at hy
      have H6 := Lib.hid h6
      have HRD := Lib.hid hR
      clear hJ5 hJ6 h5 s5 f5 sA h6 hR
      gi_wp2
      refine HRD.out.mono ?_
      rintro e W3 (⟨rfl, hJ3, H3, s3, d3⟩ | ⟨rfl, hJx3, _⟩)
      · have h7 := H6.out.step s3 (fun k hk => d3 k (by simpa using hk))
        have H7 := Lib.hid (And.intro h7 hJ3)
        clear hJ3 s3 d3 h7
        gi_wp2
        go_roundw
        case rel => exact ⟨pre ++ [(xk, xr)], rest, G5, by rw [HS.out]; simp, H7.out⟩
        case measure =>
          have h8 := HR'.out.1.sz
          rw [HL.out] at h8
          rw [H7.out.1.sz, HL.out, h8]
          simp
      · have HX := Lib.hid hJx3
        clear hJx3
        gi_wp2
        refine bodyPost_ret (results_none rfl _ _ _) rfl ?_
        exact ⟨⟨_, rfl⟩, .inr ⟨pre ++ [(xk, xr)], G5, ⟨rest, by rw [HS.out]; simp⟩, HX.out⟩⟩
end HpE
end Go.Proofs.Ytebgojcecgimaaa
