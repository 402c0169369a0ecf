/- OctetFlags: the law's own walk. -/
import Derived.Test.YtllpcddfnjbeaaaOctetLives
namespace Go.Proofs.Ytllpcddfnjbeaaa
set_option linter.unusedVariables false
open Go.RowKit

theorem oneB (w : World) (x : UInt8) (T : TypeId) : Bytes (w.alloc (.cells #[.int .u8 (x.toNat : Int)] T)) (some ⟨w.heap.size, 0, none⟩) [x] := fun i hi => by
  have h0 : i = 0 := by simp at hi; omega
  subst h0
  exact ⟨w.heap.size, 0, rfl, by simp, by simp⟩

set_option maxRecDepth 100000 in
set_option maxHeartbeats 800000 in
theorem octetFlags_in (x : UInt8) (a : Option Addr) (cap : Nat) (l : List UInt8) (w : World) (hB : Bytes w a l) (hn : a = none → l.length = 0 ∧ cap = 0) (hlen : l.length ≤ 100) :
    Calls Try.prog 4 #[.int .u8 (x.toNat : Int), .slice a l.length cap] w fun e w' => e = .returned (.bool true) ∧ Below w.heap.size w w' := by
  have HB := Lib.hid hB
  have HN := Lib.hid hn
  clear hB hn
  go_enter Try.func4, Try.ntmps4
  go_wp2_with fail
  refine (lives_any w).mono ?_
  rintro e w1 ⟨rfl, hs⟩
  have HS := Lib.hid hs
  clear hs
  go_wp2_with fail
  have hW0 := (Wr.new w1).step (F := []) ((Step.refl _ _).alloc (.cells #[.int .u8 (x.toNat : Int)] 5)) (by simp) (fun k hk => by simp)
  have hb1 := oneB (w1.alloc (.cells #[.slice none 0 0] 27)) x 5
  rw [World.size_alloc] at hb1
  have hc1 := raw_any w1.heap.size w1.heap.size (.slice none 0 0) [] (some ⟨w1.heap.size + 1, 0, none⟩) 1 [x] _ hW0 (fun h => by cases h) hb1 (by simp)
  refine Calls.mono hc1 ?_
  clear hc1 hb1
  rintro e w2 ⟨rfl, v2, hW2, hs2, -⟩
  have HS2 : Step [] w w2 := ((HS.out.alloc _).alloc _).then hs2 (hW0.new_blocks (HS.out.size))
  have h1 := Lib.hid HS.out.size
  have hT := Lib.hid HS2
  have HW := Lib.hid hW2
  clear hW0 hs2 HS2 hW2 HS
  go_wp2_with fail
  refine (raw_any _ _ _ _ _ _ l _ HW.out HN.out (HB.out.step hT.out (fun _ _ _ h => by cases h)) (by simp; omega)).mono ?_
  rintro e w3 ⟨rfl, v3, hW3, hs3, -⟩
  have HT := Lib.hid (hT.out.then hs3 (HW.out.new_blocks h1.out))
  have HX := Lib.hid hW3
  clear HW hs3 hW3 hT
  go_wp2_with fail
  refine (wbytes_any _ _ _ _ _ HX.out (by simp; omega)).mono ?_
  rintro e w4 hb
  obtain ⟨a4, cap4, rfl, hsl, -, hst4⟩ := hb.slb
  have HT4 := Lib.hid (HT.out.then hst4 (fun k hk => by cases hk))
  have HL := Lib.hid hsl
  clear hb hsl hst4 HT HX
  go_wp2_with fail
  refine (rread_any a4 cap4 _ w4 HL.out (by simp; omega)).mono ?_
  rintro e w5 ⟨rb, db, rfl, hR, hst5, hrb, -⟩
  have HT5 := Lib.hid (HT4.out.then hst5 (fun k hk => by cases hk))
  have hrb' : w.heap.size ≤ rb := Nat.le_trans HT4.out.size hrb
  have HR := Lib.hid (rflag_any rb db _ _ w5 hR)
  clear hR hst5 HT4 HL hrb
  go_wp2_with fail
  refine HR.out.mono ?_
  rintro e w6 ⟨rfl, hL⟩
  have HT6 := Lib.hid (HT5.out.then hL.2 (fun k hk => .inr (by simp at hk; omega)))
  have HL := Lib.hid hL.1
  clear hL HR HT5
  have hx := x.toNat_lt
  have ho : oneR ([] ++ [x] ++ l) 0 = (x, l, 0) := rfl
  unfold flagR at *
  rw [ho] at HL ⊢
  simp only at HL ⊢
  clear ho
  by_cases h1 : 1 < x.toNat
  · rw [if_pos h1] at HL ⊢
    have HE := Lib.hid (rerr_any rb db _ _ w6 HL.out)
    have HD := Lib.hid (rend_any rb db _ _ w6 HL.out)
    go_wp2_with (first | (go_at_call 13; refine HE.out.mono ?_; rintro e w7 ⟨rfl, rfl⟩) | (go_at_call 14; refine HD.out.mono ?_; rintro e w7 ⟨rfl, rfl⟩))
    go_ret
    exact ⟨rfl, HT6.out.below'⟩
  · rw [if_neg h1] at HL ⊢
    have HE := Lib.hid (rerr_any rb db _ _ w6 HL.out)
    have HD := Lib.hid (rend_any rb db _ _ w6 HL.out)
    have HF := Lib.hid (rleft_any rb db _ _ w6 HL.out)
    by_cases h2 : 0 < l.length
    · have hend : endR l 0 = 15 := by unfold endR; rw [if_pos ⟨rfl, h2⟩]
      simp only at HD
      rw [hend] at HD
      clear hend
      have hx2 : x.toNat = 0 ∨ x.toNat = 1 := by omega
      generalize x.toNat = y at *
      rcases hx2 with rfl | rfl
      all_goals
        go_wp2_with (first | (go_at_call 13; refine HE.out.mono ?_; rintro e w7 ⟨rfl, rfl⟩) | (go_at_call 14; refine HD.out.mono ?_; rintro e w7 ⟨rfl, rfl⟩) | (go_at_call 15; refine HF.out.mono ?_; rintro e w7 ⟨rfl, rfl⟩))
        go_ret
        exact ⟨rfl, HT6.out.below'⟩
    · have hend : endR l 0 = 0 := by unfold endR; rw [if_neg (fun h => h2 h.2)]
      simp only at HD
      rw [hend] at HD
      clear hend
      have hx2 : x.toNat = 0 ∨ x.toNat = 1 := by omega
      generalize x.toNat = y at *
      rcases hx2 with rfl | rfl
      all_goals
        go_wp2_with (first | (go_at_call 13; refine HE.out.mono ?_; rintro e w7 ⟨rfl, rfl⟩) | (go_at_call 14; refine HD.out.mono ?_; rintro e w7 ⟨rfl, rfl⟩) | (go_at_call 15; refine HF.out.mono ?_; rintro e w7 ⟨rfl, rfl⟩))
        go_ret
        exact ⟨rfl, HT6.out.below'⟩

set_option maxHeartbeats 1000000 in
theorem octetFlags_any (x : UInt8) (a : Option Addr) (cap : Nat) (l : List UInt8) (w : World) (hB : Bytes w a l) (hn : a = none → l.length = 0 ∧ cap = 0) :
    Calls Try.prog 4 #[.int .u8 (x.toNat : Int), .slice a l.length cap] w fun e w' => e = .returned (.bool true) ∧ Below w.heap.size w w' := by
  by_cases hlen : l.length ≤ 100
  · exact octetFlags_in x a cap l w hB hn hlen
  · clear hB hn
    go_enter Try.func4, Try.ntmps4
    go_wp2_with fail
    refine (lives_any w).mono ?_
    rintro e w1 ⟨rfl, hs⟩
    have HS := Lib.hid hs
    clear hs
    go_wp2_with fail
    refine (lives_any w1).mono ?_
    rintro e w2 ⟨rfl, hs⟩
    have HT := Lib.hid (HS.out.then hs (fun k hk => by cases hk))
    clear hs HS
    go_wp2_with fail
    go_ret
    exact ⟨rfl, HT.out.below'⟩
end Go.Proofs.Ytllpcddfnjbeaaa
