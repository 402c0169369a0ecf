/- QuotaBack: the law's own walk. -/
import Derived.Test.YthdagklibmdglaaQuotaA
namespace Go.Proofs.Ythdagklibmdglaa
set_option linter.unusedVariables false
open Go.RowKit Go.Maps

def nm (x : UInt8) : ByteArray := ⟨#[UInt8.ofNat (97 + x.toNat % 5)]⟩
theorem nm_size (x : UInt8) : (nm x).size ≤ maxLen := by
  have : (nm x).size = 1 := rfl
  rw [this]
  decide
theorem nm_val (x : UInt8) : strOfNums [97 + (x.toNat : Int) % 5] = nm x := by
  have h : (97 + (x.toNat : Int) % 5) = ((UInt8.ofNat (97 + x.toNat % 5)).toNat : Int) := by simp; omega
  rw [h, strOfNums_one]
  rfl

set_option maxHeartbeats 400000 in
theorem name_any (x : UInt8) (w : World) :
    Calls Try.prog 8 #[.int .u8 (x.toNat : Int)] w fun e w' => e = .returned (.string (nm x)) ∧ Step [] w w' := by
  have hu := x.toNat_lt
  have hcv := run_convert_bytes_arg (P := Try.prog) (w.alloc (.cells #[.int .u8 (97 + (x.toNat : Int) % 5)] 5)) 22 5 Try.underlying22 Try.underlying5 w.heap.size 0 1 1 [97 + (x.toNat : Int) % 5] rfl
      (fun i hi => by obtain rfl : i = 0 := by omega
                      simp) 9 Try.underlying9
  rw [nm_val] at hcv
  have hbr : 0 ≤ (x.toNat : Int) % 5 ∧ (x.toNat : Int) % 5 < 5 := by omega
  go_enter Try.func8, Try.ntmps8
  go_wp2_with fail
  go_ret
  exact ⟨rfl, (Step.refl [] w).alloc _⟩

theorem take_le (n : Int) (f : ByteArray → Option Int) (s : ByteArray) (h : ∀ t, 0 ≤ hasV f t ∧ hasV f t ≤ n) : ∀ t, 0 ≤ hasV (takeF n f s) t ∧ hasV (takeF n f s) t ≤ n := by
  intro t
  unfold takeF
  split
  · by_cases hts : t = s
    · subst hts
      rw [hasV_upd]
      have := h t
      omega
    · have : hasV (upd f s (some (hasV f s + 1))) t = hasV f t := by simp [hasV, upd, hts]
      rw [this]
      exact h t
  · exact h t
theorem take_val (n : Int) (f : ByteArray → Option Int) (s : ByteArray) (h : hasV f s < n) : hasV (takeF n f s) s = hasV f s + 1 := by
  unfold takeF
  rw [if_pos h, hasV_upd]
theorem give_val (f : ByteArray → Option Int) (s : ByteArray) : hasV (giveF f s) s = hasV f s - 1 := by
  unfold giveF
  split
  · rename_i h
    simp [hasV, upd] at *
    omega
  · rw [hasV_upd]
theorem give_le (n : Int) (f : ByteArray → Option Int) (s : ByteArray) (hs : 0 < hasV f s) (h : ∀ t, 0 ≤ hasV f t ∧ hasV f t ≤ n) : ∀ t, 0 ≤ hasV (giveF f s) t ∧ hasV (giveF f s) t ≤ n := by
  intro t
  by_cases hts : t = s
  · subst hts
    rw [give_val]
    have := h t
    omega
  · have : hasV (giveF f s) t = hasV f t := by
      unfold giveF
      split <;> simp [hasV, upd, hts]
    rw [this]
    exact h t

set_option maxRecDepth 100000 in
set_option maxHeartbeats 4000000 in
theorem quotaBack_in (each : UInt8) (a : Option Addr) (cap : Nat) (l : List UInt8) (w : World) (hl : Bytes w a l) (hlen : l.length ≤ 60) :
    Calls Try.prog 3 #[.int .u8 (each.toNat : Int), .slice a l.length cap] w fun e w' => e = .returned (.bool true) ∧ Below w.heap.size w w' := by
  have HL := Lib.hid hl
  clear hl
  have hu := each.toNat_lt
  have hn0 : 0 ≤ (each.toNat : Int) % 129 ∧ (each.toNat : Int) % 129 ≤ 128 := by omega
  go_enter Try.func3, Try.ntmps3
  go_wp2_with fail
  refine (lives_any w).mono ?_
  rintro e w1 ⟨rfl, hs⟩
  have HS := Lib.hid hs
  clear hs
  go_wp2_with fail
  refine (qnew_any ((each.toNat : Int) % 129) w1 hn0.1 hn0.2).mono ?_
  generalize (each.toNat : Int) % 129 = n at *
  rintro e w2 ⟨tb, hb, mb, rfl, hT, hs, h1, h2, h3⟩
  have HT := Lib.hid hT
  have hsz := HS.out.size
  have hb1 : w.heap.size ≤ tb := by omega
  have hb2 : w.heap.size ≤ hb := by omega
  have HS2 := Lib.hid (HS.out.then hs (fun k hk => by cases hk))
  clear hT hs HS h1 h2 h3 hsz
  go_wp2_with fail
  go_loopw [10, 11, 12, 33] (fun _ _ _ i wr => ∃ (k : Nat) (f : ByteArray → Option Int), k ≤ l.length ∧ i = .int .i64 k ∧ Led wr tb hb mb (2 * k) n f ∧ (∀ t, 0 ≤ hasV f t ∧ hasV f t ≤ n) ∧ Step [] w wr) (fun _ _ _ i _ => l.length - (intOf i).toNat)
  case atStart => exact ⟨0, _, Nat.zero_le _, rfl, HT.out, fun t => ⟨Int.le_refl _, hn0.1⟩, HS2.out⟩
  case round =>
    obtain ⟨k, f, hk, rfl, hT, hf, hs⟩ := hrel
    have HT := Lib.hid hT
    have HF := Lib.hid hf
    have HS := Lib.hid hs
    clear hT hf hs HS2
    by_cases hkl : k < l.length
    · obtain ⟨b, off, rfl, hlt, hcl⟩ := HL.out.step HS.out (fun _ _ _ h => by cases h) k hkl
      have hkm : (k : Int) < (l.length : Int) := by omega
      generalize l.getD k 0 = x at *
      have hx := x.toNat_lt
      go_wp2_with fail
      refine (name_any x wr).mono ?_
      rintro e w3 ⟨rfl, hs⟩
      have HT3 := Lib.hid (HT.out.step hs (by simp) (by simp) (by simp))
      have HS3 := Lib.hid (HS.out.then hs (fun k hk => by cases hk))
      clear hs HT HS
      go_wp2_with fail
      refine (qhas_any _ _ _ _ _ f (nm x) w3 HT3.out (nm_size x)).mono ?_
      rintro e w4 ⟨rfl, rfl⟩
      have hv0 := HF.out (nm x)
      have hval := Lib.hid (take_val n f (nm x))
      have hE : takeE n f (nm x) = if hasV f (nm x) < n then 0 else 14 := rfl
      go_wp2_with fail
      refine (name_any x w3).mono ?_
      rintro e w4 ⟨rfl, hs⟩
      have HT4 := Lib.hid (HT3.out.step hs (by simp) (by simp) (by simp))
      have HS4 := Lib.hid (HS3.out.then hs (fun k hk => by cases hk))
      clear hs HT3 HS3
      have HQ := Lib.hid (qtake_any _ _ _ _ n f (nm x) w4 HT4.out (nm_size x) (by omega) hv0.1 (by omega))
      rw [hE] at HQ
      have HG := Lib.hid (take_le n f (nm x) HF.out)
      have hfno : ¬ hasV f (nm x) < n → takeF n f (nm x) = f := fun h => if_neg h
      have hfno := Lib.hid hfno
      clear hE
      by_cases hvn : hasV f (nm x) < n
      · have hval := hval.out hvn
        rw [if_pos hvn] at HQ
        generalize hg : takeF n f (nm x) = g at *
        generalize hv : hasV f (nm x) = v at *
        have hd : decide (v < n) = true := by simpa using hvn
        go_wp2_with fail
        refine HQ.out.mono ?_
        rintro e w5 ⟨rfl, hT, hs⟩
        have HT5 := Lib.hid hT
        have HS5 := Lib.hid (HS4.out.then hs (fun k hk => by simp at hk; exact .inr (by omega)))
        clear hT hs HQ HT4 HS4
        go_wp2_with fail
        refine (name_any x w5).mono ?_
        rintro e w6 ⟨rfl, hs⟩
        have HT6 := Lib.hid (HT5.out.step hs (by simp) (by simp) (by simp))
        have HS6 := Lib.hid (HS5.out.then hs (fun k hk => by cases hk))
        clear hs HT5 HS5
        have HH := Lib.hid (qhas_any _ _ _ _ _ g (nm x) w6 HT6.out (nm_size x))
        rw [hval] at HH
        go_wp2_with fail
        refine HH.out.mono ?_
        rintro e w7 ⟨rfl, rfl⟩
        clear HH
        by_cases hx128 : 128 ≤ (x.toNat : Int)
        · have d128 : decide (128 ≤ (x.toNat : Int)) = true := by simpa using hx128
          go_wp2_with fail
          refine (name_any x w6).mono ?_
          rintro e w7 ⟨rfl, hs⟩
          have HT7 := Lib.hid (HT6.out.step hs (by simp) (by simp) (by simp))
          have HS7 := Lib.hid (HS6.out.then hs (fun k hk => by cases hk))
          clear hs HT6 HS6
          have HQ := Lib.hid (qgive_any _ _ _ _ n g (nm x) w7 HT7.out (nm_size x) (by omega) (by omega) (by omega))
          have hgv := Lib.hid (give_val g (nm x))
          have HGG := Lib.hid (give_le n g (nm x) (by omega) HG.out)
          generalize giveF g (nm x) = g2 at *
          go_wp2_with fail
          refine HQ.out.mono ?_
          rintro e w8 ⟨rfl, hT, hs⟩
          have HT8 := Lib.hid hT
          have HS8 := Lib.hid (HS7.out.then hs (fun k hk => by simp at hk; exact .inr (by omega)))
          clear hT hs HQ HT7 HS7
          go_wp2_with fail
          refine (name_any x w8).mono ?_
          rintro e w9 ⟨rfl, hs⟩
          have HT9 := Lib.hid (HT8.out.step hs (by simp) (by simp) (by simp))
          have HS9 := Lib.hid (HS8.out.then hs (fun k hk => by cases hk))
          clear hs HT8 HS8
          have HH := Lib.hid (qhas_any _ _ _ _ _ g2 (nm x) w9 HT9.out (nm_size x))
          rw [hgv.out, hval, show v + 1 - 1 = v by omega] at HH
          go_wp2_with fail
          refine HH.out.mono ?_
          rintro e w10 ⟨rfl, rfl⟩
          clear HH
          go_wp2_with fail
          go_roundw
          case rel => exact ⟨k + 1, g2, by omega, by go_num, HT9.out.mono (by omega), HGG.out, HS9.out⟩
          case measure => simp [intOf]; omega
        · have d128 : decide (128 ≤ (x.toNat : Int)) = false := by simpa using hx128
          go_wp2_with fail
          go_roundw
          case rel => exact ⟨k + 1, g, by omega, by go_num, HT6.out.mono (by omega), HG.out, HS6.out⟩
          case measure => simp [intOf]; omega
      · have hval := hfno.out hvn
        rw [if_neg hvn, hval] at HQ
        generalize hv : hasV f (nm x) = v at *
        have hd : decide (v < n) = false := by simpa using hvn
        go_wp2_with fail
        refine HQ.out.mono ?_
        rintro e w5 ⟨rfl, hT, hs⟩
        have HT5 := Lib.hid hT
        have HS5 := Lib.hid (HS4.out.then hs (fun k hk => by simp at hk; exact .inr (by omega)))
        clear hT hs HQ HT4 HS4
        go_wp2_with fail
        refine (name_any x w5).mono ?_
        rintro e w6 ⟨rfl, hs⟩
        have HT6 := Lib.hid (HT5.out.step hs (by simp) (by simp) (by simp))
        have HS6 := Lib.hid (HS5.out.then hs (fun k hk => by cases hk))
        clear hs HT5 HS5
        have HH := Lib.hid (qhas_any _ _ _ _ _ f (nm x) w6 HT6.out (nm_size x))
        rw [hv] at HH
        go_wp2_with fail
        refine HH.out.mono ?_
        rintro e w7 ⟨rfl, rfl⟩
        clear HH
        go_wp2_with fail
        go_roundw
        case rel => exact ⟨k + 1, f, by omega, by go_num, HT6.out.mono (by omega), HF.out, HS6.out⟩
        case measure => simp [intOf]; omega
    · have hke : k = l.length := by omega
      subst hke
      go_wp2_with fail
      go_ret
      exact ⟨rfl, HS.out.below'⟩

set_option maxHeartbeats 1000000 in
theorem quotaBack_any (each : UInt8) (a : Option Addr) (cap : Nat) (l : List UInt8) (w : World) (hl : Bytes w a l) :
    Calls Try.prog 3 #[.int .u8 (each.toNat : Int), .slice a l.length cap] w fun e w' => e = .returned (.bool true) ∧ Below w.heap.size w w' := by
  by_cases hlen : l.length ≤ 60
  · exact quotaBack_in each a cap l w hl hlen
  · clear hl
    go_enter Try.func3, Try.ntmps3
    go_wp2_with fail
    refine (lives_any w).mono ?_
    rintro e w1 ⟨rfl, hs⟩
    have HS := Lib.hid hs
    clear hs
    go_wp2_with fail
    refine (lives_any w1).mono ?_
    rintro e w2 ⟨rfl, hs⟩
    have HT := Lib.hid (HS.out.then hs (fun k hk => by cases hk))
    clear hs HS
    go_wp2_with fail
    go_ret
    exact ⟨rfl, HT.out.below'⟩
end Go.Proofs.Ythdagklibmdglaa
