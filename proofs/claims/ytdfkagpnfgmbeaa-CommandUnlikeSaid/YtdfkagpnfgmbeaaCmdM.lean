/- command.Members, exactly; complineref18.Members. -/
import Derived.Test.YtdfkagpnfgmbeaaMembersP
import Derived.Test.YtdfkagpnfgmbeaaRefN
namespace Go.Proofs.Ytdfkagpnfgmbeaa
set_option linter.unusedVariables false
open Go.RowKit

/-- a row's bytes -/
def eachB (l : List Int) : List UInt8 := l.flatMap fun x => numB x.toNat
def rowB (l : List Int) : List UInt8 := numB l.length ++ eachB l
theorem eachB_snoc (l : List Int) (k : Nat) (h : k < l.length) : eachB (l.take (k + 1)) = eachB (l.take k) ++ numB (l.getD k 0).toNat := by
  unfold eachB
  rw [List.take_succ_eq_append_getElem h, List.flatMap_append]
  simp [List.getD, h]
theorem eachB_len (l : List Int) : (eachB l).length ≤ 10 * l.length := by
  induction l with
  | nil => simp [eachB]
  | cons x r ih =>
    have := numB_len x.toNat
    simp [eachB] at ih ⊢
    omega

set_option maxHeartbeats 1000000 in
theorem put_bytes (w0 : World) (base pb : Nat) (v : Value) (a : Option Addr) (cap : Nat) (l : List Int) (w : World) (hW : Wr w base pb v []) (h0 : w0.heap.size ≤ base) (hs : Step [] w0 w) (hl : Ints w0 a l)
    (hg : ∀ x ∈ l, 0 ≤ x ∧ x ≤ 7) (hlen : l.length ≤ 1000) :
    Calls Try.prog 25 #[.pointer (some ⟨pb, 0, none⟩), .slice a l.length cap, .func (.func 26) #[] #[]] w fun e w' => e = .returned (.tuple #[]) ∧ Step [] w0 w' ∧ ∃ v', Wr w' base pb v' (rowB l) := by
  have HN := Lib.hid (num_any base pb v [] l.length w hW (by unfold M64; omega) (by simp))
  have HW := Lib.hid hW
  have HS := Lib.hid hs
  have HL := Lib.hid hl
  have HG := Lib.hid hg
  clear hW hs hl hg
  go_enter Try.func25, Try.ntmps25
  go_wp2_with fail
  refine HN.out.mono ?_
  rintro e w1 ⟨rfl, v1, hW1, hs1, -⟩
  have HS1 := Lib.hid (HS.out.then hs1 (HW.out.new_blocks h0))
  have HW1 := Lib.hid hW1
  clear hW1 hs1 HN HW HS
  go_wp2_with fail
  go_loopw [7, 15] (fun _ i wr => ∃ (k : Nat) (v' : Value), k ≤ l.length ∧ i = .int .i64 k ∧ Wr wr base pb v' (numB l.length ++ eachB (l.take k)) ∧ Step [] w0 wr) (fun _ i _ => l.length - (intOf i).toNat)
  case atStart => exact ⟨0, v1, Nat.zero_le _, rfl, by simpa [eachB] using HW1.out, HS1.out⟩
  case round =>
    obtain ⟨k, v', hk, rfl, hW, hs⟩ := hrel
    have HW := Lib.hid hW
    have HS := Lib.hid hs
    clear hW hs HW1 HS1
    by_cases hkl : k < l.length
    · obtain ⟨b, off, rfl, hlt, hc⟩ := HL.out.step HS.out (by simp) k hkl
      have hm : (k : Int) < (l.length : Int) := by omega
      have hx := HG.out _ (getD_mem hkl)
      have HE := Lib.hid (eachB_snoc l k hkl)
      have hbl : (numB l.length ++ eachB (l.take k)).length ≤ 1000000 := by
        have h1 := numB_len l.length
        have h2 := eachB_len (l.take k)
        rw [List.length_take] at h2
        rw [List.length_append]
        omega
      generalize l.getD k 0 = x at *
      have HC := Lib.hid (each_any base pb v' _ x wr HW.out hx.1 hx.2 hbl)
      rw [List.append_assoc, ← HE.out] at HC
      clear hbl
      go_wp2_with fail
      refine HC.out.mono ?_
      rintro e w2 ⟨rfl, v2, hW2, hs2, -⟩
      have HS2 := Lib.hid (HS.out.then hs2 (HW.out.new_blocks h0))
      have HW2 := Lib.hid hW2
      clear hW2 hs2 HW HS HC
      go_wp2_with fail
      go_roundw
      case rel => exact ⟨k + 1, v2, by omega, by go_num, HW2.out, HS2.out⟩
      case measure => simp [intOf]; omega
    · have hke : k = l.length := by omega
      subst hke
      have hW := HW.out
      rw [List.take_length] at hW
      have HW3 := Lib.hid hW
      clear hW
      go_wp2_with fail
      go_end0
      exact ⟨rfl, HS.out, v', HW3.out⟩

set_option maxHeartbeats 1000000 in
theorem cmembers_any (a : Option Addr) (cap : Nat) (l : List Int) (w : World) (hl : Ints w a l) (hlen : l.length < 1000000) :
    Calls Try.prog 10 #[.slice a l.length cap] w fun e w' => (if goodM l then ∃ v, e = .returned (.tuple #[v, .int .i64 0]) ∧ w'.ownsRow w.heap.size 5 1 v (rowB l).length ((rowB l).map byteVal) else e = .returned (.tuple #[.slice none 0 0, .int .i64 1])) ∧ Step [] w w' := by
  have HM := Lib.hid (members_any a cap l w hl hlen)
  have HL := Lib.hid hl
  clear hl
  cases hg : goodM l with
  | false =>
    rw [hg] at HM
    simp only [Bool.false_eq_true, if_false]
    go_enter Try.func10, Try.ntmps10
    go_wp2_with fail
    refine HM.out.mono ?_
    rintro e w1 ⟨rfl, rfl⟩
    go_wp2_with fail
    go_ret2
    exact ⟨rfl, Step.refl _ _⟩
  | true =>
    rw [hg] at HM
    simp only [if_true]
    have hlen7 := good_len hg
    have hbd := good_bounds hg
    have hrb : (rowB l).length ≤ 100 := by
      have h1 := numB_len l.length
      have h2 := eachB_len l
      unfold rowB
      rw [List.length_append]
      omega
    go_enter Try.func10, Try.ntmps10
    go_wp2_with fail
    refine HM.out.mono ?_
    rintro e w1 ⟨rfl, rfl⟩
    go_wp2_with fail
    refine (put_bytes w w.heap.size w.heap.size (.slice none 0 0) a cap l _ (Wr.new w) (Nat.le_refl _) ((Step.refl [] w).alloc _) HL.out hbd (by omega)).mono ?_
    rintro e w2 ⟨rfl, hs2, v2, hW2⟩
    have HS2 := Lib.hid hs2
    have HB := Lib.hid (wbytes_any _ _ _ _ w2 hW2 (by omega))
    clear hs2 hW2
    go_wp2_with fail
    refine HB.out.mono ?_
    rintro e w3 ⟨v3, rfl, hown, hs3⟩
    have HS3 := Lib.hid (HS2.out.then hs3 (fun k hk => by cases hk))
    have HO := Lib.hid (owns_low (base' := w.heap.size) hown HS2.out.size)
    clear hs3 HB HS2 hown
    go_wp2_with fail
    go_ret2
    exact ⟨⟨_, rfl, HO.out⟩, HS3.out⟩

set_option maxHeartbeats 1000000 in
theorem refMembers_any (a : Option Addr) (cap : Nat) (l : List Int) (w : World) (hl : Ints w a l) (hg : ∀ x ∈ l, 0 ≤ x ∧ x ≤ 7) (hlen : l.length ≤ 1000) :
    Calls Try.prog 9 #[.slice a l.length cap] w fun e w' => e = .returned (.string (bstr (rowB l))) ∧ Step [] w w' := by
  have HL := Lib.hid hl
  have HG := Lib.hid hg
  have HN := Lib.hid (refNum_any l.length w (by unfold M64; omega))
  have e0 : IntKind.u64.wrap (l.length : Int) = (l.length : Int) := by rw [IntKind.wrap_u64, Int.emod_eq_of_lt (by omega) (by omega)]
  clear hl hg
  go_enter Try.func9, Try.ntmps9
  go_wp2_with fail
  refine HN.out.mono ?_
  rintro e w1 ⟨rfl, hs1⟩
  have HS1 := Lib.hid hs1
  clear hs1 HN
  go_wp2_with fail
  go_loopw [3, 12] (fun s i wr => ∃ (k : Nat), k ≤ l.length ∧ i = .int .i64 k ∧ s = .string (bstr (numB l.length ++ eachB (l.take k))) ∧ Step [] w wr) (fun _ i _ => l.length - (intOf i).toNat)
  case atStart => exact ⟨0, Nat.zero_le _, rfl, by simp [eachB], HS1.out⟩
  case round =>
    obtain ⟨k, hk, rfl, rfl, hs⟩ := hrel
    have HS := Lib.hid hs
    clear hs HS1
    have hbl : (numB l.length ++ eachB (l.take k)).length ≤ 1000000 := by
      have h1 := numB_len l.length
      have h2 := eachB_len (l.take k)
      rw [List.length_take] at h2
      rw [List.length_append]
      omega
    by_cases hkl : k < l.length
    · obtain ⟨b, off, rfl, hlt, hc⟩ := HL.out.step HS.out (by simp) k hkl
      have hm : (k : Int) < (l.length : Int) := by omega
      have hx := HG.out _ (getD_mem hkl)
      have HE := Lib.hid (eachB_snoc l k hkl)
      generalize l.getD k 0 = x at *
      obtain ⟨m, rfl⟩ : ∃ m : Nat, x = (m : Int) := ⟨x.toNat, by omega⟩
      have e1 : IntKind.u64.wrap (m : Int) = (m : Int) := by rw [IntKind.wrap_u64, Int.emod_eq_of_lt (by omega) (by omega)]
      have HC := Lib.hid (refNum_any m wr (by unfold M64; omega))
      have hml := numB_len m
      have hsz : (bstr (numB l.length ++ eachB (l.take k))).size + (bstr (numB m)).size ≤ 9223372036854775807 := by rw [bstr_size, bstr_size]; omega
      have HE2 := Lib.hid (show bstr (numB l.length ++ eachB (l.take k)) ++ bstr (numB m) = bstr (numB l.length ++ eachB (l.take (k + 1))) by rw [bstr_app, List.append_assoc, HE.out]; rfl)
      go_wp2_with fail
      refine HC.out.mono ?_
      rintro e w2 ⟨rfl, hs2⟩
      have HS2 := Lib.hid (HS.out.then hs2 (by simp))
      clear hs2 HS HC
      go_wp2_with fail
      go_roundw
      case rel => exact ⟨k + 1, by omega, by go_num, by rw [HE2.out], HS2.out⟩
      case measure => simp [intOf]; omega
    · have hke : k = l.length := by omega
      subst hke
      have hR : bstr (numB l.length ++ eachB (l.take l.length)) = bstr (rowB l) := by rw [List.take_length]; rfl
      rw [hR]
      clear hR
      go_wp2_with fail
      go_ret
      exact ⟨rfl, HS.out⟩
end Go.Proofs.Ytdfkagpnfgmbeaa
