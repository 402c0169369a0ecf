/- octet: Writer.Text; Reader.Int, Count, Text, where there is one. -/
import Derived.Test.YtllpcddfnjbeaaaOctetN
import Derived.Lib.ConvBytes
import Derived.Laws.DeepNot64
namespace Go.Proofs.Ytllpcddfnjbeaaa
set_option linter.unusedVariables false
open Go.RowKit

theorem Step.bytesWorld {F : List Nat} {w w' : World} (h : Step F w w') (e : TypeId) (s : ByteArray) : Step F w (Lib.bytesWorld w' e s) :=
  ⟨h.os, h.tape, h.output, by rw [Lib.bytesWorld_size]; exact Nat.le_succ_of_le h.size, fun k hk hn => (Lib.bytesWorld_at_old w' e s k (Nat.lt_of_lt_of_le hk h.size)).trans (h.block k hk hn)⟩

theorem bytesWorld_bytes (w : World) (e : TypeId) (s : List UInt8) : Bytes (Lib.bytesWorld w e (bstr s)) (some ⟨w.heap.size, 0, none⟩) s := fun i hi => by
  refine ⟨w.heap.size, 0, rfl, by rw [Lib.bytesWorld_size]; omega, ?_⟩
  rw [Nat.zero_add, Lib.bytesWorld_cell w e (bstr s) i (by rw [bstr_size]; exact hi)]
  rfl

set_option maxHeartbeats 1000000 in
theorem wtext_any (base pb : Nat) (v : Value) (bs s : List UInt8) (w : World) (hW : Wr w base pb v bs) (hlen : bs.length + s.length ≤ 17592186044416) :
    Calls Try.prog 19 #[.pointer (some ⟨pb, 0, none⟩), .string (bstr s)] w (Wrote base pb v (bs ++ (numB s.length ++ s)) w) := by
  have HN := Lib.hid (num_any base pb v bs s.length w hW (by unfold M64; omega) (by omega))
  have hz := bstr_size s
  have hnl := numB_len s.length
  have HW := Lib.hid hW
  clear hW
  go_enter Try.func19, Try.ntmps19
  go_wp2_with fail
  refine HN.out.mono ?_
  rintro e w1 ⟨rfl, v1, hW1, hs1, hf1⟩
  have hcv := Lib.run_convert_string_bytes (P := Try.prog) w1 9 25 5 (bstr s) Try.underlying9 Try.underlying25 Try.underlying5
  rw [hz] at hcv
  have hsB : Step [] w1 (Lib.bytesWorld w1 5 (bstr s)) := (Step.refl [] w1).bytesWorld _ _
  have hW2 := hW1.step hsB (by simp) (fun k hk => by simp)
  have HW2 := Lib.hid hW2
  have HB := Lib.hid (bytesWorld_bytes w1 5 s)
  have HS := Lib.hid (hs1.then hsB (fun k hk => by cases hk))
  have HF := Lib.hid hf1
  clear hW1 hs1 hsB hW2 hf1 HN
  go_wp2_with fail
  refine (raw_any base pb v1 _ _ _ s _ HW2.out (fun h => by cases h) HB.out (by simp; omega)).mono ?_
  rintro e w2 ⟨rfl, v2, hW3, hs3, hf3⟩
  go_wp2_with fail
  go_end0
  refine ⟨rfl, v2, by rw [← List.append_assoc]; exact hW3, HS.out.trans hs3 (fun k hk => ?_), fun k hk => ?_⟩
  · rcases List.mem_cons.1 hk with rfl | hk
    · exact .inl List.mem_cons_self
    · exact (HF.out k hk).imp (fun h => List.mem_cons_of_mem _ h) id
  · rcases hf3 k hk with h | h
    · exact HF.out k h
    · exact .inr (Nat.le_trans HS.out.size h)

theorem xor_m1 (a : Nat) (ha : a < 9223372036854775808) : bits .xor .i64 (a : Int) (-1) = -1 - (a : Int) := by
  rw [← i64_not a ha]
  show IntKind.i64.wrap ((BitVec.ofInt 64 (a : Int) ^^^ BitVec.ofInt 64 (-1)).toNat : Int) = IntKind.i64.wrap ((BitVec.ofInt 64 (-1) ^^^ BitVec.ofInt 64 (a : Int)).toNat : Int)
  rw [BitVec.xor_comm]
theorem xor_z (a : Nat) (ha : a < 9223372036854775808) : bits .xor .i64 (a : Int) 0 = (a : Int) := by
  show IntKind.i64.wrap ((BitVec.ofInt 64 (a : Int) ^^^ BitVec.ofInt 64 0).toNat : Int) = _
  have h1 : BitVec.ofInt 64 0 = 0#64 := by decide
  rw [h1, BitVec.xor_zero, ofInt_u64 a (by omega)]
  simp [IntKind.wrap, IntKind.bits, IntKind.signed]
  omega

theorem unfold_eq (n : Nat) (x : Int) (hx : -9223372036854775808 ≤ x ∧ x ≤ 9223372036854775807) (hf : n = if 0 ≤ x then 2 * x.toNat else (-(2 * x) - 1).toNat) :
    bits .xor .i64 (wrap64 ((n : Int) / 2)) (wrap64 (-wrap64 (bits .and .u64 (n : Int) 1))) = x := by
  have hn : n < 18446744073709551616 := by split at hf <;> omega
  have e1 : (1 : Int) = ((1 : Nat) : Int) := rfl
  have e2 : bits .and .u64 (n : Int) 1 = ((n % 2 : Nat) : Int) := by rw [e1, u64_and_nat n 1 hn (by decide), Nat.and_one_is_mod]
  have e3 : wrap64 ((n : Int) / 2) = ((n / 2 : Nat) : Int) := by
    unfold wrap64
    omega
  rw [e2, e3]
  by_cases h : 0 ≤ x
  · rw [if_pos h] at hf
    have h2 : n % 2 = 0 := by omega
    rw [h2]
    rw [show wrap64 (-wrap64 ((0 : Nat) : Int)) = 0 by (unfold wrap64; omega), xor_z _ (by omega)]
    omega
  · rw [if_neg h] at hf
    have h2 : n % 2 = 1 := by omega
    rw [h2]
    rw [show wrap64 (-wrap64 ((1 : Nat) : Int)) = -1 by (unfold wrap64; omega), xor_m1 _ (by omega)]
    omega

set_option maxHeartbeats 1000000 in
theorem rint_ok (rb db : Nat) (x : Int) (rest : List UInt8) (w : World) (hx : I64 x) (h : Rd w rb db (numB (foldN x) ++ rest) 0) :
    Calls Try.prog 22 #[.pointer (some ⟨rb, 0, none⟩)] w fun en w' => en = .returned (.int .i64 x) ∧ Left rb db rest 0 w w' := by
  have HN := Lib.hid (rnum_ok rb db (foldN x) rest w (foldN_lt x hx) h)
  clear h
  have hf : foldN x = if 0 ≤ x then 2 * x.toNat else (-(2 * x) - 1).toNat := rfl
  unfold I64 at hx
  have HX := Lib.hid hx
  clear hx
  generalize foldN x = n at *
  have HF := Lib.hid hf
  clear hf
  go_enter Try.func22, Try.ntmps22
  go_wp2_with fail
  refine HN.out.mono ?_
  rintro e w1 ⟨rfl, hL⟩
  go_wp2_with fail
  go_ret
  exact ⟨ret_int (unfold_eq n x HX.out HF.out), hL⟩

set_option maxHeartbeats 1000000 in
theorem rcount_ok (rb db : Nat) (most : Int) (n : Nat) (rest : List UInt8) (w : World) (hn : (n : Int) ≤ most) (hm : most ≤ 1000000) (h : Rd w rb db (numB n ++ rest) 0) :
    Calls Try.prog 28 #[.pointer (some ⟨rb, 0, none⟩), .int .i64 most] w fun en w' => en = .returned (.int .i64 n) ∧ Left rb db rest 0 w w' := by
  have HN := Lib.hid (rnum_ok rb db n rest w (by unfold M64; omega) h)
  clear h
  have h0 : ¬ most < 0 := by omega
  go_enter Try.func28, Try.ntmps28
  go_wp2_with fail
  refine HN.out.mono ?_
  rintro e w1 ⟨rfl, hL⟩
  go_wp2_with fail
  go_ret
  exact ⟨rfl, hL⟩

set_option maxHeartbeats 1000000 in
theorem rtext_ok (rb db : Nat) (most : Int) (s rest : List UInt8) (w : World) (hn : (s.length : Int) ≤ most) (hm : most ≤ 1000000) (h : Rd w rb db (numB s.length ++ (s ++ rest)) 0) :
    Calls Try.prog 23 #[.pointer (some ⟨rb, 0, none⟩), .int .i64 most] w fun en w' => en = .returned (.string (bstr s)) ∧ Left rb db rest 0 w w' := by
  have HN := Lib.hid (rcount_ok rb db most s.length (s ++ rest) w hn hm h)
  clear h
  go_enter Try.func23, Try.ntmps23
  go_wp2_with fail
  refine HN.out.mono ?_
  rintro e w1 ⟨rfl, hL⟩
  have HL := Lib.hid hL
  have HE := Lib.hid (rerr_any rb db _ _ w1 hL.1)
  obtain ⟨a, cap, hb, hsl, hd, hne⟩ := hL.1
  have hf0 := hb.free 0
  have hc0 : w1.cell? ⟨rb, 0, none⟩ = some (.slice a (s ++ rest).length cap) := (hb.cell 0).trans rfl
  obtain ⟨a', hcut, hsl', hbk⟩ := hsl.cutLow (P := Try.prog) 25 5 Try.underlying25 Try.sizeB s.length (by simp)
  obtain ⟨hhigh, hsl2⟩ := hsl.cutHigh (P := Try.prog) 25 5 Try.underlying25 Try.sizeB s.length (by simp)
  rw [List.drop_left] at hcut hsl'
  rw [List.take_left] at hhigh hsl2
  have hconv : (convert 25 9 (.slice a s.length cap)).run Try.prog w1 = .ok (.string (bstr s)) w1 := hsl2.str (P := Try.prog) 25 9 5 Try.underlying25 Try.underlying5 Try.underlying9
  have hLs : (s.length : Int) ≤ ((s ++ rest).length : Int) := by simp; omega
  have HB := Lib.hid hb
  have HS := Lib.hid hsl'
  have HD := Lib.hid hd
  have HK := Lib.hid hbk
  clear hb hsl hsl' hsl2 hd hbk hL HN
  generalize (s ++ rest).length = L at hc0 hcut hhigh hLs
  go_wp2_with fail
  refine HE.out.mono ?_
  rintro e w2 ⟨rfl, rfl⟩
  go_wp2_with fail
  refine HE.out.mono ?_
  rintro e w2 ⟨rfl, rfl⟩
  go_wp2_with fail
  go_ret
  refine ⟨rfl, HL.out.trans ⟨⟨a', cap - s.length, ?_, HS.out.step ((Step.refl [rb] _).setCell (.inl (by simp)) _ _) (fun b hb => by rw [HD.out b (by rw [← HK.out]; exact hb)]; simpa using hne), fun b hb => HD.out b (by rw [← HK.out]; exact hb), hne⟩, (Step.refl _ _).setCell (.inl (by simp)) _ _⟩⟩
  exact HB.out.set 0 _
end Go.Proofs.Ytllpcddfnjbeaaa
