/- frame: the walks of four, head, Bytes; slices.Equal of bytes. -/
import Derived.Test.YtkogchmnpffiaaaFrameP
import Derived.Test.YtkogchmnpffiaaaOctetRaw
import Derived.Test.YtkogchmnpffiaaaOctetWB
import Derived.Test.YtkogchmnpffiaaaOctetRead
import Derived.Test.YtkogchmnpffiaaaOctetLeft
import Derived.Deep.RegionHeld3
namespace Go.Proofs.Ytkogchmnpffiaaa
set_option linter.unusedVariables false
open Go.RowKit

def fourCells (x : Nat) : Array Value := #[.int .u8 ((x % 256 : Nat) : Int), .int .u8 ((x / 256 % 256 : Nat) : Int), .int .u8 ((x / 65536 % 256 : Nat) : Int), .int .u8 ((x / 16777216 % 256 : Nat) : Int)]

theorem four_bytes (w : World) (x : Nat) : Bytes (w.alloc (.cells (fourCells x) 5)) (some ⟨w.heap.size, 0, none⟩) (leN 4 x) := by
  intro i hi
  refine ⟨w.heap.size, 0, rfl, by simp, ?_⟩
  match i, hi with
  | 0, _ => simp [fourCells, leN]
  | 1, _ => simp [fourCells, leN]
  | 2, _ => simp [fourCells, leN]; omega
  | 3, _ => simp [fourCells, leN]; omega
  | n + 4, h => simp [leN] at h; omega

set_option maxHeartbeats 400000 in
theorem four_any (x : Nat) (w : World) (hx : x < 4294967296) :
    Calls Try.prog 18 #[.int .u32 x] w fun e w' => e = .returned (.slice (some ⟨w.heap.size, 0, none⟩) 4 4) ∧ w.alloc (.cells (fourCells x) 5) = w' := by
  go_enter Try.func18, Try.ntmps18
  go_wp2
  go_ret
  refine ⟨rfl, ?_⟩
  have e : x / 16777216 % 256 = x / 16777216 := by omega
  simp [fourCells, e]

theorem two_bytes (w : World) (k : UInt8) : Bytes (w.alloc (.cells #[.int .u8 197, .int .u8 (k.toNat : Int)] 5)) (some ⟨w.heap.size, 0, none⟩) [197, k] := by
  intro i hi
  refine ⟨w.heap.size, 0, rfl, by simp, ?_⟩
  match i, hi with
  | 0, _ => simp
  | 1, _ => simp
  | n + 2, h => simp at h; omega

/-- what is written behind a new writer -/
theorem Wrote.step0 {w0 w w' : World} {base pb : Nat} {v : Value} {cur : List UInt8} (hW : Wr w base pb v cur) (hs0 : Step [] w0 w) (hb : w0.heap.size ≤ base) (hs : Step (pb :: foot v) w w') : Step [] w0 w' :=
  hs0.then hs (fun k hk => .inr (by
    rcases List.mem_cons.1 hk with h | h
    · have := hW.low; omega
    · have := owns_base hW.own k h; omega))

set_option maxHeartbeats 1000000 in
theorem head_any (k : UInt8) (a : Option Addr) (cap : Nat) (d : List UInt8) (w : World) (hn : a = none → d.length = 0 ∧ cap = 0) (hB : Bytes w a d) (hlen : d.length ≤ 1000000) :
    Calls Try.prog 16 #[.agg #[.int .u8 (k.toNat : Int), .slice a d.length cap]] w (NewBytes (headB k d) w) := by
  have HB := Lib.hid hB
  have HN := Lib.hid hn
  clear hB hn
  have hl := numB_len d.length
  have e0 : IntKind.u64.wrap (d.length : Int) = (d.length : Int) := by rw [IntKind.wrap_u64, Int.emod_eq_of_lt (by omega) (by omega)]
  have hW0 : Wr (((w.alloc (.cells #[.int .u8 (k.toNat : Int), .slice a d.length cap] 25)).alloc (.cells #[.slice none 0 0] 65)).alloc (.cells #[.int .u8 197, .int .u8 (k.toNat : Int)] 5)) (w.heap.size + 1) (w.heap.size + 1) (.slice none 0 0) [] := by
    have h := Wr.new (w.alloc (.cells #[.int .u8 (k.toNat : Int), .slice a d.length cap] 25))
    rw [World.size_alloc] at h
    exact h.step ((Step.refl [] _).alloc _) (by simp) (by simp)
  have hB0 : Bytes (((w.alloc (.cells #[.int .u8 (k.toNat : Int), .slice a d.length cap] 25)).alloc (.cells #[.slice none 0 0] 65)).alloc (.cells #[.int .u8 197, .int .u8 (k.toNat : Int)] 5)) (some ⟨w.heap.size + 1 + 1, 0, none⟩) [197, k] := by
    have h := two_bytes ((w.alloc (.cells #[.int .u8 (k.toNat : Int), .slice a d.length cap] 25)).alloc (.cells #[.slice none 0 0] 65)) k
    rw [World.size_alloc, World.size_alloc] at h
    exact h
  have HR0 := Lib.hid (((Blk.new w #[.int .u8 (k.toNat : Int), .slice a d.length cap] 25).alloc (.cells #[.slice none 0 0] 65)).alloc (.cells #[.int .u8 197, .int .u8 (k.toNat : Int)] 5))
  have HS0 := Lib.hid ((((Step.refl [] w).alloc (.cells #[.int .u8 (k.toNat : Int), .slice a d.length cap] 25)).alloc (.cells #[.slice none 0 0] 65)).alloc (.cells #[.int .u8 197, .int .u8 (k.toNat : Int)] 5))
  have HC := Lib.hid (raw_any _ _ _ [] _ 2 [197, k] _ hW0 (by intro h; cases h) hB0 (by simp))
  have HW0 := Lib.hid hW0
  clear hW0 hB0
  go_enter Try.func16, Try.ntmps16
  go_wp2_with fail
  refine HC.out.mono ?_
  rintro e w1 ⟨rfl, v1, hW1, hs1, hf1⟩
  have HS1 := Lib.hid (Wrote.step0 HW0.out HS0.out (by omega) hs1)
  have hR1 := HR0.out.step hs1 (by simp [foot, Value.ownBlock])
  clear hs1 hf1 HC HW0 HR0 HS0
  obtain ⟨b0, hb0⟩ : ∃ b, w.heap.size = b := ⟨_, rfl⟩
  rw [hb0] at hR1 hW1 ⊢
  have r1 := hR1.cell 1
  simp only [List.getElem?_toArray, List.getElem?_cons_zero, List.getElem?_cons_succ] at r1
  have HR1 := Lib.hid hR1
  have HC1 := Lib.hid (num_any _ _ _ _ d.length w1 hW1 (by unfold M64; omega) (by simp))
  have HW1 := Lib.hid hW1
  clear hR1 hW1
  go_wp2_with fail
  refine HC1.out.mono ?_
  rintro e w2 ⟨rfl, v2, hW2, hs2, hf2⟩
  have HS2 := Lib.hid (Wrote.step0 HW1.out HS1.out (by omega) hs2)
  have hR2 := HR1.out.step hs2 (by
    intro hm
    rcases List.mem_cons.1 hm with h | h
    · omega
    · have := owns_base HW1.out.own _ h; omega)
  have r2 := hR2.cell 1
  simp only [List.getElem?_toArray, List.getElem?_cons_zero, List.getElem?_cons_succ] at r2
  have HC2 := Lib.hid (raw_any _ _ _ _ a cap d w2 hW2 HN.out (HB.out.step HS2.out (by simp)) (by simp; omega))
  have HW2 := Lib.hid hW2
  clear hR2 hW2 hs2 hf2 HC1 HR1 HW1 HS1
  go_wp2_with fail
  refine HC2.out.mono ?_
  rintro e w3 ⟨rfl, v3, hW3, hs3, hf3⟩
  have HS3 := Lib.hid (Wrote.step0 HW2.out HS2.out (by omega) hs3)
  have HC3 := Lib.hid (wbytes_any _ _ _ _ w3 hW3 (by simp; omega))
  clear hW3 hs3 hf3 HC2 HW2 HS2
  go_wp2_with fail
  refine HC3.out.mono ?_
  rintro e w4 ⟨v, rfl, hown, hs4⟩
  have HO := Lib.hid hown
  have HS4 := Lib.hid (HS3.out.then hs4 (by simp))
  have hsz := HS3.out.size
  clear hown hs4 HC3
  go_wp2_with fail
  go_ret
  have hl2 : [] ++ [197, k] ++ numB d.length ++ d = headB k d := by simp [headB]
  refine ⟨v, rfl, ?_, HS4.out⟩
  have h := HO.out
  rw [hl2] at h
  exact owns_low h (by omega)
end Go.Proofs.Ytkogchmnpffiaaa
