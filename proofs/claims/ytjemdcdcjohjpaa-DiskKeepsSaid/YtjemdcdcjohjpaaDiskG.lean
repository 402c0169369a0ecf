/- disk: the chapter's example; a disk that isn't there. -/
import Derived.Test.YtjemdcdcjohjpaaDiskF
import Derived.Lib.SlBytesConst
namespace Go.Proofs.Ytjemdcdcjohjpaa
set_option linter.unusedVariables false
open Go.RowKit

theorem read_down (base db : Nat) (lv wv : Value) (S : List (List UInt8)) (W : List (Nat × List UInt8)) (f n : Int) (w : World) (h : Dsk w base db lv wv S W true) :
    Calls Try.prog 15 #[.pointer (some ⟨db, 0, none⟩), .int .i64 f, .int .i64 n] w fun e w' => e = .returned (.tuple #[.slice none 0 0, .int .i64 19]) ∧ w = w' := by
  have HDn := Lib.hid (down_any base db lv wv S W true w h)
  clear h
  go_enter Try.func15, Try.ntmps15
  go_wp2_with fail
  refine HDn.out.mono ?_
  rintro e w1 ⟨rfl, rfl⟩
  go_wp2_with fail
  go_ret2
  exact ⟨rfl, rfl⟩

theorem one_byte (w : World) (b : UInt8) (T : TypeId) (fr : Nat × Nat) : Bytes (w.alloc (.cells #[.int .u8 (b.toNat : Int)] T fr)) (some ⟨w.heap.size, 0, none⟩) [b] := by
  intro i hi
  refine ⟨w.heap.size, 0, rfl, by simp, ?_⟩
  match i, hi with
  | 0, _ => exact World.cell?_alloc_mark w _ T fr 0
  | n + 1, h => simp at h

theorem footD_new {w w' : World} {base db : Nat} {lv wv : Value} {S : List (List UInt8)} {W : List (Nat × List UInt8)} {d : Bool} (h : Dsk w' base db lv wv S W d) (hb : base = w.heap.size) : ∀ k, k ∈ footD db lv wv → k ∈ ([] : List Nat) ∨ w.heap.size ≤ k := fun k hk => .inr (by rw [← hb]; exact h.base k hk)

set_option maxRecDepth 20000 in
set_option maxHeartbeats 2000000 in
theorem lives_any (w : World) : Calls Try.prog 6 #[] w fun e w' => e = .returned (.bool true) ∧ Step [] w w' := by
  have kc := fun (W : World) (C : Array Value) => Lib.run_convert_bytes_const (P := Try.prog) W 30 5 C 1 1 Try.underlying30 Try.underlying5
  go_enter Try.func6, Try.ntmps6
  go_wp2_with fail
  refine (new_any 2 w (by decide) (by decide)).mono ?_
  rintro e w1 ⟨db, lv, rfl, hD1, hs1⟩
  have hD1' := hD1.step ((Step.refl [] w1).alloc (.cells #[.int .u8 97] 5 (1, 2))) (by simp)
  have HC1 := Lib.hid (write_ok _ _ _ _ _ _ 1 (some ⟨w1.heap.size, 0, none⟩) 1 [97] _ hD1' (by decide) (one_byte w1 97 _ _) (by intro h; cases h) (by decide) (by decide))
  have HS1 := Lib.hid hs1
  have HF1 := Lib.hid (footD_new hD1 rfl)
  clear hD1 hD1' hs1
  go_wp2_with fail
  refine HC1.out.mono ?_
  rintro e w2 ⟨rfl, wv2, hD2, hs2, -⟩
  have HD2 := Lib.hid hD2
  have HS2 := Lib.hid ((HS1.out.alloc (.cells #[.int .u8 97] 5 (1, 2))).then hs2 HF1.out)
  clear hD2 hs2 HC1
  go_wp2_with fail
  refine (sync_any _ _ _ _ _ _ _ HD2.out).mono ?_
  rintro e w3 ⟨rfl, hD3, hs3⟩
  have hD3' := hD3.step ((Step.refl [] w3).alloc (.cells #[.int .u8 98] 5 (1, 2))) (by simp)
  have HC3 := Lib.hid (write_ok _ _ _ _ _ _ 1 (some ⟨w3.heap.size, 0, none⟩) 1 [98] _ hD3' (by decide +kernel) (one_byte w3 98 _ _) (by intro h; cases h) (by decide) (by decide))
  have HS3 := Lib.hid (HS2.out.then hs3 (footD_new HD2.out rfl))
  have HF3 := Lib.hid (footD_new hD3 rfl)
  clear hD3 hD3' hs3
  go_wp2_with fail
  refine HC3.out.mono ?_
  rintro e w4 ⟨rfl, wv4, hD4, hs4, -⟩
  have HD4 := Lib.hid hD4
  have HS4 := Lib.hid ((HS3.out.alloc (.cells #[.int .u8 98] 5 (1, 2))).then hs4 HF3.out)
  clear hD4 hs4 HC3
  go_wp2_with fail
  refine (crash_nil _ _ _ _ _ _ _ _ HD4.out).mono ?_
  rintro e w5 ⟨rfl, hD5, hs5⟩
  have HD5 := Lib.hid hD5
  have HS5 := Lib.hid (HS4.out.then hs5 (footD_new HD4.out rfl))
  clear hD5 hs5
  go_wp2_with fail
  refine (read_down _ _ _ _ _ _ 0 1 _ HD5.out).mono ?_
  rintro e w6 ⟨rfl, rfl⟩
  go_wp2_with fail
  refine (up_any _ _ _ _ _ _ _ _ HD5.out).mono ?_
  rintro e w6 ⟨rfl, hD6, hs6⟩
  have HC6 := Lib.hid (read_ok _ _ _ _ _ _ 1 1 _ hD6 (by decide) (by decide +kernel))
  have HS6 := Lib.hid (HS5.out.then hs6 (fun k hk => .inr (by simp at hk; subst hk; exact HD5.out.low)))
  clear hD6 hs6
  go_wp2_with fail
  refine HC6.out.mono ?_
  rintro e w7 ⟨v7, rfl, hO7, hs7⟩
  obtain ⟨g7, c7, rfl, -, -, -, -⟩ := owns_form hO7 (by decide)
  have hc7 := hO7.cellAt 0 (by decide)
  have hx7 : (flatS (readS [] (syncS ([] ++ [(1, pad [97])]) (List.replicate 2 zeroS)) 1 1))[0]? = some (.int .u8 97) := by
    rw [show readS [] (syncS ([] ++ [(1, pad [97])]) (List.replicate 2 zeroS)) 1 1 = [pad [97]] by decide +kernel]
    rfl
  rw [hx7] at hc7
  have HS7 := Lib.hid (HS6.out.then hs7 (by simp))
  clear hO7 hs7 hx7 HC6
  go_wp2_with fail
  go_ret
  exact ⟨rfl, HS7.out⟩
end Go.Proofs.Ytjemdcdcjohjpaa
