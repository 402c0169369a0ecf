/- entry: the law's example. -/
import Derived.Test.YtjepglbolkbldaaEntH
namespace Go.Proofs.Ytjepglbolkbldaa
set_option linter.unusedVariables false
open Go.RowKit

theorem Log.newer {w : World} {base lb : Nat} {a : Option Addr} {cap ix tm : Nat} {ts : List Nat} (h : Log w base lb a cap ix tm ts) {b : Nat} (hb : w.heap.size ≤ b) : b ≠ lb ∧ b ∉ foot (.slice a ts.length cap) := by
  have h1 := h.blk.lt
  obtain ⟨L, _, ho⟩ := h.own
  refine ⟨by omega, fun hm => ?_⟩
  have := owns_live ho b hm
  omega

theorem Log.footB {w : World} {base lb : Nat} {a : Option Addr} {cap ix tm : Nat} {ts : List Nat} (h : Log w base lb a cap ix tm ts) : ∀ k, k ∈ foot (.slice a ts.length cap) → base ≤ k := by
  obtain ⟨L, _, ho⟩ := h.own
  exact owns_base ho

theorem put_row {base lb : Nat} {a : Option Addr} {cap ix tm : Nat} {ts : List Nat} {w0 : World} (h0 : Log w0 base lb a cap ix tm ts) (i t p q n : Nat) (w : World) (ea : Option Addr) (ec : Nat) (hs : Step [] w0 w) (hE : Ents w ea (rowL p q n)) (hc : n ≤ ec)
    (hea : ea = none ∧ ec = 0 ∨ ∃ b off, ea = some ⟨b, off, none⟩ ∧ w0.heap.size ≤ b) (hn : n ≤ 2000) (hi : i + n < 4611686018427387904) (hix : ix + ts.length < 4611686018427387904) :
    Calls Try.prog 8 #[.pointer (some ⟨lb, 0, none⟩), .int .u64 (i : Int), .int .u64 (t : Int), .slice ea n ec] w fun e w' => e = .returned (.tuple #[.int .u64 (((putR ix tm ts i t (rowL p q n)).1 : Nat) : Int), .int .i64 (putR ix tm ts i t (rowL p q n)).2.1]) ∧ Added base lb a ts.length cap ix tm (putR ix tm ts i t (rowL p q n)).2.2 w w' := by
  have hd : ∀ x ∈ rowL p q n, x.da = none ∧ x.dn = 0 ∧ x.dc = 0 := by
    intro x hx
    obtain ⟨k, _, rfl⟩ := List.mem_map.1 hx
    exact ⟨rfl, rfl, rfl⟩
  have h := put_any base lb a cap ix tm ts i t ea ec (rowL p q n) w (h0.step0 hs) hE (fun x hx => ⟨[], (hd x hx).2.1.symm, Bytes.nil _ _, fun _ => (hd x hx).2⟩) (fun x hx _ b off hb => by rw [(hd x hx).1] at hb; cases hb)
    (fun hq b off hb => by
      rcases hea with h | ⟨b2, off2, rfl, hb2⟩
      · rw [h.1] at hb; cases hb
      · cases hb; exact h0.newer hb2) (by rw [rowL_len]; exact hc) (by rw [rowL_len]; exact hn) (by rw [rowL_len]; exact hi) hix
  rw [rowL_len] at h
  exact h

set_option maxHeartbeats 1000000 in
theorem lives_any (w : World) : Calls Try.prog 6 #[] w fun e w' => e = .returned (.bool true) ∧ Step [] w w' := by
  have r1 : putR 0 0 [] 0 0 (rowL 1 1 3) = (1, 0, [1, 1, 1]) := by decide
  have r2 : putR 0 0 [1, 1, 1] 1 1 (rowL 2 2 1) = (2, 0, [1, 2]) := by decide
  go_enter Try.func6, Try.ntmps6
  go_wp2_with fail
  refine (new_any 0 0 w (by decide)).mono ?_
  rintro e w1 ⟨rfl, hL, hs⟩
  obtain ⟨lb, hlb⟩ : ∃ b, w.heap.size = b := ⟨_, rfl⟩
  rw [hlb] at hL ⊢
  have HL1 := Lib.hid hL
  have HS1 := Lib.hid hs
  clear hL hs
  go_wp2_with fail
  refine (row_any 1 1 3 w1 (by decide) (by decide)).mono ?_
  rintro e w2 ⟨ea, ec, rfl, hE, hs, hc, hea⟩
  have HC := Lib.hid (put_row HL1.out 0 0 1 1 3 w2 ea ec hs hE hc hea (by decide) (by decide) (by decide))
  have HS2 := Lib.hid (HS1.out.then hs (by simp))
  clear hE hs hc hea HL1 HS1
  rw [r1] at HC
  go_wp2_with fail
  refine HC.out.mono ?_
  rintro e w3 ⟨rfl, a2, c2, hL, hs, hf⟩
  have HL3 := Lib.hid hL
  have HS3 := Lib.hid (HS2.out.then hs (fun k hk => .inr (by
    rcases List.mem_cons.1 hk with h | h
    · omega
    · exact absurd h (by simp [foot, Value.ownBlock]))))
  have HF3 := Lib.hid (fun k (hk : k ∈ foot (.slice a2 3 c2)) => show w.heap.size ≤ k from by
    rcases hf k hk with h | h
    · exact absurd h (by simp [foot, Value.ownBlock])
    · have := HS2.out.size; omega)
  clear hL hs hf HC HS2
  go_wp2_with fail
  refine (row_any 2 2 1 w3 (by decide) (by decide)).mono ?_
  rintro e w4 ⟨eb, eq, rfl, hE, hs, hc, hea⟩
  have HC := Lib.hid (put_row HL3.out 1 1 2 2 1 w4 eb eq hs hE hc hea (by decide) (by decide) (by decide))
  have HS4 := Lib.hid (HS3.out.then hs (by simp))
  clear hE hs hc hea HL3 HS3
  rw [r2] at HC
  go_wp2_with fail
  refine HC.out.mono ?_
  rintro e w5 ⟨rfl, a5, c5, hL, hs, hf⟩
  have HL5 := Lib.hid (last_any _ _ _ _ _ _ _ _ hL)
  have HS5 := Lib.hid (HS4.out.then hs (fun k hk => .inr (by
    rcases List.mem_cons.1 hk with h | h
    · omega
    · exact HF3.out k h)))
  clear hL hs hf HC HS4 HF3
  go_wp2_with fail
  refine HL5.out.mono ?_
  rintro e w6 ⟨rfl, hs⟩
  have HS6 := Lib.hid (HS5.out.then hs (by simp))
  clear hs HL5 HS5
  have z1 : (0 + [1, 2].length : Nat) = 2 := rfl
  have z2 : lastT 0 [1, 2] = 2 := rfl
  rw [z1, z2]
  go_wp2_with fail
  go_ret
  exact ⟨rfl, HS6.out⟩
end Go.Proofs.Ytjepglbolkbldaa
