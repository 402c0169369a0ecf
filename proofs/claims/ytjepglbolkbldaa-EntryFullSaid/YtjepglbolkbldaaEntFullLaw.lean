/- EntryFull: the plain law and the walk. -/
import Derived.Test.YtjepglbolkbldaaEntL
namespace Go.Proofs.Ytjepglbolkbldaa
set_option linter.unusedVariables false
open Go.RowKit

theorem Log.footB {w : World} {base lb : Nat} {a : Option Addr} {cap ix tm : Nat} {ts : List Nat} (h : Log w base lb a cap ix tm ts) : ∀ k, k ∈ foot (.slice a ts.length cap) → base ≤ k := by
  obtain ⟨L, _, ho⟩ := h.own
  exact owns_base ho
theorem Log.some {w : World} {base lb : Nat} {a : Option Addr} {cap ix tm : Nat} {ts : List Nat} (h : Log w base lb a cap ix tm ts) (hn : 0 < ts.length) : ∃ g, a = some ⟨g, 0, none⟩ := by
  obtain ⟨L, _, ho⟩ := h.own
  rcases ho.2 with ⟨hv, h0⟩ | ⟨g, c, cur, hv, -⟩
  · omega
  · cases hv; exact ⟨g, rfl⟩
/-- what may turn where a log is added to -/
theorem Added.step {base lb : Nat} {a : Option Addr} {n cap ix tm : Nat} {us : List Nat} {w w' w0 : World} (h : Added base lb a n cap ix tm us w w') (hs : Step [] w0 w) (hb : w0.heap.size ≤ base) (hlb : base ≤ lb) (hf : ∀ k, k ∈ foot (.slice a n cap) → base ≤ k) :
    ∃ a2 c2, Log w' base lb a2 c2 ix tm us ∧ Step [] w0 w' := by
  obtain ⟨a2, c2, hL, hs2, -⟩ := h
  refine ⟨a2, c2, hL, hs.then hs2 (fun k hk => .inr ?_)⟩
  rcases List.mem_cons.1 hk with h | h
  · omega
  · have := hf k h; omega

abbrev ones (k : Nat) : List Nat := List.replicate k 1
theorem last_ones (tm k : Nat) (h : k = 0 → tm ≤ 1) : ¬ 1 < lastT tm (ones k) := by
  unfold lastT
  by_cases q : (ones k).length = 0
  · rw [if_pos q]
    have := h (by simpa using q)
    omega
  · rw [if_neg q]
    simp [ones, List.getD, List.getElem?_replicate]
    split <;> simp
theorem ones_succ (k : Nat) : ones k ++ [1] = ones (k + 1) := by simp [ones, List.replicate_succ']
theorem ones_drop (k n : Nat) : (ones k).drop n = ones (k - n) := by simp [ones]
theorem follow_row (t n : Nat) : ∀ i, followF i t false ((List.range' (i + 1) n).map fun k => ⟨k, t, false, none, 0, 0⟩) = 0 := by
  induction n with
  | zero => intro i; rfl
  | succ n ih =>
    intro i
    simp only [List.range'_succ, List.map_cons, followF]
    rw [if_pos ⟨trivial, by omega⟩]
    simpa using ih (i + 1)
theorem rowL_range (i t n : Nat) : rowL i t n = (List.range' i n).map fun k => ⟨k, t, false, none, 0, 0⟩ := by
  unfold rowL
  rw [List.range'_eq_map_range, List.map_map]
  rfl
theorem rowL_tm (i t n : Nat) : (rowL i t n).map (·.tm) = List.replicate n t := by
  unfold rowL
  rw [List.map_map]
  induction n with
  | zero => rfl
  | succ n ih => rw [List.range_succ, List.map_append, ih, List.replicate_succ']; rfl
theorem term_ones (n T : Nat) (k : Nat) (h : n + k = 1024) (hT : n = 1024 → T = 1) : termAt n T (ones k) 1024 = (1, 0) := by
  unfold termAt
  rw [if_neg (by omega), if_neg (by simp; omega)]
  by_cases q : (1024 : Nat) = n
  · rw [if_pos q, hT q.symm]
  · rw [if_neg q]
    have : (ones k).getD (1024 - n - 1) 0 = 1 := by
      rw [List.getD_eq_getElem?_getD, List.getElem?_replicate, if_pos (by omega)]
      rfl
    rw [this]
theorem term_at (n : Nat) (h : n ≤ 1024) : termAt 0 0 (ones 1024) n = (if n = 0 then 0 else 1, 0) := by
  unfold termAt
  rw [if_neg (by omega), if_neg (by simp; omega)]
  by_cases q : n = 0
  · rw [if_pos q, if_pos q]
  · rw [if_neg q, if_neg q]
    have : (ones 1024).getD (n - 0 - 1) 0 = 1 := by
      rw [List.getD_eq_getElem?_getD, List.getElem?_replicate, if_pos (by omega)]
      rfl
    rw [this]
theorem known_row (n T k m : Nat) (h : n + k = 1024) : knownN n T (ones k) (rowL 1025 1 m) = 0 := by
  cases m with
  | zero => rfl
  | succ m =>
    rw [rowL_range, List.range'_succ, List.map_cons]
    unfold knownN
    have : termAt n T (ones k) 1025 = (0, 7) := by
      unfold termAt
      rw [if_neg (by omega), if_pos (by simp; omega)]
    rw [this]
    rfl
theorem put_full : putR 0 0 (ones 1024) 1024 1 (rowL 1025 1 1) = (0, 6, ones 1024) := by
  unfold putR
  rw [show followF 1024 1 false (rowL 1025 1 1) = 0 from by decide, term_ones 0 0 1024 (by omega) (by omega), known_row 0 0 1024 1 (by omega)]
  rfl
theorem put_back (n T : Nat) (hn : n ≤ 1024) (hT : n = 1024 → T = 1) : (putR n T (ones (1024 - n)) 1024 1 (rowL 1025 1 n)).2 = (0, ones 1024) := by
  unfold putR
  rw [show followF 1024 1 false (rowL 1025 1 n) = 0 from by rw [rowL_range]; exact follow_row 1 n 1024, term_ones n T (1024 - n) (by omega) hT, known_row n T (1024 - n) n (by omega), rowL_len]
  by_cases q : 0 = n
  · subst q
    rfl
  · rw [if_pos rfl, if_pos rfl, if_pos rfl, if_neg q, if_neg (by omega)]
    have : List.take (1024 + 0 - n) (ones (1024 - n)) ++ List.map (fun x => x.tm) (List.drop 0 (rowL 1025 1 n)) = ones 1024 := by
      rw [List.drop_zero, rowL_tm, Nat.add_zero, List.take_replicate, Nat.min_self, List.replicate_append_replicate, Nat.sub_add_cancel hn]
    rw [this]

set_option maxRecDepth 20000 in
set_option maxHeartbeats 2000000 in
theorem entryFull_any (i : Nat) (w : World) (hi : i < 65536) : Calls Try.prog 4 #[.int .u16 (i : Int)] w fun e w' => e = .returned (.bool true) ∧ Below w.heap.size w w' := by
  have key : Calls Try.prog 4 #[.int .u16 (i : Int)] w fun e w' => e = .returned (.bool true) ∧ Step [] w w' := by
    go_enter Try.func4, Try.ntmps4
    go_wp2_with fail
    refine (lives_any w).mono ?_
    rintro e w1 ⟨rfl, hs⟩
    have HS := Lib.hid hs
    clear hs
    go_wp2_with fail
    refine (new_any 0 0 w1 (by decide)).mono ?_
    rintro e w2 ⟨rfl, hL, hs⟩
    have hlow := HS.out.size
    obtain ⟨lb, hlb⟩ : ∃ b, w1.heap.size = b := ⟨_, rfl⟩
    rw [hlb] at hL hlow ⊢
    have HL1 := Lib.hid hL
    have HS1 := Lib.hid (HS.out.then hs (by simp))
    clear hL hs HS hlb
    go_wp2_with fail
    go_loopw [19] (fun j wr => ∃ (k : Nat) (a : Option Addr) (cap : Nat), k ≤ 1024 ∧ j = .int .i64 k ∧ Log wr lb lb a cap 0 0 (ones k) ∧ Step [] w wr) (fun j _ => 1024 - (intOf j).toNat)
    case atStart => exact ⟨0, none, 0, by omega, rfl, HL1.out, HS1.out⟩
    case round =>
      obtain ⟨k, a, cap, hk, rfl, hL, hs⟩ := hrel
      have HL := Lib.hid hL
      have HS := Lib.hid hs
      clear hL hs HL1 HS1
      by_cases hkl : k < 1024
      · have hkm : (k : Int) < 1024 := by omega
        have HC := Lib.hid (add_any lb lb a cap 0 0 (ones k) 1 false wr HL.out (last_ones 0 k (by omega)) (by simpa using hkl) (by simp; omega))
        rw [ones_succ] at HC
        go_wp2_with fail
        refine HC.out.mono ?_
        rintro e w3 ⟨rfl, hA⟩
        obtain ⟨a2, c2, hL2, hs2⟩ := hA.step HS.out hlow (Nat.le_refl _) HL.out.footB
        have HL2 := Lib.hid hL2
        have HS2 := Lib.hid hs2
        clear hA hL2 hs2 HC HL HS
        go_wp2_with fail
        go_roundw
        case rel => exact ⟨k + 1, a2, c2, by omega, by go_num, HL2.out, HS2.out⟩
        case measure => simp [intOf]; omega
      · have hke : k = 1024 := by omega
        subst hke
        have HC := Lib.hid (add_full lb lb a cap 0 0 (ones 1024) 1 false wr HL.out (last_ones 0 1024 (by omega)) (by simp) (by simp))
        go_wp2_with fail
        refine HC.out.mono ?_
        rintro e w3 ⟨rfl, hs3⟩
        have HS3 := Lib.hid (HS.out.then hs3 (by simp))
        have HL3 := Lib.hid (HL.out.step0 hs3)
        clear hs3 HS HL HC
        obtain ⟨n, hn⟩ : ∃ n, i % 1025 = n := ⟨_, rfl⟩
        have hn2 : n ≤ 1024 := by omega
        have m1 : (i : Int).tmod 1025 = (n : Int) := by
          rw [Int.tmod_eq_emod_of_nonneg (by omega)]; omega
        have m2 : IntKind.u16.wrap (n : Int) = (n : Int) := by
          rw [show IntKind.u16.wrap (n : Int) = (n : Int) % 65536 from rfl]; omega
        have m3 : IntKind.u64.wrap (n : Int) = (n : Int) := u64_self _ (by omega) (by omega)
        have m4 : IntKind.i64.wrap (n : Int) = (n : Int) := i64_self _ (by omega) (by omega)
        go_wp2_with fail
        refine (row_any 1025 1 1 w3 (by decide) (by decide)).mono ?_
        rintro e w4 ⟨ea, ec, rfl, hE, hs, hc, hea⟩
        have HC := Lib.hid (put_row HL3.out 1024 1 1025 1 1 w4 ea ec hs hE hc hea (by decide) (by decide) (by simp))
        have HS4 := Lib.hid (HS3.out.then hs (by simp))
        have HB := Lib.hid HL3.out.footB
        clear hE hs hc hea HL3 HS3
        rw [put_full] at HC
        go_wp2_with fail
        refine HC.out.mono ?_
        rintro e w5 ⟨rfl, hA⟩
        obtain ⟨a5, c5, hL5, hs5⟩ := hA.step HS4.out hlow (Nat.le_refl _) HB.out
        obtain ⟨g, rfl⟩ := hL5.some (by simp)
        have HC5 := Lib.hid (cut_any lb lb g c5 0 0 (ones 1024) n _ w5 hL5 (term_at n hn2) (by simp))
        have HS5 := Lib.hid hs5
        clear hA hL5 hs5 HC HS4 HB
        rw [ones_drop, Nat.sub_zero] at HC5
        have hT1 : n = 1024 → (if n = 0 then 0 else 1 : Nat) = 1 := fun h => by subst h; rfl
        have hT2 : (if n = 0 then 0 else 1 : Nat) ≤ 1 := by split <;> omega
        generalize (if n = 0 then 0 else 1 : Nat) = T at *
        go_wp2_with fail
        refine HC5.out.mono ?_
        rintro e w6 ⟨rfl, a6, c6, hL6, hs6, -⟩
        have HL6 := Lib.hid hL6
        have HS6 := Lib.hid (HS5.out.then hs6 (fun k hk => by simp at hk; exact .inr (by omega)))
        clear hL6 hs6 HC5 HS5
        go_wp2_with fail
        refine (row_any 1025 1 n w6 (by omega) (by omega)).mono ?_
        rintro e w7 ⟨eb, ed, rfl, hE, hs, hc, hea⟩
        have HC := Lib.hid (put_row HL6.out 1024 1 1025 1 n w7 eb ed hs hE hc hea (by omega) (by omega) (by simp; omega))
        have HS7 := Lib.hid (HS6.out.then hs (by simp))
        have HB := Lib.hid HL6.out.footB
        clear hE hs hc hea HL6 HS6
        obtain ⟨P, hP⟩ : ∃ P, putR n T (ones (1024 - n)) 1024 1 (rowL 1025 1 n) = P := ⟨_, rfl⟩
        have hP2 := put_back n T hn2 hT1
        rw [hP] at HC hP2
        rw [hP2] at HC
        clear hP hP2
        go_wp2_with fail
        refine HC.out.mono ?_
        rintro e w8 ⟨rfl, hA⟩
        obtain ⟨a8, c8, hL8, hs8⟩ := hA.step HS7.out hlow (Nat.le_refl _) HB.out
        have HC8 := Lib.hid (add_full lb lb a8 c8 n T (ones 1024) 1 false w8 hL8 (last_ones T 1024 (by omega)) (by simp) (by simp; omega))
        have HS8 := Lib.hid hs8
        clear hA hL8 hs8 HC HS7 HB
        go_wp2_with fail
        refine HC8.out.mono ?_
        rintro e w9 ⟨rfl, hs9⟩
        have HS9 := Lib.hid (HS8.out.then hs9 (by simp))
        clear hs9 HC8 HS8
        go_wp2_with fail
        go_ret
        exact ⟨rfl, HS9.out⟩
  exact key.mono fun e w' h => ⟨h.1, h.2.below'⟩
end Go.Proofs.Ytjepglbolkbldaa
