/- DiskKeeps: the plain law, and the walk. -/
import Derived.Test.YtjemdcdcjohjpaaDiskK
namespace Go.Proofs.Ytjemdcdcjohjpaa
set_option linter.unusedVariables false
open Go.RowKit Go.Maps

theorem hist_take (W : List (Nat × List UInt8)) (n q : Nat) (x : Nat × List UInt8) (hx : W[n]? = some x) : hist (W.take (n + 1)) q = if x.1 = q then hist (W.take n) q ++ [x.2] else hist (W.take n) q := by
  rw [List.take_add_one, hx]
  simp only [Option.toList_some]
  by_cases h : x.1 = q
  · rw [if_pos h, ← h]
    exact hist_same _ _ _
  · rw [if_neg h]
    exact hist_other _ _ _ _ (fun e => h e.symm)
theorem hist_take_end (W : List (Nat × List UInt8)) (n q : Nat) (h : W[n]? = Option.none) : W.take (n + 1) = W.take n := by
  rw [List.getElem?_eq_none_iff] at h
  rw [List.take_of_length_le (by omega), List.take_of_length_le h]
/-- what stands at a sector behind some that were settled: what stood there, or one that was written there -/
theorem setl_at (kp : Nat → Bool) (W : List (Nat × List UInt8)) (S : List (List UInt8)) (q n : Nat) : (setl kp W S n)[q]? = S[q]? ∨ ∃ b, b ∈ hist (W.take n) q ∧ (setl kp W S n)[q]? = some b := by
  induction n with
  | zero => exact .inl rfl
  | succ n ih =>
    cases hx : W[n]? with
    | none =>
      have h1 : setl kp W S (n + 1) = setl kp W S n := by
        conv => lhs; unfold setl
        rw [hx]
      rw [h1, hist_take_end W n q hx]
      exact ih
    | some x =>
      rw [setl_next kp W S n x hx, hist_take W n q x hx]
      by_cases hk : kp n = true
      · rw [if_pos hk, List.getElem?_set]
        by_cases hq : x.1 = q
        · rw [if_pos hq, if_pos hq]
          by_cases hl : x.1 < (setl kp W S n).length
          · rw [if_pos hl]
            exact .inr ⟨x.2, by simp, rfl⟩
          · rw [if_neg hl]
            rcases ih with h | ⟨b, h1, h2⟩
            · left
              rw [← h, List.getElem?_eq_none (by omega)]
            · exfalso
              rw [List.getElem?_eq_none (by omega)] at h2
              cases h2
        · rw [if_neg hq, if_neg hq]
          exact ih
      · rw [if_neg hk]
        rcases ih with h | ⟨b, h1, h2⟩
        · exact .inl h
        · refine .inr ⟨b, ?_, h2⟩
          split
          · exact List.mem_append_left _ h1
          · exact h1
/-- what stands at a sector behind a sync: the last one written there -/
theorem sync_at (W : List (Nat × List UInt8)) (S : List (List UInt8)) (q n : Nat) (hq : q < S.length) : (setl (fun _ => true) W S n)[q]? = some ((hist (W.take n) q).getLastD (S.getD q [])) := by
  induction n with
  | zero =>
    simp [setl, hist, List.getD, List.getElem?_eq_getElem hq]
  | succ n ih =>
    cases hx : W[n]? with
    | none =>
      have h1 : setl (fun _ => true) W S (n + 1) = setl (fun _ => true) W S n := by
        conv => lhs; unfold setl
        rw [hx]
      rw [h1, hist_take_end W n q hx]
      exact ih
    | some x =>
      rw [setl_next _ W S n x hx, hist_take W n q x hx, if_pos rfl, List.getElem?_set]
      by_cases he : x.1 = q
      · rw [if_pos he, if_pos he, if_pos (by rw [setl_len]; omega)]
        simp [List.getLastD_eq_getLast?]
      · rw [if_neg he, if_neg he]
        exact ih

/-- whether one that waits is kept -/
def keepB (K : Int) (i : Nat) : Bool := bits .and .u64 (K / 2 ^ (i % 64)) 1 == 1
theorem keep_any (kb : Nat) (K : Int) (i : Nat) (w : World) (hc : w.cell? ⟨kb, 0, none⟩ = some (.int .u64 K)) : Calls Try.prog 13 #[.int .i64 (i : Int), .pointer (some ⟨kb, 0, none⟩)] w fun e w' => e = .returned (.bool (keepB K i)) ∧ w = w' := by
  go_enter Try.func13, Try.ntmps13
  go_wp2_with fail
  go_ret
  exact ⟨rfl, rfl⟩

theorem accL_8 (l : List Ac) (k : Nat) : ∀ x ∈ accL l k, x.1 < 8 := by
  induction k with
  | zero => simp [accL]
  | succ k ih =>
    by_cases hk : k < l.length
    · rw [accL_next l k hk]
      unfold accA
      split
      · rename_i h
        intro x hx
        rcases List.mem_append.1 hx with hx | hx
        · exact ih x hx
        · simp at hx
          subst hx
          show (l.getD k ac0).pos.toNat < 8
          omega
      · exact ih
    · have : accL l (k + 1) = accL l k := by
        unfold accL
        rw [List.take_of_length_le (by omega), List.take_of_length_le (by omega)]
      rw [this]
      exact ih

/-- what stands at a sector at the end -/
theorem keeps_at (kp : Nat → Bool) (W1 W2 : List (Nat × List UInt8)) (S0 : List (List UInt8)) (hS : S0.length = 8) (hz : ∀ q, q < 8 → S0.getD q [] = zeroS) (q : Nat) (hq : q < 8) :
    ∃ b, (setl kp W2 (syncS W1 S0) W2.length)[q]? = some b ∧ (b = (hist W1 q).getLastD zeroS ∨ b ∈ hist W2 q) := by
  have h1 := sync_at W1 S0 q W1.length (by omega)
  rw [List.take_length, hz q hq] at h1
  rcases setl_at kp W2 (syncS W1 S0) q W2.length with h | ⟨b, h2, h3⟩
  · exact ⟨_, h.trans h1, .inl rfl⟩
  · rw [List.take_length] at h2
    exact ⟨b, h3, .inr h2⟩

/-- one sector, read -/
theorem read_one (S : List (List UInt8)) (q : Nat) (b : List UInt8) (h : S[q]? = some b) : readS [] S q 1 = [b] := by
  have hq : q < S.length := (List.getElem?_eq_some_iff.1 h).1
  have hb : S[q] = b := (List.getElem?_eq_some_iff.1 h).2
  unfold readS cutS
  rw [show syncS [] S = S from rfl, List.drop_eq_getElem_cons hq]
  simp [hb]

/-- what the last loop needs -/
structure Last (w : World) (base db dc : Nat) (lv : Value) (S : List (List UInt8)) (base1 mb1 n1 : Nat) (f1 : Int → Option SL) (W1 : List (Nat × List UInt8)) (base2 mb2 n2 : Nat) (f2 : Int → Option SL) (W2 : List (Nat × List UInt8)) : Prop where
  dsk : Dsk w base db lv (.slice none 0 0) S [] false
  box : w.cell? ⟨dc, 0, none⟩ = some (.pointer (some ⟨db, 0, none⟩))
  r1 : Rows w base1 mb1 n1 f1 W1
  r2 : Rows w base2 mb2 n2 f2 W2
theorem Last.step {w w' : World} {base db dc : Nat} {lv : Value} {S : List (List UInt8)} {base1 mb1 n1 : Nat} {f1 : Int → Option SL} {W1 : List (Nat × List UInt8)} {base2 mb2 n2 : Nat} {f2 : Int → Option SL} {W2 : List (Nat × List UInt8)} (h : Last w base db dc lv S base1 mb1 n1 f1 W1 base2 mb2 n2 f2 W2) (hs : Step [] w w') : Last w' base db dc lv S base1 mb1 n1 f1 W1 base2 mb2 n2 f2 W2 :=
  ⟨h.dsk.step hs (by simp), (hs.cell (World.block_lt_of_cell? w _ h.box) (by simp)).trans h.box, h.r1.step hs (by simp), h.r2.step hs (by simp)⟩
/-- what a look-up tells -/
theorem Rows.look {w : World} {base mb n : Nat} {f : Int → Option SL} {W : List (Nat × List UInt8)} (h : Rows w base mb n f W) (q : Nat) (hq : q < 8) : ∃ ao cap, (Instr.lookup 29 (.map (some mb)) (.int .i64 (q : Int)) false).run Try.prog w = .ok (.slice ao (hist W q).length cap) w ∧ w.ownsRow base 9 1 (.slice ao (hist W q).length cap) (hist W q).length ((hist W q).map strV) ∧ (ao = Option.none → (hist W q).length = 0) := by
  obtain ⟨ao, cap, hsv, hn⟩ := owns_shape (h.row q hq)
  have h1 := h.map.run Try.underlying29 ((Option.none, 0, 0) : SL) (by rfl) (q : Int) (by show (Lit.int .i64 (q : Int)).wf = true; simp [Lit.wf, IntKind.min, IntKind.max, IntKind.bits, IntKind.signed]; omega)
  have h2 : slEl.val ((f (q : Int)).getD (Option.none, 0, 0)) = .slice ao (hist W q).length cap := hsv
  rw [h2] at h1
  refine ⟨ao, cap, h1, ?_, fun e => (hn e).1⟩
  rw [← hsv]
  exact h.row q hq
end Go.Proofs.Ytjemdcdcjohjpaa
