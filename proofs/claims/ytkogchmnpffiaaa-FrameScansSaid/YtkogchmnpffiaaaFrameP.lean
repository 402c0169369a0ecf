/- frame: records as bytes, in plain words. -/
import Derived.Test.YtkogchmnpffiaaaOctetG
import Derived.Test.YtkogchmnpffiaaaCrcMore
namespace Go.Proofs.Ytkogchmnpffiaaa
set_option linter.unusedVariables false
open Go.RowKit

/-- a record's frame but the sum; the sum's bytes; the frame -/
def headB (k : UInt8) (d : List UInt8) : List UInt8 := 197 :: k :: (numB d.length ++ d)
def frameB (s : Nat) (k : UInt8) (d : List UInt8) : List UInt8 := headB k d ++ leN 4 (moreN s (headB k d))

theorem leN4_len (x : Nat) : (leN 4 x).length = 4 := rfl
theorem headB_len (k : UInt8) (d : List UInt8) : (headB k d).length = 2 + (numB d.length).length + d.length := by
  simp [headB]; omega
theorem frameB_len (s : Nat) (k : UInt8) (d : List UInt8) : (frameB s k d).length = 6 + (numB d.length).length + d.length := by
  simp [frameB, headB_len, leN4_len]; omega
theorem leN4_inj {a b : Nat} (ha : a < 2 ^ 32) (hb : b < 2 ^ 32) (h : leN 4 a = leN 4 b) : a = b := by
  simp only [leN, List.cons.injEq, and_true] at h
  obtain ⟨h0, h1, h2, h3⟩ := h
  have e0 := congrArg UInt8.toNat h0
  have e1 := congrArg UInt8.toNat h1
  have e2 := congrArg UInt8.toNat h2
  have e3 := congrArg UInt8.toNat h3
  simp at e0 e1 e2 e3
  omega

/-- what Next reads: the kind, the data, how many bytes, the sum; or what is wrong -/
inductive Nx where
  | bad (e : Int)
  | ok (k : UInt8) (d : List UInt8) (n s : Nat)
def nextR (s : Nat) (l : List UInt8) : Nx :=
  if 0 < l.length ∧ l.getD 0 0 ≠ 197 then .bad 2
  else if l.length < 2 then .bad 4
  else
    let p := countR 1024 (numR (l.drop 2) 0)
    if p.2.2 ≠ 0 then .bad p.2.2
    else if p.2.1.length < p.1 + 4 then .bad 4
    else
      let m := l.length - p.2.1.length + p.1
      if leN 4 (moreN s (l.take m)) = (l.drop m).take 4 then .ok (l.getD 1 0) (p.2.1.take p.1) (m + 4) (moreN s (l.take m)) else .bad 5

theorem nextR_frame (s s2 : Nat) (k : UInt8) (d rest : List UInt8) (hd : d.length ≤ 1024) :
    nextR s (headB k d ++ (leN 4 s2 ++ rest)) = if leN 4 (moreN s (headB k d)) = leN 4 s2 then .ok k d ((headB k d).length + 4) (moreN s (headB k d)) else .bad 5 := by
  have hl : headB k d ++ (leN 4 s2 ++ rest) = 197 :: k :: (numB d.length ++ (d ++ (leN 4 s2 ++ rest))) := by simp [headB]
  have hn := numR_ok d.length (d ++ (leN 4 s2 ++ rest)) (by unfold M64; omega)
  have h1 := headB_len k d
  have hlen : (headB k d ++ (leN 4 s2 ++ rest)).length = (headB k d).length + (4 + rest.length) := by rw [List.length_append, List.length_append, leN4_len]
  unfold nextR
  rw [if_neg (by rw [hl]; simp), if_neg (by rw [hlen]; omega)]
  have hdrop : (headB k d ++ (leN 4 s2 ++ rest)).drop 2 = numB d.length ++ (d ++ (leN 4 s2 ++ rest)) := by rw [hl]; rfl
  rw [hdrop, hn]
  have hc : countR 1024 (d.length, d ++ (leN 4 s2 ++ rest), 0) = (d.length, d ++ (leN 4 s2 ++ rest), 0) := by
    unfold countR
    rw [if_neg (by simp; omega)]
  rw [hc]
  have hm : (headB k d ++ (leN 4 s2 ++ rest)).length - (d ++ (leN 4 s2 ++ rest)).length + d.length = (headB k d).length := by
    rw [hlen, List.length_append, List.length_append, leN4_len]; omega
  simp only
  rw [if_neg (by simp), if_neg (by rw [List.length_append, List.length_append, leN4_len]; omega), hm, List.take_left, List.drop_left, List.take_left' (leN4_len s2), List.take_left]
  have hk : (headB k d ++ (leN 4 s2 ++ rest)).getD 1 0 = k := by rw [hl]; rfl
  rw [hk]

theorem nextR_good (s : Nat) (k : UInt8) (d rest : List UInt8) (hd : d.length ≤ 1024) : nextR s (frameB s k d ++ rest) = .ok k d (frameB s k d).length (moreN s (headB k d)) := by
  unfold frameB
  rw [List.append_assoc, nextR_frame _ _ _ _ _ hd, if_pos rfl, List.length_append, leN4_len]
theorem nextR_nil (s : Nat) : nextR s [] = .bad 4 := rfl

/-- a sum from another seed is another one -/
theorem runN_inj : ∀ (l : List UInt8) {a b : Nat}, a < 2 ^ 32 → b < 2 ^ 32 → runN a l = runN b l → a = b := by
  intro l
  induction l with
  | nil => intro a b _ _ h; exact h
  | cons x r ih =>
    intro a b ha hb h
    have hx := x.toNat_lt
    have h1 := ih (stepN_lt ha hx) (stepN_lt hb hx) h
    have h2 := advN_inj 8 (Nat.xor_lt_two_pow ha (by omega : x.toNat < 2 ^ 32)) (Nat.xor_lt_two_pow hb (by omega)) h1
    have h3 : (a ^^^ x.toNat) ^^^ x.toNat = (b ^^^ x.toNat) ^^^ x.toNat := by rw [h2]
    rwa [Nat.xor_assoc, Nat.xor_assoc, Nat.xor_self, Nat.xor_zero, Nat.xor_zero] at h3
theorem moreN_inj {l : List UInt8} {a b : Nat} (ha : a < 2 ^ 32) (hb : b < 2 ^ 32) (h : moreN a l = moreN b l) : a = b := by
  unfold moreN at h
  have h1 := runN_lt l (show 4294967295 - a < 2 ^ 32 by omega)
  have h2 := runN_lt l (show 4294967295 - b < 2 ^ 32 by omega)
  have h3 := runN_inj l (show 4294967295 - a < 2 ^ 32 by omega) (show 4294967295 - b < 2 ^ 32 by omega) (by omega)
  omega

/-- Good: how many bytes the chain has, and the last sum -/
def goodF : Nat → Nat → List UInt8 → Nat × Nat
  | 0, s, _ => (0, s)
  | f + 1, s, l => match nextR s l with
    | .bad _ => (0, s)
    | .ok _ _ n t => ((goodF f t (l.drop n)).1 + n, (goodF f t (l.drop n)).2)
end Go.Proofs.Ytkogchmnpffiaaa
