/- frame: chains of records, in plain words: what is told of them, what a cut leaves, what a turned byte does. No program in sight. -/
import Derived.Test.YtkogchmnpffiaaaFrameD
namespace Go.Proofs.Ytkogchmnpffiaaa
set_option linter.unusedVariables false
open Go.RowKit

/-- what Scan tells: where, the kind, the data -/
def scanF : Nat → Nat → Nat → List UInt8 → List (Nat × UInt8 × List UInt8)
  | 0, _, _, _ => []
  | f + 1, p, s, l => match nextR s l with
    | .bad _ => []
    | .ok k d n t => (p, k, d) :: scanF f (p + n) t (l.drop n)
theorem scanF_more : ∀ (f g p s : Nat) (l : List UInt8), l.length < f → l.length < g → scanF f p s l = scanF g p s l := by
  intro f
  induction f with
  | zero => intro g p s l h; omega
  | succ f ih =>
    intro g p s l h hg
    obtain ⟨g, rfl⟩ : ∃ k, g = k + 1 := ⟨g - 1, by omega⟩
    unfold scanF
    cases hn : nextR s l with
    | bad e => rfl
    | ok k d n t =>
      obtain ⟨h0, h1, -⟩ := nextR_ok hn
      have hd : (l.drop n).length < l.length := by rw [List.length_drop]; omega
      simp only
      rw [ih g (p + n) t (l.drop n) (by omega) (by omega)]
def scanR (p s : Nat) (l : List UInt8) : List (Nat × UInt8 × List UInt8) := scanF (l.length + 1) p s l
theorem scanR_bad {p s : Nat} {l : List UInt8} {e : Int} (h : nextR s l = .bad e) : scanR p s l = [] := by
  unfold scanR scanF
  rw [h]
theorem scanR_ok {p s : Nat} {l : List UInt8} {k : UInt8} {d : List UInt8} {n t : Nat} (h : nextR s l = .ok k d n t) : scanR p s l = (p, k, d) :: scanR (p + n) t (l.drop n) := by
  have h2 : scanR p s l = (p, k, d) :: scanF l.length (p + n) t (l.drop n) := by
    unfold scanR
    rw [scanF]
    rw [h]
  obtain ⟨h0, h1, -⟩ := nextR_ok h
  rw [h2, scanF_more l.length ((l.drop n).length + 1) (p + n) t (l.drop n) (by rw [List.length_drop]; omega) (by omega)]
  rfl
theorem scanR_cases (p s : Nat) (l : List UInt8) : (∃ e, nextR s l = .bad e ∧ scanR p s l = [] ∧ goodR s l = (0, s)) ∨ (∃ k d n t, nextR s l = .ok k d n t ∧ scanR p s l = (p, k, d) :: scanR (p + n) t (l.drop n) ∧ goodR s l = ((goodR t (l.drop n)).1 + n, (goodR t (l.drop n)).2)) := by
  cases h : nextR s l with
  | bad e => exact .inl ⟨e, rfl, scanR_bad h, goodR_bad h⟩
  | ok k d n t => exact .inr ⟨k, d, n, t, rfl, scanR_ok h, goodR_ok h⟩

/-- the data told are short -/
theorem nextR_data {s : Nat} {l : List UInt8} {k : UInt8} {d : List UInt8} {n t : Nat} (h : nextR s l = .ok k d n t) : d.length ≤ 1024 := by
  unfold nextR at h
  split at h
  · cases h
  · split at h
    · cases h
    · simp only at h
      split at h
      · cases h
      · split at h
        · cases h
        · split at h
          · simp only [Nx.ok.injEq] at h
            obtain ⟨-, rfl, -, -⟩ := h
            have := countR_most 1024 (numR (l.drop 2) 0)
            rw [List.length_take]
            omega
          · cases h

/-! chains -/
def chainB : Nat → List (UInt8 × List UInt8) → List UInt8
  | _, [] => []
  | s, r :: rs => frameB s r.1 r.2 ++ chainB (moreN s (headB r.1 r.2)) rs
def chainS : Nat → List (UInt8 × List UInt8) → Nat
  | s, [] => s
  | s, r :: rs => chainS (moreN s (headB r.1 r.2)) rs
theorem chainB_app : ∀ (a b : List (UInt8 × List UInt8)) (s : Nat), chainB s (a ++ b) = chainB s a ++ chainB (chainS s a) b
  | [], b, s => rfl
  | r :: a, b, s => by
    show frameB s r.1 r.2 ++ chainB _ (a ++ b) = _
    rw [chainB_app a b]
    show _ = (frameB s r.1 r.2 ++ chainB _ a) ++ _
    rw [List.append_assoc]
    rfl
theorem chainS_app : ∀ (a b : List (UInt8 × List UInt8)) (s : Nat), chainS s (a ++ b) = chainS (chainS s a) b
  | [], b, s => rfl
  | r :: a, b, s => chainS_app a b _
theorem chainS_lt : ∀ (a : List (UInt8 × List UInt8)) (s : Nat), s < 2 ^ 32 → chainS s a < 2 ^ 32
  | [], s, h => h
  | r :: a, s, h => chainS_lt a _ (moreN_lt _ _)
theorem chainB_take {s : Nat} {rs : List (UInt8 × List UInt8)} {i : Nat} (h : i < rs.length) : chainB s (rs.take (i + 1)) = chainB s (rs.take i) ++ frameB (chainS s (rs.take i)) (rs.getD i (0, [])).1 (rs.getD i (0, [])).2 := by
  rw [List.take_succ_eq_append_getElem h, chainB_app]
  simp [chainB, List.getD, h]
theorem chainS_take {s : Nat} {rs : List (UInt8 × List UInt8)} {i : Nat} (h : i < rs.length) : chainS s (rs.take (i + 1)) = moreN (chainS s (rs.take i)) (headB (rs.getD i (0, [])).1 (rs.getD i (0, [])).2) := by
  rw [List.take_succ_eq_append_getElem h, chainS_app]
  simp [chainS, List.getD, h]
theorem chainB_le : ∀ (rs : List (UInt8 × List UInt8)) (s m : Nat), (∀ r ∈ rs, r.2.length ≤ m) → (chainB s rs).length ≤ rs.length * (16 + m)
  | [], s, m, _ => Nat.zero_le _
  | r :: rs, s, m, h => by
    have h1 := chainB_le rs (moreN s (headB r.1 r.2)) m (fun x hx => h x (List.mem_cons_of_mem _ hx))
    have h2 := h r List.mem_cons_self
    have h3 := frameB_len s r.1 r.2
    have h4 := numB_len r.2.length
    show (frameB s r.1 r.2 ++ chainB _ rs).length ≤ (rs.length + 1) * (16 + m)
    rw [List.length_append, Nat.add_mul]
    omega
/-- where the records of a chain begin, and they -/
def chainE : Nat → Nat → List (UInt8 × List UInt8) → List (Nat × UInt8 × List UInt8)
  | _, _, [] => []
  | p, s, r :: rs => (p, r) :: chainE (p + (frameB s r.1 r.2).length) (moreN s (headB r.1 r.2)) rs
theorem chainE_len : ∀ (rs : List (UInt8 × List UInt8)) (p s : Nat), (chainE p s rs).length = rs.length
  | [], _, _ => rfl
  | r :: rs, p, s => by
    show (chainE _ _ rs).length + 1 = rs.length + 1
    rw [chainE_len rs]
theorem chainE_at : ∀ (rs : List (UInt8 × List UInt8)) (p s i : Nat), i < rs.length → (chainE p s rs)[i]? = some (p + (chainB s (rs.take i)).length, rs.getD i (0, []))
  | [], _, _, i, h => by simp at h
  | r :: rs, p, s, 0, h => by simp [chainE, chainB]
  | r :: rs, p, s, i + 1, h => by
    have := chainE_at rs (p + (frameB s r.1 r.2).length) (moreN s (headB r.1 r.2)) i (by simpa using h)
    simp only [chainE, List.getElem?_cons_succ, this, List.take_succ_cons, chainB, List.length_append, List.getD_cons_succ, Nat.add_assoc]
theorem scan_chain : ∀ (rs : List (UInt8 × List UInt8)) (p s : Nat) (rest : List UInt8), (∀ r ∈ rs, r.2.length ≤ 1024) →
    scanR p s (chainB s rs ++ rest) = chainE p s rs ++ scanR (p + (chainB s rs).length) (chainS s rs) rest ∧ goodR s (chainB s rs ++ rest) = ((goodR (chainS s rs) rest).1 + (chainB s rs).length, (goodR (chainS s rs) rest).2)
  | [], p, s, rest, h => ⟨rfl, rfl⟩
  | r :: rs, p, s, rest, h => by
    have hn := nextR_good s r.1 r.2 (chainB (moreN s (headB r.1 r.2)) rs ++ rest) (h r List.mem_cons_self)
    obtain ⟨h1, h2⟩ := scan_chain rs (p + (frameB s r.1 r.2).length) (moreN s (headB r.1 r.2)) rest (fun x hx => h x (List.mem_cons_of_mem _ hx))
    have e1 := scanR_ok (p := p) hn
    have e2 := goodR_ok hn
    rw [List.drop_left] at e1 e2
    show scanR p s ((frameB s r.1 r.2 ++ chainB _ rs) ++ rest) = (p, r) :: chainE _ _ rs ++ scanR (p + (frameB s r.1 r.2 ++ chainB _ rs).length) (chainS _ rs) rest ∧ goodR s ((frameB s r.1 r.2 ++ chainB _ rs) ++ rest) = ((goodR (chainS _ rs) rest).1 + (frameB s r.1 r.2 ++ chainB _ rs).length, (goodR (chainS _ rs) rest).2)
    rw [List.append_assoc, e1, e2, h1, h2]
    refine ⟨?_, ?_⟩
    · rw [List.cons_append, List.length_append, Nat.add_assoc]
    · rw [List.length_append]
      simp only [Prod.mk.injEq, and_true]
      omega

/-! a cut -/
theorem count_app {most : Nat} {l m : List UInt8} {x : Nat} (h : countR most (numR l 0) = (x, m, 0)) (rest : List UInt8) : numR (l ++ rest) 0 = (x, m ++ rest, 0) := by
  have hb := countR_back h
  have hx : x < M64 := by
    have h2 : numR l 0 = (x, m, 0) := by
      unfold countR at h
      split at h
      · obtain ⟨y, n, e⟩ := numR l 0
        simp only [Prod.mk.injEq] at h
        split at h
        · exact absurd h.2.2 (by decide)
        · next hne => exact absurd h.2.2 hne
      · exact h
    exact (numR_back h2).2
  rw [hb, List.append_assoc]
  exact numR_ok x (m ++ rest) hx

theorem next_cut (s : Nat) (k : UInt8) (d : List UInt8) (j : Nat) (hd : d.length ≤ 1024) (hj : j < (frameB s k d).length) : ∃ e, nextR s ((frameB s k d).take j) = .bad e := by
  cases hn : nextR s ((frameB s k d).take j) with
  | bad e => exact ⟨e, rfl⟩
  | ok k2 d2 n t =>
    exfalso
    have hl : frameB s k d = 197 :: k :: (numB d.length ++ (d ++ leN 4 (moreN s (headB k d)))) := by simp [frameB, headB]
    have hfl := frameB_len s k d
    have hln := numB_len d.length
    have hlen : ((frameB s k d).take j).length = j := by rw [List.length_take]; omega
    unfold nextR at hn
    rw [hlen] at hn
    split at hn
    · cases hn
    · split at hn
      · cases hn
      · next h2 =>
        simp only at hn
        split at hn
        · cases hn
        · next h3 =>
          split at hn
          · cases hn
          · next h4 =>
            obtain ⟨⟨x, m, e⟩, hc⟩ : ∃ q, countR 1024 (numR (((frameB s k d).take j).drop 2) 0) = q := ⟨_, rfl⟩
            rw [hc] at h3 h4
            simp only at h3 h4
            have h3' : e = 0 := Decidable.not_not.1 h3
            subst h3'
            have ha := count_app hc ((frameB s k d).drop j)
            have hs : ((frameB s k d).take j).drop 2 ++ (frameB s k d).drop j = (frameB s k d).drop 2 := by
              conv => rhs; rw [← List.take_append_drop j (frameB s k d)]
              rw [List.drop_append_of_le_length (by omega)]
            rw [hs] at ha
            have hd2 : (frameB s k d).drop 2 = numB d.length ++ (d ++ leN 4 (moreN s (headB k d))) := by rw [hl]; rfl
            rw [hd2, numR_ok d.length _ (by unfold M64; omega)] at ha
            simp only [Prod.mk.injEq, and_true] at ha
            obtain ⟨h5, h6⟩ := ha
            have h7 := congrArg List.length h6
            rw [List.length_append, List.length_append, leN4_len, List.length_drop] at h7
            omega

theorem scan_cut : ∀ (rs : List (UInt8 × List UInt8)) (p s c : Nat), (∀ r ∈ rs, r.2.length ≤ 1024) → (scanR p s ((chainB s rs).take c)).length ≤ rs.length ∧ ∀ i, i < rs.length → (i < (scanR p s ((chainB s rs).take c)).length ↔ (chainB s (rs.take (i + 1))).length ≤ c)
  | [], p, s, c, h => by
    refine ⟨?_, fun i hi => by simp at hi⟩
    show (scanR p s (List.take c [])).length ≤ 0
    rw [List.take_nil, scanR_bad (nextR_nil s)]
    exact Nat.le_refl _
  | r :: rs, p, s, c, h => by
    have hb : chainB s (r :: rs) = frameB s r.1 r.2 ++ chainB (moreN s (headB r.1 r.2)) rs := rfl
    have hbt : ∀ i, (chainB s ((r :: rs).take (i + 1))).length = (frameB s r.1 r.2).length + (chainB (moreN s (headB r.1 r.2)) (rs.take i)).length := fun i => by
      rw [List.take_succ_cons]
      show (frameB s r.1 r.2 ++ chainB _ _).length = _
      rw [List.length_append]
    by_cases hc : (frameB s r.1 r.2).length ≤ c
    · have ht : (chainB s (r :: rs)).take c = frameB s r.1 r.2 ++ (chainB (moreN s (headB r.1 r.2)) rs).take (c - (frameB s r.1 r.2).length) := by
        rw [hb, List.take_append, List.take_of_length_le hc]
      have hn := nextR_good s r.1 r.2 ((chainB (moreN s (headB r.1 r.2)) rs).take (c - (frameB s r.1 r.2).length)) (h r List.mem_cons_self)
      have e1 := scanR_ok (p := p) hn
      rw [List.drop_left] at e1
      obtain ⟨h1, h2⟩ := scan_cut rs (p + (frameB s r.1 r.2).length) (moreN s (headB r.1 r.2)) (c - (frameB s r.1 r.2).length) (fun x hx => h x (List.mem_cons_of_mem _ hx))
      rw [ht, e1]
      refine ⟨by simp only [List.length_cons]; omega, fun i hi => ?_⟩
      rw [hbt]
      cases i with
      | zero =>
        simp only [List.length_cons, List.take_zero, chainB, List.length_nil]
        omega
      | succ i =>
        have := h2 i (by simpa using hi)
        simp only [List.length_cons]
        omega
    · have ht : (chainB s (r :: rs)).take c = (frameB s r.1 r.2).take c := by
        rw [hb, List.take_append_of_le_length (by omega)]
      obtain ⟨e, he⟩ := next_cut s r.1 r.2 c (h r List.mem_cons_self) (by omega)
      rw [ht, scanR_bad he]
      refine ⟨Nat.zero_le _, fun i hi => ?_⟩
      rw [hbt]
      simp only [List.length_nil]
      omega

/-! a turned byte -/
theorem nextR_four (s : Nat) (k : UInt8) (d q rest : List UInt8) (hd : d.length ≤ 1024) (hq : q.length = 4) :
    nextR s (headB k d ++ (q ++ rest)) = if leN 4 (moreN s (headB k d)) = q then .ok k d ((headB k d).length + 4) (moreN s (headB k d)) else .bad 5 := by
  have hl : headB k d ++ (q ++ rest) = 197 :: k :: (numB d.length ++ (d ++ (q ++ rest))) := by simp [headB]
  have hn := numR_ok d.length (d ++ (q ++ rest)) (by unfold M64; omega)
  have h1 := headB_len k d
  have hlen : (headB k d ++ (q ++ rest)).length = (headB k d).length + (4 + rest.length) := by rw [List.length_append, List.length_append, hq]
  unfold nextR
  rw [if_neg (by rw [hl]; simp), if_neg (by rw [hlen]; omega)]
  have hdrop : (headB k d ++ (q ++ rest)).drop 2 = numB d.length ++ (d ++ (q ++ rest)) := by rw [hl]; rfl
  rw [hdrop, hn]
  have hc : countR 1024 (d.length, d ++ (q ++ rest), 0) = (d.length, d ++ (q ++ rest), 0) := by
    unfold countR
    rw [if_neg (by simp; omega)]
  rw [hc]
  have hm : (headB k d ++ (q ++ rest)).length - (d ++ (q ++ rest)).length + d.length = (headB k d).length := by
    rw [hlen, List.length_append, List.length_append, hq]; omega
  simp only
  rw [if_neg (by simp), if_neg (by rw [List.length_append, List.length_append, hq]; omega), hm, List.take_left, List.drop_left, List.take_left' hq, List.take_left]
  have hk : (headB k d ++ (q ++ rest)).getD 1 0 = k := by rw [hl]; rfl
  rw [hk]
theorem moreN_one {s : Nat} {a b : List UInt8} {x y : UInt8} (h : moreN s (a ++ x :: b) = moreN s (a ++ y :: b)) : x = y := by
  unfold moreN at h
  have hz : 4294967295 - s < 2 ^ 32 := by omega
  have h1 := runN_lt (a ++ x :: b) hz
  have h2 := runN_lt (a ++ y :: b) hz
  have h3 : runN (4294967295 - s) (a ++ x :: b) = runN (4294967295 - s) (a ++ y :: b) := by omega
  rw [runN_app, runN_app] at h3
  have hr := runN_lt a hz
  have hx := x.toNat_lt
  have hy := y.toNat_lt
  have h4 := runN_inj b (stepN_lt hr hx) (stepN_lt hr hy) h3
  have h5 := advN_inj 8 (Nat.xor_lt_two_pow hr (by omega : x.toNat < 2 ^ 32)) (Nat.xor_lt_two_pow hr (by omega : y.toNat < 2 ^ 32)) h4
  have h6 : (runN (4294967295 - s) a) ^^^ ((runN (4294967295 - s) a) ^^^ x.toNat) = (runN (4294967295 - s) a) ^^^ ((runN (4294967295 - s) a) ^^^ y.toNat) := by rw [h5]
  rw [← Nat.xor_assoc, ← Nat.xor_assoc, Nat.xor_self, Nat.zero_xor, Nat.zero_xor] at h6
  exact UInt8.toNat_inj.1 h6
theorem set_split {l : List UInt8} {t : Nat} (h : t < l.length) (x : UInt8) : l.set t x = l.take t ++ x :: l.drop (t + 1) := List.set_eq_take_append_cons_drop.trans (if_pos h)
theorem self_split {l : List UInt8} {t : Nat} (h : t < l.length) : l = l.take t ++ l.getD t 0 :: l.drop (t + 1) := by
  conv => lhs; rw [← List.take_append_drop t l, List.drop_eq_getElem_cons h]
  simp [List.getD, h]
theorem moreN_set {s : Nat} {l : List UInt8} {t : Nat} (h : t < l.length) {x : UInt8} (hx : x ≠ l.getD t 0) : moreN s (l.set t x) ≠ moreN s l := by
  intro h2
  rw [set_split h] at h2
  conv at h2 => rhs; rw [self_split h]
  exact hx (moreN_one h2)
theorem getD_set_app {l r : List UInt8} {t : Nat} (h : t < l.length) : (l ++ r).getD t 0 = l.getD t 0 := by
  simp [List.getD, h, List.getElem?_append_left h]

theorem next_turned (s : Nat) (k : UInt8) (d rest : List UInt8) (t : Nat) (x : UInt8) (hd : d.length ≤ 1024) (ht : t < (frameB s k d).length) (hn : t < 2 ∨ 2 + (numB d.length).length ≤ t) (hx : x ≠ (frameB s k d).getD t 0) :
    ∃ e, nextR s ((frameB s k d).set t x ++ rest) = .bad e := by
  have hfl := frameB_len s k d
  have hhl := headB_len k d
  have hln := numB_len d.length
  by_cases h0 : t = 0
  · subst h0
    have hf : frameB s k d = 197 :: (frameB s k d).drop 1 := by simp [frameB, headB]
    have hx2 : x ≠ 197 := by
      rw [hf] at hx
      simpa using hx
    refine ⟨2, ?_⟩
    rw [hf, List.set_cons_zero]
    unfold nextR
    rw [if_pos ⟨by simp, by simpa using hx2⟩]
  by_cases hh : t < (headB k d).length
  · -- a byte of the head
    have hset : (frameB s k d).set t x ++ rest = (headB k d).set t x ++ (leN 4 (moreN s (headB k d)) ++ rest) := by
      unfold frameB
      rw [List.set_append_left _ _ hh, List.append_assoc]
    have hx2 : x ≠ (headB k d).getD t 0 := by
      intro h; apply hx
      unfold frameB
      rw [getD_set_app hh]
      exact h
    have hne := moreN_set (s := s) hh hx2
    obtain ⟨k2, d2, hd2, hs2⟩ : ∃ k2 d2, d2.length = d.length ∧ (headB k d).set t x = headB k2 d2 := by
      by_cases h1 : t = 1
      · subst h1
        exact ⟨x, d, rfl, by simp [headB]⟩
      · refine ⟨k, d.set (t - (2 + (numB d.length).length)) x, by simp, ?_⟩
        obtain ⟨i, rfl⟩ : ∃ i, t = 2 + (numB d.length).length + i := ⟨t - (2 + (numB d.length).length), by omega⟩
        have : 2 + (numB d.length).length + i = (numB d.length).length + i + 1 + 1 := by omega
        unfold headB
        rw [List.length_set, Nat.add_sub_cancel_left, this, List.set_cons_succ, List.set_cons_succ, List.set_append_right _ _ (by omega), Nat.add_sub_cancel_left]
    refine ⟨5, ?_⟩
    rw [hset, hs2, nextR_frame _ _ _ _ _ (by omega), if_neg]
    rw [← hs2]
    intro h
    exact hne (leN4_inj (moreN_lt _ _) (moreN_lt _ _) h)
  · -- a byte of the sum
    have hset : (frameB s k d).set t x ++ rest = headB k d ++ ((leN 4 (moreN s (headB k d))).set (t - (headB k d).length) x ++ rest) := by
      unfold frameB
      rw [List.set_append_right _ _ (by omega), List.append_assoc]
    refine ⟨5, ?_⟩
    rw [hset, nextR_four _ _ _ _ _ hd (by rw [List.length_set, leN4_len]), if_neg]
    intro h
    have hi : t - (headB k d).length < 4 := by omega
    have h2 : (leN 4 (moreN s (headB k d))).getD (t - (headB k d).length) 0 = ((leN 4 (moreN s (headB k d))).set (t - (headB k d).length) x).getD (t - (headB k d).length) 0 := by rw [← h]
    apply hx
    have h3 : (frameB s k d).getD t 0 = (leN 4 (moreN s (headB k d))).getD (t - (headB k d).length) 0 := by
      unfold frameB
      simp only [List.getD]
      rw [List.getElem?_append_right (by omega)]
    rw [h3, h2]
    simp [List.getD, leN4_len, hi]

theorem good_turned : ∀ (rs : List (UInt8 × List UInt8)) (s t : Nat) (x : UInt8), (∀ r ∈ rs, r.2.length ≤ 1024) → t < (chainB s rs).length → x ≠ (chainB s rs).getD t 0 →
    (∀ i, i < rs.length → ¬ ((chainB s (rs.take i)).length + 2 ≤ t ∧ t < (chainB s (rs.take i)).length + 2 + (numB (rs.getD i (0, [])).2.length).length)) → (goodR s ((chainB s rs).set t x)).1 ≤ t
  | [], s, t, x, h, ht, hx, hn => by simp [chainB] at ht
  | r :: rs, s, t, x, h, ht, hx, hn => by
    have hb : chainB s (r :: rs) = frameB s r.1 r.2 ++ chainB (moreN s (headB r.1 r.2)) rs := rfl
    rw [hb] at ht hx ⊢
    rw [List.length_append] at ht
    by_cases hf : t < (frameB s r.1 r.2).length
    · have h0 := hn 0 (by simp)
      simp only [List.take_zero, chainB, List.length_nil, List.getD_cons_zero] at h0
      rw [getD_set_app hf] at hx
      obtain ⟨e, he⟩ := next_turned s r.1 r.2 (chainB (moreN s (headB r.1 r.2)) rs) t x (h r List.mem_cons_self) hf (by omega) hx
      rw [List.set_append_left _ _ hf, goodR_bad he]
      exact Nat.zero_le _
    · have hg := nextR_good s r.1 r.2 ((chainB (moreN s (headB r.1 r.2)) rs).set (t - (frameB s r.1 r.2).length) x) (h r List.mem_cons_self)
      have e1 := goodR_ok hg
      rw [List.drop_left] at e1
      rw [List.set_append_right _ _ (by omega), e1]
      have ih := good_turned rs (moreN s (headB r.1 r.2)) (t - (frameB s r.1 r.2).length) x (fun y hy => h y (List.mem_cons_of_mem _ hy)) (by omega)
        (by
          have h3 : (frameB s r.1 r.2 ++ chainB (moreN s (headB r.1 r.2)) rs).getD t 0 = (chainB (moreN s (headB r.1 r.2)) rs).getD (t - (frameB s r.1 r.2).length) 0 := by
            simp only [List.getD]
            rw [List.getElem?_append_right (by omega)]
          rw [← h3]
          exact hx)
        (fun i hi => by
          have h4 := hn (i + 1) (by simpa using hi)
          rw [List.take_succ_cons, List.getD_cons_succ] at h4
          have h5 : (chainB s (r :: rs.take i)).length = (frameB s r.1 r.2).length + (chainB (moreN s (headB r.1 r.2)) (rs.take i)).length := by
            show (frameB s r.1 r.2 ++ chainB _ _).length = _
            rw [List.length_append]
          rw [h5] at h4
          omega)
      simp only
      omega
end Go.Proofs.Ytkogchmnpffiaaa
