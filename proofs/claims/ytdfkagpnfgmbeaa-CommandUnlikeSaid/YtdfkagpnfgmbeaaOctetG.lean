/- octet.Reader: Num and Count, whatever stands there. -/
import Derived.Test.YtdfkagpnfgmbeaaOctetE
import Derived.Test.YtdfkagpnfgmbeaaOctetP
import Derived.Deep.RegionWith
import Derived.Lib.ConvBytes
namespace Go.Proofs.Ytdfkagpnfgmbeaa
set_option linter.unusedVariables false
open Go.RowKit

theorem and_127 (b : Nat) (h : b < 256) : bits .and .u8 (b : Int) 127 = ((b % 128 : Nat) : Int) := by
  have e : (127 : Int) = ((127 : Nat) : Int) := rfl
  rw [e, u8_and_nat _ _ h (by decide)]
  have := Nat.and_two_pow_sub_one_eq_mod b 7
  simp at this
  rw [this]

theorem or_join (a c s : Nat) (ha : a < 2 ^ s) (h : c * 2 ^ s < 18446744073709551616) (h2 : a < 18446744073709551616) : bits .or .u64 (a : Int) ((c * 2 ^ s : Nat) : Int) = ((a + c * 2 ^ s : Nat) : Int) := by
  rw [u64_or_nat _ _ h2 h, Nat.or_comm, Nat.mul_comm, ← Nat.two_pow_add_eq_or_of_lt ha, Nat.add_comm]

theorem join_val' (a c s : Nat) (ha : a < 2 ^ s) (h : a + c * 2 ^ s < 18446744073709551616) : bits .or .u64 (a : Int) (IntKind.u64.wrap ((c : Int) * 2 ^ s)) = ((a + c * 2 ^ s : Nat) : Int) := by
  have e : ((c : Int) * 2 ^ s) = ((c * 2 ^ s : Nat) : Int) := by simp
  rw [e, IntKind.wrap_u64, Int.emod_eq_of_lt (by omega) (by omega)]
  exact or_join a c s ha (by omega) (by omega)

theorem join_val (a c s x0 : Nat) (ha : a < 2 ^ s) (h : a + c * 2 ^ s = x0) (hx : x0 < M64) : bits .or .u64 (a : Int) (IntKind.u64.wrap ((c : Int) * 2 ^ s)) = ((a + c * 2 ^ s : Nat) : Int) :=
  join_val' a c s ha (by unfold M64 at hx; omega)

theorem numF_cons (k x : Nat) (rest : List UInt8) : numF k x ++ rest = if x < 128 then UInt8.ofNat x :: rest else (match k with | 0 => UInt8.ofNat x :: rest | k + 1 => UInt8.ofNat (x % 128 + 128) :: (numF k (x / 128) ++ rest)) := by
  by_cases h : x < 128
  · rw [if_pos h, numF_low k x h]; rfl
  · rw [if_neg h]
    cases k with
    | zero => rfl
    | succ k => rw [numF_high k x h]; rfl

/-- what Num reads: the number, what is left, what is wrong -/
def readF : Nat → Nat → List UInt8 → Nat × List UInt8 × Int
  | _, _, [] => (0, [], 4)
  | i, acc, b :: r =>
    if 9 < i ∨ (i = 9 ∧ 1 < b.toNat) ∨ (b.toNat = 0 ∧ 0 < i) then (0, [], 2)
    else if b.toNat < 128 then (acc + b.toNat * 2 ^ (7 * i), r, 0)
    else readF (i + 1) (acc + b.toNat % 128 * 2 ^ (7 * i)) r
def numR (l : List UInt8) (e : Int) : Nat × List UInt8 × Int := if e = 0 then readF 0 0 l else (0, l, e)

theorem readF_ok : ∀ (k i acc x : Nat) (rest : List UInt8), i + k = 9 → (0 < i → 0 < x) → x < 128 * 128 ^ k → (i = 9 → x ≤ 1) → acc + x * 2 ^ (7 * i) < M64 → readF i acc (numF k x ++ rest) = (acc + x * 2 ^ (7 * i), rest, 0) := by
  intro k
  induction k with
  | zero =>
    intro i acc x rest hi hp hx h9 hlt
    have hx1 := h9 (by omega)
    have ht : (UInt8.ofNat x).toNat = x := by simp; omega
    show readF i acc (UInt8.ofNat x :: rest) = _
    unfold readF
    rw [ht, if_neg (by have := hp (by omega); omega), if_pos (by omega)]
  | succ k ih =>
    intro i acc x rest hi hp hx h9 hlt
    by_cases hx2 : x < 128
    · have ht : (UInt8.ofNat x).toNat = x := by simp; omega
      rw [numF_low _ _ hx2]
      show readF i acc (UInt8.ofNat x :: rest) = _
      unfold readF
      rw [ht, if_neg (by
        rintro (h | h | h)
        · omega
        · omega
        · have := hp h.2; omega), if_pos hx2]
    · rw [numF_high _ _ hx2]
      have ht : (UInt8.ofNat (x % 128 + 128)).toNat = x % 128 + 128 := by simp; omega
      show readF i acc (UInt8.ofNat (x % 128 + 128) :: (numF k (x / 128) ++ rest)) = _
      have hsplit : acc + (x % 128) * 2 ^ (7 * i) + (x / 128) * 2 ^ (7 * (i + 1)) = acc + x * 2 ^ (7 * i) := by
        have e1 : (x / 128) * 2 ^ (7 * (i + 1)) = (x / 128 * 128) * 2 ^ (7 * i) := by
          rw [show 7 * (i + 1) = 7 * i + 7 by omega, Nat.pow_add, Nat.mul_assoc, Nat.mul_comm (2 ^ (7 * i)) (2 ^ 7)]
        rw [e1, Nat.add_assoc, ← Nat.add_mul, show x % 128 + x / 128 * 128 = x by omega]
      unfold readF
      rw [ht, if_neg (by omega), if_neg (by omega), show (x % 128 + 128) % 128 = x % 128 by omega]
      rw [ih (i + 1) _ (x / 128) rest (by omega) (fun _ => by omega) ?_ ?_ (by rw [hsplit]; exact hlt), hsplit]
      · rw [Nat.pow_succ] at hx
        exact Nat.div_lt_of_lt_mul (by rw [show 128 * (128 * 128 ^ k) = 128 * (128 ^ k * 128) by rw [Nat.mul_comm 128 (128 ^ k)]]; exact hx)
      · intro hi9
        have h1 : i = 8 := by omega
        subst h1
        unfold M64 at hlt
        omega
theorem numR_ok (x : Nat) (rest : List UInt8) (hx : x < M64) : numR (numB x ++ rest) 0 = (x, rest, 0) := by
  have := readF_ok 9 0 0 x rest rfl (fun h => by omega) (by unfold M64 at hx; omega) (fun h => by omega) (by simpa using hx)
  simp at this
  unfold numR
  rw [if_pos rfl]
  exact this

/-- what is read has these bytes -/
theorem readF_back : ∀ (k i acc : Nat) (l : List UInt8) (x : Nat) (rest : List UInt8), i + k = 9 → acc < 2 ^ (7 * i) → readF i acc l = (x, rest, 0) → ∃ y, x = acc + y * 2 ^ (7 * i) ∧ l = numF k y ++ rest ∧ (0 < i → 0 < y) ∧ x < M64 := by
  intro k
  induction k with
  | zero =>
    intro i acc l x rest hi hacc h
    cases l with
    | nil => unfold readF at h; simp at h
    | cons b r =>
      have hb := b.toNat_lt
      unfold readF at h
      by_cases q : 9 < i ∨ (i = 9 ∧ 1 < b.toNat) ∨ (b.toNat = 0 ∧ 0 < i)
      · rw [if_pos q] at h; simp at h
      · rw [if_neg q, if_pos (by omega)] at h
        simp only [Prod.mk.injEq, and_true] at h
        obtain ⟨rfl, rfl⟩ := h
        have h9 : i = 9 := by omega
        refine ⟨b.toNat, rfl, ?_, fun _ => by omega, ?_⟩
        · show b :: r = UInt8.ofNat b.toNat :: r
          simp
        · subst h9
          unfold M64
          have : b.toNat ≤ 1 := by omega
          have h2 : b.toNat * 2 ^ (7 * 9) ≤ 1 * 2 ^ (7 * 9) := Nat.mul_le_mul_right _ this
          omega
  | succ k ih =>
    intro i acc l x rest hi hacc h
    cases l with
    | nil => unfold readF at h; simp at h
    | cons b r =>
      have hb := b.toNat_lt
      have hp : 2 ^ (7 * (i + 1)) = 128 * 2 ^ (7 * i) := by rw [show 7 * (i + 1) = 7 * i + 7 by omega, Nat.pow_add, Nat.mul_comm]
      unfold readF at h
      by_cases q : 9 < i ∨ (i = 9 ∧ 1 < b.toNat) ∨ (b.toNat = 0 ∧ 0 < i)
      · rw [if_pos q] at h; simp at h
      · rw [if_neg q] at h
        by_cases q2 : b.toNat < 128
        · rw [if_pos q2] at h
          simp only [Prod.mk.injEq, and_true] at h
          obtain ⟨rfl, rfl⟩ := h
          refine ⟨b.toNat, rfl, ?_, fun _ => by omega, ?_⟩
          · rw [numF_low _ _ q2]; simp
          · have h2 : (b.toNat + 1) * 2 ^ (7 * i) ≤ 128 * 2 ^ (7 * i) := Nat.mul_le_mul_right _ (by omega)
            rw [Nat.add_mul, Nat.one_mul] at h2
            have h3 : 2 ^ (7 * (i + 1)) ≤ 2 ^ 63 := Nat.pow_le_pow_right (by decide) (by omega)
            unfold M64
            omega
        · rw [if_neg q2] at h
          have hacc2 : acc + b.toNat % 128 * 2 ^ (7 * i) < 2 ^ (7 * (i + 1)) := by
            rw [hp]
            have h3 : (b.toNat % 128 + 1) * 2 ^ (7 * i) ≤ 128 * 2 ^ (7 * i) := Nat.mul_le_mul_right _ (by omega)
            rw [Nat.add_mul, Nat.one_mul] at h3
            omega
          obtain ⟨y, rfl, rfl, hy, hlt⟩ := ih (i + 1) _ r x rest (by omega) hacc2 h
          have hy0 := hy (by omega)
          refine ⟨y * 128 + b.toNat % 128, ?_, ?_, fun _ => by omega, hlt⟩
          · rw [hp, Nat.add_mul, ← Nat.mul_assoc, Nat.mul_comm y]
            omega
          · rw [numF_high _ _ (by omega), show (y * 128 + b.toNat % 128) % 128 + 128 = b.toNat by omega, show (y * 128 + b.toNat % 128) / 128 = y by omega]
            simp
theorem numR_back {l : List UInt8} {x : Nat} {rest : List UInt8} (h : numR l 0 = (x, rest, 0)) : l = numB x ++ rest ∧ x < M64 := by
  unfold numR at h
  rw [if_pos rfl] at h
  obtain ⟨y, hy, hl, _, hx⟩ := readF_back 9 0 0 l x rest rfl (by decide) h
  simp at hy
  subst hy
  exact ⟨hl, hx⟩
theorem readF_err : ∀ (l : List UInt8) (i acc : Nat), (readF i acc l).2.2 ≠ 0 → (readF i acc l).1 = 0 ∧ (readF i acc l).2.1 = [] := by
  intro l
  induction l with
  | nil => intro i acc _; exact ⟨rfl, rfl⟩
  | cons b r ih =>
    intro i acc h
    unfold readF at h ⊢
    by_cases q : 9 < i ∨ (i = 9 ∧ 1 < b.toNat) ∨ (b.toNat = 0 ∧ 0 < i)
    · rw [if_pos q]; exact ⟨rfl, rfl⟩
    · rw [if_neg q] at h ⊢
      by_cases q2 : b.toNat < 128
      · rw [if_pos q2] at h; exact absurd rfl h
      · rw [if_neg q2] at h ⊢
        exact ih _ _ h

theorem numR_err (l : List UInt8) (e : Int) (h : (numR l e).2.2 ≠ 0) : (numR l e).1 = 0 := by
  unfold numR at h ⊢
  by_cases q : e = 0
  · rw [if_pos q] at h ⊢
    exact (readF_err l 0 0 h).1
  · rw [if_neg q]

set_option maxRecDepth 4000 in
set_option maxHeartbeats 2000000 in
theorem rnum_any (rb db : Nat) (l : List UInt8) (e : Int) (w : World) (h : Rd w rb db l e) :
    Calls Try.prog 20 #[.pointer (some ⟨rb, 0, none⟩)] w fun en w' => en = .returned (.int .u64 ((numR l e).1 : Int)) ∧ Left rb db (numR l e).2.1 (numR l e).2.2 w w' := by
  obtain ⟨r0, hr0⟩ : ∃ r, numR l e = r := ⟨_, rfl⟩
  rw [hr0]
  have HR0 := Lib.hid hr0
  have HR := Lib.hid h
  clear h hr0
  go_enter Try.func20, Try.ntmps20
  go_wp2_with fail
  go_loopw [3, 4, 5] (fun a s _ wr => ∃ (i acc : Nat) (m : List UInt8) (e1 : Int), s = .int .i64 ((7 * i : Nat) : Int) ∧ a = .int .u64 acc ∧ i ≤ 9 ∧ acc < 2 ^ (7 * i) ∧ (if e1 = 0 then readF i acc m else (0, m, e1)) = r0 ∧ Rd wr rb db m e1 ∧ Step [rb] w wr) (fun _ s _ _ => 71 - (intOf s).toNat)
  case atStart => exact ⟨0, 0, l, e, rfl, rfl, by omega, by decide, HR0.out, HR.out, Step.refl _ _⟩
  case round =>
    obtain ⟨i, acc, m, e1, rfl, rfl, hi, hacc, hr, hR, hs⟩ := hrel
    have HE := Lib.hid (rerr_any rb db _ _ _ hR)
    have HO := Lib.hid (rone_any rb db _ _ _ hR)
    have HR1 := Lib.hid hR
    have HS := Lib.hid hs
    have HA := Lib.hid hacc
    have HV := Lib.hid hr
    clear hR hs hacc hr
    by_cases he : ¬ e1 = 0
    · have p0 : (e1 == 0) = false := by simpa using he
      have hv := Lib.hid ((if_neg he).symm.trans HV.out)
      clear HV
      go_wp2_with fail
      refine HE.out.mono ?_
      rintro e w1 ⟨rfl, rfl⟩
      go_wp2_with fail
      go_ret
      rw [← hv.out]
      exact ⟨rfl, HR1.out, HS.out⟩
    replace he : e1 = 0 := Decidable.not_not.1 he
    subst he
    have HV2 := Lib.hid ((if_pos rfl).symm.trans HV.out)
    clear HV
    cases m with
    | nil =>
      have hv := HV2.out
      unfold readF at hv
      have hv2 := Lib.hid hv
      clear hv HV2
      have ho : oneR [] 0 = (0, [], 4) := rfl
      rw [ho] at HO
      go_wp2_with fail
      refine HE.out.mono ?_
      rintro e w1 ⟨rfl, rfl⟩
      go_wp2_with fail
      refine HO.out.mono ?_
      rintro e w2 ⟨rfl, hL⟩
      have HE2 := Lib.hid (rerr_any rb db _ _ _ hL.1)
      have HL := Lib.hid hL
      clear hL HE HO
      go_wp2_with fail
      refine HE2.out.mono ?_
      rintro e w3 ⟨rfl, rfl⟩
      go_wp2_with fail
      go_ret
      rw [← hv2.out]
      exact ⟨rfl, HL.out.1, HS.out.trans HL.out.2 (fun k hk => .inl hk)⟩
    | cons b t =>
      have ho : oneR (b :: t) 0 = (b, t, 0) := rfl
      rw [ho] at HO
      have hb := b.toNat_lt
      have hv := HV2.out
      unfold readF at hv
      have HV3 := Lib.hid hv
      clear hv HV2
      simp only at HO
      obtain ⟨y, hy⟩ : ∃ y, b.toNat = y := ⟨_, rfl⟩
      rw [hy] at HO HV3 hb
      have g1 : decide ((63 : Int) < 7 * (i : Int)) = false := by simp; omega
      have ha := and_127 y hb
      go_wp2_with fail
      refine HE.out.mono ?_
      rintro e w1 ⟨rfl, rfl⟩
      go_wp2_with fail
      refine HO.out.mono ?_
      rintro e w2 ⟨rfl, hL⟩
      have HE2 := Lib.hid (rerr_any rb db _ _ _ hL.1)
      have HF2 := Lib.hid (rfail_any rb db _ _ 2 _ hL.1)
      have HL := Lib.hid hL
      clear hL HE HO
      go_wp2_with fail
      refine HE2.out.mono ?_
      rintro e w3 ⟨rfl, rfl⟩
      by_cases q : 9 < i ∨ (i = 9 ∧ 1 < y) ∨ (y = 0 ∧ 0 < i)
      · have hv := Lib.hid ((if_pos q).symm.trans HV3.out)
        clear HV3
        rw [if_pos trivial, if_pos trivial] at HF2
        by_cases h9 : i = 9 ∧ 1 < y
        · have g2 : (7 * (i : Int) == 63) = true := by simp; omega
          have g3 : decide (1 < (y : Int)) = true := by simp; omega
          have Q := Lib.hid q
          have H9 := Lib.hid h9
          clear q h9
          go_wp2_with fail
          refine HF2.out.mono ?_
          rintro e w4 ⟨rfl, hL4⟩
          have HL4 := Lib.hid hL4
          clear hL4 HF2
          go_wp2_with fail
          go_ret
          rw [← hv.out]
          exact ⟨rfl, HL4.out.1, (HS.out.trans HL.out.2 (fun k hk => .inl hk)).trans HL4.out.2 (fun k hk => .inl hk)⟩
        · have h0 : y = 0 ∧ 0 < i := by omega
          have g4 : ((y : Int) == 0) = true := by simp; omega
          have g5 : decide ((0 : Int) < 7 * (i : Int)) = true := by simp; omega
          have g3 : decide (1 < (y : Int)) = false := by simp; omega
          have Q := Lib.hid q
          have H9 := Lib.hid h9
          have H0 := Lib.hid h0
          clear q h9 h0
          by_cases hi9 : i = 9
          · have g2 : (7 * (i : Int) == 63) = true := by simp; omega
            have HI := Lib.hid hi9
            clear hi9
            go_wp2_with fail
            refine HF2.out.mono ?_
            rintro e w4 ⟨rfl, hL4⟩
            have HL4 := Lib.hid hL4
            clear hL4 HF2
            go_wp2_with fail
            go_ret
            rw [← hv.out]
            exact ⟨rfl, HL4.out.1, (HS.out.trans HL.out.2 (fun k hk => .inl hk)).trans HL4.out.2 (fun k hk => .inl hk)⟩
          · have g2 : (7 * (i : Int) == 63) = false := by simp; omega
            go_wp2_with fail
            refine HF2.out.mono ?_
            rintro e w4 ⟨rfl, hL4⟩
            have HL4 := Lib.hid hL4
            clear hL4 HF2
            go_wp2_with fail
            go_ret
            rw [← hv.out]
            exact ⟨rfl, HL4.out.1, (HS.out.trans HL.out.2 (fun k hk => .inl hk)).trans HL4.out.2 (fun k hk => .inl hk)⟩
      · have HV4 := Lib.hid ((if_neg q).symm.trans HV3.out)
        clear HV3 HF2
        have hsum : acc + y % 128 * 2 ^ (7 * i) < 18446744073709551616 := by
          have h1 := HA.out
          by_cases hi9 : i = 9
          · subst hi9
            have hy1 : y % 128 ≤ 1 := by omega
            have h2 : y % 128 * 2 ^ (7 * 9) ≤ 1 * 2 ^ (7 * 9) := Nat.mul_le_mul_right _ hy1
            omega
          · have h2 : (y % 128 + 1) * 2 ^ (7 * i) ≤ 128 * 2 ^ (7 * i) := Nat.mul_le_mul_right _ (by omega)
            rw [Nat.add_mul, Nat.one_mul] at h2
            have h3 : 128 * 2 ^ (7 * i) = 2 ^ (7 * i + 7) := by rw [Nat.pow_add, Nat.mul_comm]
            have h4 : 2 ^ (7 * i + 7) ≤ 2 ^ 63 := Nat.pow_le_pow_right (by decide) (by omega)
            omega
        have hj := join_val' acc (y % 128) (7 * i) HA.out hsum
        have g6 : i = 9 → ¬ 1 < y := fun h h2 => q (.inr (.inl ⟨h, h2⟩))
        have g7 : y = 0 → i = 0 := fun h => by
          rcases Nat.eq_zero_or_pos i with h2 | h2
          · exact h2
          · exact absurd (.inr (.inr ⟨h, h2⟩)) q
        have G6 := Lib.hid g6
        have G7 := Lib.hid g7
        have Q := Lib.hid q
        have HSum := Lib.hid hsum
        clear q g6 g7 hsum
        by_cases h128 : y < 128
        · have hv := Lib.hid ((if_pos h128).symm.trans HV4.out)
          have hmod : y % 128 = y := by omega
          rw [hmod] at ha hj
          clear HV4
          by_cases hi9 : i = 9
          · have g2 : (7 * (i : Int) == 63) = true := by simp; omega
            have g3 : decide (1 < (y : Int)) = false := by have := G6.out hi9; simp; omega
            have g4 : ((y : Int) == 0) = false := by have := G7.out; simp; omega
            have HI := Lib.hid hi9
            clear hi9
            clear hmod
            have HB2 := Lib.hid hb
            have HY2 := Lib.hid hy
            clear hb hy ho
            go_wp2_with fail
            go_ret
            rw [← hv.out]
            exact ⟨ret_int rfl, HL.out.1, HS.out.trans HL.out.2 (fun k hk => .inl hk)⟩
          · have g2 : (7 * (i : Int) == 63) = false := by simp; omega
            by_cases hy0 : y = 0
            · have g4 : ((y : Int) == 0) = true := by simp; omega
              have g5 : decide ((0 : Int) < 7 * (i : Int)) = false := by have := G7.out hy0; simp; omega
              have HI := Lib.hid hi9
              have HY0 := Lib.hid hy0
              clear hi9 hy0
              go_wp2_with fail
              go_ret
              rw [← hv.out]
              exact ⟨ret_int rfl, HL.out.1, HS.out.trans HL.out.2 (fun k hk => .inl hk)⟩
            · have g4 : ((y : Int) == 0) = false := by simp; omega
              go_wp2_with fail
              go_ret
              rw [← hv.out]
              exact ⟨ret_int rfl, HL.out.1, HS.out.trans HL.out.2 (fun k hk => .inl hk)⟩
        · have hv := Lib.hid ((if_neg h128).symm.trans HV4.out)
          clear HV4
          have hi9 : i ≠ 9 := fun h => G6.out h (by omega)
          have g2 : (7 * (i : Int) == 63) = false := by simp; omega
          have g4 : ((y : Int) == 0) = false := by simp; omega
          have hacc2 : acc + y % 128 * 2 ^ (7 * i) < 2 ^ (7 * (i + 1)) := by
            have h1 := HA.out
            have e2 : 2 ^ (7 * (i + 1)) = 128 * 2 ^ (7 * i) := by rw [show 7 * (i + 1) = 7 * i + 7 by omega, Nat.pow_add, Nat.mul_comm]
            rw [e2]
            have h3 : (y % 128 + 1) * 2 ^ (7 * i) ≤ 128 * 2 ^ (7 * i) := Nat.mul_le_mul_right _ (by omega)
            rw [Nat.add_mul, Nat.one_mul] at h3
            omega
          have HA2 := Lib.hid hacc2
          clear hacc2
          go_wp2_with fail
          go_roundw
          case rel => exact ⟨i + 1, _, t, 0, by go_num, congrArg (Value.int .u64) hj, by omega, HA2.out, (if_pos rfl).trans hv.out, HL.out.1, HS.out.trans HL.out.2 (fun k hk => .inl hk)⟩
          case measure => simp [intOf]; omega
/-- Count: a number that is at most so great -/
def countR (most : Nat) (p : Nat × List UInt8 × Int) : Nat × List UInt8 × Int := if most < p.1 then (0, if p.2.2 = 0 then [] else p.2.1, if p.2.2 = 0 then 15 else p.2.2) else p

set_option maxHeartbeats 1000000 in
theorem rcount_any (rb db : Nat) (most : Nat) (l : List UInt8) (e : Int) (w : World) (hm : most ≤ 1000000) (h : Rd w rb db l e) :
    Calls Try.prog 37 #[.pointer (some ⟨rb, 0, none⟩), .int .i64 (most : Int)] w fun en w' => en = .returned (.int .i64 ((countR most (numR l e)).1 : Int)) ∧ Left rb db (countR most (numR l e)).2.1 (countR most (numR l e)).2.2 w w' := by
  have HN := Lib.hid (rnum_any rb db l e w h)
  clear h
  have herr := numR_err l e
  obtain ⟨⟨x, m, e1⟩, hp⟩ : ∃ p, numR l e = p := ⟨_, rfl⟩
  rw [hp] at HN herr ⊢
  clear hp
  have h0 : ¬ (most : Int) < 0 := by omega
  have e0 : IntKind.u64.wrap (most : Int) = (most : Int) := by rw [IntKind.wrap_u64, Int.emod_eq_of_lt (by omega) (by omega)]
  unfold countR
  by_cases q : most < x
  · have p1 : decide ((most : Int) < (x : Int)) = true := by simp; omega
    have he1 : e1 = 0 := by
      rcases Decidable.em (e1 = 0) with h | h
      · exact h
      · have h2 : x = 0 := herr h
        omega
    subst he1
    clear herr
    simp only [if_pos q]
    go_enter Try.func37, Try.ntmps37
    go_wp2_with fail
    refine HN.out.mono ?_
    rintro e w1 ⟨rfl, hL⟩
    have HF := Lib.hid (rfail_any rb db _ _ 15 w1 hL.1)
    have HL := Lib.hid hL
    clear hL HN
    go_wp2_with fail
    refine HF.out.mono ?_
    rintro e w2 ⟨rfl, hL2⟩
    have HL2 := Lib.hid (HL.out.trans hL2)
    clear hL2 HF
    go_wp2_with fail
    go_ret
    exact ⟨rfl, HL2.out⟩
  · have p1 : decide ((most : Int) < (x : Int)) = false := by simp; omega
    have e1 : IntKind.i64.wrap (x : Int) = (x : Int) := by rw [IntKind.wrap_i64]; omega
    clear herr
    simp only [if_neg q]
    go_enter Try.func37, Try.ntmps37
    go_wp2_with fail
    refine HN.out.mono ?_
    rintro e w1 ⟨rfl, hL⟩
    go_wp2_with fail
    go_ret
    exact ⟨rfl, hL⟩
end Go.Proofs.Ytdfkagpnfgmbeaa
