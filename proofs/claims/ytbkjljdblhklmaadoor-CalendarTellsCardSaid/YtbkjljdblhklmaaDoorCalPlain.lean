/- The calendar as plain functions on integers, and what is true of them. No program in sight. -/
import Derived.Test.YtbkjljdblhklmaaDoorBase
namespace Go.Proofs.YtbkjljdblhklmaaDoor
set_option linter.unusedVariables false

/-- has a year 366 days? -/
def leapB (y : Int) : Bool := decide (y % 4 = 0) && (decide (y % 100 ≠ 0) || decide (y % 400 = 0))
def lp (y : Int) : Int := if leapB y then 1 else 0
/-- how many days a month has -/
def lenI (y m : Int) : Int :=
  if m = 2 then 28 + lp y else if m = 4 ∨ m = 6 ∨ m = 9 ∨ m = 11 then 30 else if 1 ≤ m ∧ m ≤ 12 then 31 else 0

theorem leapB_iff (y : Int) : leapB y = true ↔ (y % 4 = 0 ∧ (y % 100 ≠ 0 ∨ y % 400 = 0)) := by simp [leapB]
theorem lp_cases (y : Int) : ((y % 4 = 0 ∧ (y % 100 ≠ 0 ∨ y % 400 = 0)) ∧ lp y = 1) ∨ (¬ (y % 4 = 0 ∧ (y % 100 ≠ 0 ∨ y % 400 = 0)) ∧ lp y = 0) := by
  have := leapB_iff y
  unfold lp
  by_cases h : leapB y = true
  · exact .inl ⟨this.1 h, by rw [if_pos h]⟩
  · exact .inr ⟨fun g => h (this.2 g), by rw [if_neg h]⟩

/-- days ahead of a year of an era, from March on -/
def sy (y : Int) : Int := 365 * y + y / 4 - y / 100
/-- days ahead of a month, from March on -/
def sm (m : Int) : Int := (153 * m + 2) / 5
def cYear (d : Int) : Int := (d - d / 1460 + d / 36524 - d / 146096) / 365
def cDoy (d : Int) : Int := d - sy (cYear d)
def cMon (q : Int) : Int := (5 * q + 2) / 153
/-- the year from March on, the day of that year, its month, of a day -/
def mY (n : Int) : Int := n / 146097 * 400 + cYear (n % 146097)
def mQ (n : Int) : Int := cDoy (n % 146097)
def mM (n : Int) : Int := cMon (mQ n)
/-- the year, month and day of a day -/
def yearOf (n : Int) : Int := if mM n < 10 then mY n else mY n + 1
def monOf (n : Int) : Int := if mM n < 10 then mM n + 3 else mM n - 9
def dayOf (n : Int) : Int := mQ n - sm (mM n) + 1

/-- the day of a date -/
def num (y m d : Int) : Int :=
  let y' := if m ≤ 2 then y - 1 else y
  let m' := if m ≤ 2 then m + 9 else m - 3
  y' / 400 * 146097 + sy (y' % 400) + sm m' + d - 1

theorem cYear_is (d : Int) (h0 : 0 ≤ d) (h1 : d < 146097) :
    0 ≤ cYear d ∧ cYear d ≤ 399 ∧ sy (cYear d) ≤ d ∧ (d < sy (cYear d + 1) ∨ (cYear d = 399 ∧ d = 146096)) := by
  unfold cYear sy
  generalize hb : (d - d / 1460 + d / 36524 - d / 146096) / 365 = b
  by_cases hh : d = 146096
  · subst hh; omega
  have e4 : d / 146096 = 0 := by omega
  rw [e4] at hb
  obtain ⟨g, r, hg, hr, hg0, hr0, hr1⟩ : ∃ g r : Int, d / 36524 = g ∧ d = 36524 * g + r ∧ 0 ≤ g ∧ 0 ≤ r ∧ r < 36524 := ⟨d / 36524, d % 36524, rfl, by omega, by omega, by omega, by omega⟩
  have hg3 : g ≤ 3 := by omega
  rw [hg] at hb
  -- within a century: b = 100 g + b'
  obtain ⟨f, s, hf, hs, hs0, hs1⟩ : ∃ f s : Int, r / 1461 = f ∧ r = 1461 * f + s ∧ 0 ≤ s ∧ s < 1461 := ⟨r / 1461, r % 1461, rfl, by omega, by omega, by omega⟩
  have hf1 : f ≤ 24 := by omega
  have hf0 : 0 ≤ f := by omega
  have hd : d / 1460 = 25 * g + f + (if s + f + 24 * g ≥ 1460 then 1 else 0) := by
    split
    · omega
    · omega
  obtain ⟨ρ, hρ, hρ0, hρ1⟩ : ∃ ρ : Int, b = 100 * g + 4 * f + ρ ∧ 0 ≤ ρ ∧ ρ ≤ 3 := by
    refine ⟨b - 100 * g - 4 * f, by omega, ?_, ?_⟩
    · rw [hd] at hb; split at hb <;> omega
    · rw [hd] at hb; split at hb <;> omega
  have hb4 : b / 4 = 25 * g + f := by omega
  have hb100 : b / 100 = g := by omega
  have hk : 365 * ρ ≤ s ∧ (s < 365 * (ρ + 1) ∨ (ρ = 3 ∧ s = 1460)) := by
    rw [hd] at hb
    split at hb <;> omega
  have hc : ρ = 0 ∨ ρ = 1 ∨ ρ = 2 ∨ (ρ = 3 ∧ f ≤ 23) ∨ (ρ = 3 ∧ f = 24) := by omega
  clear hd hb hg hf
  refine ⟨by omega, by omega, by omega, ?_⟩
  rcases hc with rfl | rfl | rfl | ⟨rfl, hf2⟩ | ⟨rfl, hf2⟩
  · have e1 : (b + 1) / 4 = 25 * g + f := by omega
    have e2 : (b + 1) / 100 = g := by omega
    omega
  · have e1 : (b + 1) / 4 = 25 * g + f := by omega
    have e2 : (b + 1) / 100 = g := by omega
    omega
  · have e1 : (b + 1) / 4 = 25 * g + f := by omega
    have e2 : (b + 1) / 100 = g := by omega
    omega
  · have e1 : (b + 1) / 4 = 25 * g + f + 1 := by omega
    have e2 : (b + 1) / 100 = g := by omega
    omega
  · have e1 : (b + 1) / 4 = 25 * g + f + 1 := by omega
    have e2 : (b + 1) / 100 = g + 1 := by omega
    omega

theorem sy_next (y : Int) : (sy (y + 1) = sy y + 366 ∧ (y + 1) % 4 = 0 ∧ (y + 1) % 100 ≠ 0) ∨ (sy (y + 1) = sy y + 365 ∧ ¬ ((y + 1) % 4 = 0 ∧ (y + 1) % 100 ≠ 0)) := by
  unfold sy
  by_cases h4 : (y + 1) % 4 = 0
  · have e4 : (y + 1) / 4 = y / 4 + 1 := by omega
    by_cases h100 : (y + 1) % 100 = 0
    · have e100 : (y + 1) / 100 = y / 100 + 1 := by omega
      exact .inr ⟨by omega, fun h => h.2 h100⟩
    · have e100 : (y + 1) / 100 = y / 100 := by omega
      exact .inl ⟨by omega, h4, h100⟩
  · have e4 : (y + 1) / 4 = y / 4 := by omega
    have e100 : (y + 1) / 100 = y / 100 := by omega
    exact .inr ⟨by omega, fun h => h4 h.1⟩

theorem sy_mono {a b : Int} (h : a ≤ b) : sy a ≤ sy b := by
  unfold sy
  omega

theorem doy_is (d : Int) (h0 : 0 ≤ d) (h1 : d < 146097) :
    0 ≤ cDoy d ∧ cDoy d ≤ 365 ∧ (cDoy d = 365 → (cYear d + 1) % 4 = 0 ∧ ((cYear d + 1) % 100 ≠ 0 ∨ cYear d = 399)) := by
  obtain ⟨a, b, c, e⟩ := cYear_is d h0 h1
  have hs := sy_next (cYear d)
  have h399 : sy 399 = 145731 := rfl
  unfold cDoy
  generalize cYear d = y at *
  by_cases hy : y = 399
  · subst hy
    have h400 : sy (399 + 1) = 146096 := rfl
    omega
  · omega

theorem mon_is (q : Int) (h0 : 0 ≤ q) (h1 : q ≤ 365) : 0 ≤ cMon q ∧ cMon q ≤ 11 ∧ sm (cMon q) ≤ q ∧ q < sm (cMon q + 1) := by
  unfold cMon sm
  omega

theorem mQ_is (n : Int) : 0 ≤ mQ n ∧ mQ n ≤ 365 := by
  have := doy_is (n % 146097) (by omega) (by omega)
  exact ⟨this.1, this.2.1⟩

theorem mM_is (n : Int) : 0 ≤ mM n ∧ mM n ≤ 11 ∧ sm (mM n) ≤ mQ n ∧ mQ n < sm (mM n + 1) := by
  have := mQ_is n
  exact mon_is _ this.1 this.2

/-- what is known of a day's year, month and day, in numbers that omega can use -/
theorem civil_facts (n : Int) : ∃ e y q m : Int, n = 146097 * e + sy y + q ∧ 0 ≤ y ∧ y ≤ 399 ∧ 0 ≤ q ∧ q ≤ 365 ∧ (q = 365 → (y + 1) % 4 = 0 ∧ ((y + 1) % 100 ≠ 0 ∨ y = 399)) ∧
    0 ≤ m ∧ m ≤ 11 ∧ (153 * m + 2) / 5 ≤ q ∧ q < (153 * (m + 1) + 2) / 5 ∧ mY n = e * 400 + y ∧ mQ n = q ∧ mM n = m := by
  have hd := doy_is (n % 146097) (by omega) (by omega)
  have hy := cYear_is (n % 146097) (by omega) (by omega)
  have hm := mM_is n
  refine ⟨n / 146097, cYear (n % 146097), mQ n, mM n, ?_, hy.1, hy.2.1, hd.1, hd.2.1, hd.2.2, hm.1, hm.2.1, hm.2.2.1, hm.2.2.2, rfl, rfl, rfl⟩
  unfold mQ cDoy
  omega

/-- a day has one era, year and day of the year -/
theorem era_unique {e y q e' y' q' : Int} (h : 146097 * e + sy y + q = 146097 * e' + sy y' + q') (y0 : 0 ≤ y) (y1 : y ≤ 399) (q0 : 0 ≤ q) (q1 : q ≤ 365) (hq : q = 365 → (y + 1) % 4 = 0 ∧ ((y + 1) % 100 ≠ 0 ∨ y = 399))
    (y0' : 0 ≤ y') (y1' : y' ≤ 399) (q0' : 0 ≤ q') (q1' : q' ≤ 365) (hq' : q' = 365 → (y' + 1) % 4 = 0 ∧ ((y' + 1) % 100 ≠ 0 ∨ y' = 399)) : e = e' ∧ y = y' ∧ q = q' := by
  have hs := sy_next y
  have hs' := sy_next y'
  have h0 : sy 0 = 0 := rfl
  have h399 : sy 399 = 145731 := rfl
  have m1 := sy_mono y0
  have m2 := sy_mono y0'
  have m3 := sy_mono y1
  have m4 := sy_mono y1'
  obtain rfl : e = e' := by omega
  rcases Int.lt_trichotomy y y' with hy | hy | hy
  · have := sy_mono (show y + 1 ≤ y' by omega)
    omega
  · subst hy; omega
  · have := sy_mono (show y' + 1 ≤ y by omega)
    omega

theorem civil_valid (n : Int) : 1 ≤ monOf n ∧ monOf n ≤ 12 ∧ 1 ≤ dayOf n ∧ dayOf n ≤ lenI (yearOf n) (monOf n) ∧ dayOf n ≤ 31 := by
  obtain ⟨e, y, q, m, hn, y0, y1, q0, q1, hq, m0, m1, s0, s1, eY, eQ, eM⟩ := civil_facts n
  unfold monOf dayOf yearOf
  rw [eQ, eM, eY]
  have hl := lp_cases (e * 400 + y + 1)
  have hc : m = 0 ∨ m = 1 ∨ m = 2 ∨ m = 3 ∨ m = 4 ∨ m = 5 ∨ m = 6 ∨ m = 7 ∨ m = 8 ∨ m = 9 ∨ m = 10 ∨ m = 11 := by omega
  rcases hc with rfl | rfl | rfl | rfl | rfl | rfl | rfl | rfl | rfl | rfl | rfl | rfl
  all_goals
    simp [sm, lenI] at *
    omega

theorem num_civil (n : Int) : num (yearOf n) (monOf n) (dayOf n) = n := by
  obtain ⟨e, y, q, m, hn, y0, y1, q0, q1, hq, m0, m1, s0, s1, eY, eQ, eM⟩ := civil_facts n
  unfold num monOf dayOf yearOf
  rw [eQ, eM, eY]
  have h1 : (e * 400 + y) / 400 = e := by omega
  have h2 : (e * 400 + y) % 400 = y := by omega
  by_cases h : m < 10
  · simp only [if_pos h]
    rw [if_neg (by omega), if_neg (by omega), h1, h2, show m + 3 - 3 = m by omega]
    omega
  · simp only [if_neg h]
    rw [if_pos (by omega), if_pos (by omega), show e * 400 + y + 1 - 1 = e * 400 + y by omega, h1, h2, show m - 9 + 9 = m by omega]
    omega

/-- a date that may be, in numbers that omega can use -/
theorem num_facts (Y M D : Int) (hM : 1 ≤ M ∧ M ≤ 12) (hD : 1 ≤ D ∧ D ≤ lenI Y M) : ∃ e y q m : Int, num Y M D = 146097 * e + sy y + q ∧ 0 ≤ y ∧ y ≤ 399 ∧ 0 ≤ q ∧ q ≤ 365 ∧
    (q = 365 → (y + 1) % 4 = 0 ∧ ((y + 1) % 100 ≠ 0 ∨ y = 399)) ∧ 0 ≤ m ∧ m ≤ 11 ∧ q = (153 * m + 2) / 5 + D - 1 ∧ q < (153 * (m + 1) + 2) / 5 ∧
    ((M ≤ 2 ∧ m = M + 9 ∧ e * 400 + y = Y - 1) ∨ (¬ M ≤ 2 ∧ m = M - 3 ∧ e * 400 + y = Y)) := by
  have hl := lp_cases Y
  have hc : M = 1 ∨ M = 2 ∨ M = 3 ∨ M = 4 ∨ M = 5 ∨ M = 6 ∨ M = 7 ∨ M = 8 ∨ M = 9 ∨ M = 10 ∨ M = 11 ∨ M = 12 := by omega
  by_cases h : M ≤ 2
  · refine ⟨(Y - 1) / 400, (Y - 1) % 400, sm (M + 9) + D - 1, M + 9, ?_⟩
    unfold num
    simp only [if_pos h]
    rcases hc with rfl | rfl | rfl | rfl | rfl | rfl | rfl | rfl | rfl | rfl | rfl | rfl
    all_goals first | omega | (simp [sm, lenI] at *; omega)
  · refine ⟨Y / 400, Y % 400, sm (M - 3) + D - 1, M - 3, ?_⟩
    unfold num
    simp only [if_neg h]
    rcases hc with rfl | rfl | rfl | rfl | rfl | rfl | rfl | rfl | rfl | rfl | rfl | rfl
    all_goals first | omega | (simp [sm, lenI] at *; omega)

theorem civil_num (Y M D : Int) (hM : 1 ≤ M ∧ M ≤ 12) (hD : 1 ≤ D ∧ D ≤ lenI Y M) : yearOf (num Y M D) = Y ∧ monOf (num Y M D) = M ∧ dayOf (num Y M D) = D := by
  obtain ⟨e, y, q, m, hn, y0, y1, q0, q1, hq, m0, m1, s0, s1, hor⟩ := num_facts Y M D hM hD
  obtain ⟨e', y', q', m', hn', y0', y1', q0', q1', hq', m0', m1', s0', s1', eY, eQ, eM⟩ := civil_facts (num Y M D)
  obtain ⟨rfl, rfl, rfl⟩ := era_unique (hn.symm.trans hn') y0 y1 q0 q1 hq y0' y1' q0' q1' hq'
  clear hn hn' hq hq'
  have hmm : m = m' := by omega
  subst hmm
  unfold yearOf monOf dayOf
  rw [eY, eQ, eM]
  unfold sm
  rcases hor with ⟨h1, h2, h3⟩ | ⟨h1, h2, h3⟩
  · rw [if_neg (by omega), if_neg (by omega)]; omega
  · rw [if_pos (by omega), if_pos (by omega)]; omega

/-- of two days the later one's date is later -/
theorem civil_lt (a b : Int) (h : a < b) : yearOf a < yearOf b ∨ (yearOf a = yearOf b ∧ (monOf a < monOf b ∨ (monOf a = monOf b ∧ dayOf a < dayOf b))) := by
  obtain ⟨e, y, q, m, hn, y0, y1, q0, q1, hq, m0, m1, s0, s1, eY, eQ, eM⟩ := civil_facts a
  obtain ⟨e', y', q', m', hn', y0', y1', q0', q1', hq', m0', m1', s0', s1', eY', eQ', eM'⟩ := civil_facts b
  have hy : e * 400 + y < e' * 400 + y' ∨ (e * 400 + y = e' * 400 + y' ∧ q < q') := by
    have hs := sy_next y
    have hs' := sy_next y'
    have h0 : sy 0 = 0 := rfl
    have h399 : sy 399 = 145731 := rfl
    have m1 := sy_mono y0
    have m2 := sy_mono y0'
    have m3 := sy_mono y1
    have m4 := sy_mono y1'
    have he : e ≤ e' := by omega
    by_cases hee : e = e'
    · subst hee
      rcases Int.lt_trichotomy y y' with hy | hy | hy
      · exact .inl (by omega)
      · subst hy; exact .inr ⟨rfl, by omega⟩
      · have := sy_mono (show y' + 1 ≤ y by omega)
        omega
    · exact .inl (by omega)
  have hm : q < q' → m ≤ m' := by omega
  unfold yearOf monOf dayOf
  rw [eY, eQ, eM, eY', eQ', eM']
  unfold sm
  clear hn hn' eY eQ eM eY' eQ' eM' hq hq'
  rcases hy with hy | ⟨hy, hqq⟩
  · split <;> split <;> omega
  · have := hm hqq
    split <;> split <;> omega

theorem civil_era (n : Int) : yearOf (n + 146097) = yearOf n + 400 ∧ monOf (n + 146097) = monOf n ∧ dayOf (n + 146097) = dayOf n := by
  have h1 : (n + 146097) / 146097 = n / 146097 + 1 := by omega
  have h2 : (n + 146097) % 146097 = n % 146097 := by omega
  have hq : mQ (n + 146097) = mQ n := by unfold mQ; rw [h2]
  have hm : mM (n + 146097) = mM n := by unfold mM; rw [hq]
  have hy : mY (n + 146097) = mY n + 400 := by unfold mY; rw [h1, h2]; omega
  unfold yearOf monOf dayOf
  rw [hq, hm, hy]
  refine ⟨?_, rfl, rfl⟩
  split <;> omega

theorem year_bounds (n : Int) (h0 : 0 ≤ n) (h1 : n ≤ 1000000000) : 0 ≤ yearOf n ∧ yearOf n ≤ 3000000 := by
  have h := cYear_is (n % 146097) (by omega) (by omega)
  unfold yearOf mY
  split <;> omega

theorem num_feb (Y : Int) : num Y 3 1 = num Y 2 (28 + lp Y) + 1 := by
  have hl := lp_cases Y
  have hs := sy_next ((Y - 1) % 400)
  have h400 : sy (399 + 1) = 146096 := rfl
  have h399 : sy 399 = 145731 := rfl
  have h0 : sy 0 = 0 := rfl
  simp [num, sm]
  by_cases h : (Y - 1) % 400 = 399
  · have e1 : Y / 400 = (Y - 1) / 400 + 1 := by omega
    have e2 : Y % 400 = 0 := by omega
    rw [e1, e2, h]
    omega
  · have e1 : Y / 400 = (Y - 1) / 400 := by omega
    have e2 : Y % 400 = (Y - 1) % 400 + 1 := by omega
    rw [e1, e2]
    omega

theorem num_month (Y M : Int) (h1 : 1 ≤ M) (h2 : M ≤ 11) : num Y (M + 1) 1 = num Y M (lenI Y M) + 1 := by
  have hc : M = 1 ∨ M = 2 ∨ M = 3 ∨ M = 4 ∨ M = 5 ∨ M = 6 ∨ M = 7 ∨ M = 8 ∨ M = 9 ∨ M = 10 ∨ M = 11 := by omega
  rcases hc with rfl | rfl | rfl | rfl | rfl | rfl | rfl | rfl | rfl | rfl | rfl
  all_goals first | exact num_feb Y | (simp [num, sm, lenI]; done) | (simp [num, sm, lenI]; omega)

/-- the date behind a day -/
theorem civil_next (n : Int) :
    (dayOf n < lenI (yearOf n) (monOf n) → yearOf (n + 1) = yearOf n ∧ monOf (n + 1) = monOf n ∧ dayOf (n + 1) = dayOf n + 1) ∧
    (¬ dayOf n < lenI (yearOf n) (monOf n) → monOf n < 12 → yearOf (n + 1) = yearOf n ∧ monOf (n + 1) = monOf n + 1 ∧ dayOf (n + 1) = 1) ∧
    (¬ dayOf n < lenI (yearOf n) (monOf n) → ¬ monOf n < 12 → yearOf (n + 1) = yearOf n + 1 ∧ monOf (n + 1) = 1 ∧ dayOf (n + 1) = 1) := by
  obtain ⟨m1, m2, d1, d2, d3⟩ := civil_valid n
  have hn := num_civil n
  generalize yearOf n = Y at *
  generalize monOf n = M at *
  generalize dayOf n = D at *
  refine ⟨fun h => ?_, fun h h' => ?_, fun h h' => ?_⟩
  · have e : num Y M (D + 1) = n + 1 := by unfold num at *; simp only at *; omega
    rw [← e]
    exact civil_num Y M (D + 1) ⟨m1, m2⟩ ⟨by omega, by omega⟩
  · have hlen : 1 ≤ lenI Y (M + 1) := by unfold lenI; have := lp_cases Y; split <;> (try split) <;> (try split) <;> omega
    have e : num Y (M + 1) 1 = n + 1 := by
      rw [← hn]
      have hD : D = lenI Y M := by omega
      rw [hD]
      exact num_month Y M m1 (by omega)
    rw [← e]
    exact civil_num Y (M + 1) 1 ⟨by omega, by omega⟩ ⟨by omega, hlen⟩
  · have hM : M = 12 := by omega
    subst hM
    have e : num (Y + 1) 1 1 = n + 1 := by
      rw [← hn]
      have hD : D = 31 := by have : lenI Y 12 = 31 := by simp [lenI]
                             omega
      rw [hD]
      simp [num, sm]
      omega
    rw [← e]
    exact civil_num (Y + 1) 1 1 ⟨by omega, by omega⟩ ⟨by omega, by simp [lenI]⟩
end Go.Proofs.YtbkjljdblhklmaaDoor
