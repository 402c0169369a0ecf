/- frame: the walk of Good; the law's example. -/
import Derived.Test.YtkogchmnpffiaaaFrameC
namespace Go.Proofs.Ytkogchmnpffiaaa
set_option linter.unusedVariables false
open Go.RowKit

theorem nextR_ok {s : Nat} {l : List UInt8} {k : UInt8} {d : List UInt8} {n t : Nat} (h : nextR s l = .ok k d n t) : 0 < n ∧ n ≤ l.length ∧ t < 2 ^ 32 := by
  unfold nextR at h
  split at h
  · cases h
  · split at h
    · cases h
    · simp only at h
      split at h
      · cases h
      · split at h
        · cases h
        · split at h
          · next h1 h2 h3 h4 h5 =>
            simp only [Nx.ok.injEq] at h
            obtain ⟨-, -, rfl, rfl⟩ := h
            have := countR_rest 1024 (l.drop 2)
            rw [List.length_drop] at this
            exact ⟨by omega, by omega, moreN_lt _ _⟩
          · cases h
theorem nextR_bad {s : Nat} {l : List UInt8} {e : Int} (h : nextR s l = .bad e) : e ≠ 0 := by
  unfold nextR at h
  split at h
  · cases h; decide
  · split at h
    · cases h; decide
    · simp only at h
      split at h
      · next h1 => cases h; exact h1
      · split at h
        · cases h; decide
        · split at h
          · cases h
          · cases h; decide
theorem goodF_more : ∀ (f g s : Nat) (l : List UInt8), l.length < f → l.length < g → goodF f s l = goodF g s l := by
  intro f
  induction f with
  | zero => intro g s l h; omega
  | succ f ih =>
    intro g s l h hg
    obtain ⟨g, rfl⟩ : ∃ k, g = k + 1 := ⟨g - 1, by omega⟩
    unfold goodF
    cases hn : nextR s l with
    | bad e => rfl
    | ok k d n t =>
      obtain ⟨h0, h1, -⟩ := nextR_ok hn
      have hd : (l.drop n).length < l.length := by rw [List.length_drop]; omega
      simp only
      rw [ih g t (l.drop n) (by omega) (by omega)]
/-- Good: how many bytes the chain has, and the last sum -/
def goodR (s : Nat) (l : List UInt8) : Nat × Nat := goodF (l.length + 1) s l
theorem goodR_bad {s : Nat} {l : List UInt8} {e : Int} (h : nextR s l = .bad e) : goodR s l = (0, s) := by
  unfold goodR goodF
  rw [h]
theorem goodR_ok {s : Nat} {l : List UInt8} {k : UInt8} {d : List UInt8} {n t : Nat} (h : nextR s l = .ok k d n t) : goodR s l = ((goodR t (l.drop n)).1 + n, (goodR t (l.drop n)).2) := by
  have h2 : goodR s l = ((goodF l.length t (l.drop n)).1 + n, (goodF l.length t (l.drop n)).2) := by
    unfold goodR
    rw [goodF]
    rw [h]
  obtain ⟨h0, h1, -⟩ := nextR_ok h
  rw [h2, goodF_more l.length ((l.drop n).length + 1) t (l.drop n) (by rw [List.length_drop]; omega) (by omega)]
  rfl

set_option maxHeartbeats 2000000 in
theorem good_any (s : Nat) (a : Option Addr) (cap : Nat) (l : List UInt8) (w : World) (hs : s < 4294967296) (hS : SlB w a l cap) (hlen : l.length ≤ 1000000) :
    Calls Try.prog 9 #[.int .u32 (s : Int), .slice a l.length cap] w fun e w' => e = .returned (.tuple #[.int .i64 ((goodR s l).1 : Int), .int .u32 ((goodR s l).2 : Int)]) ∧ Step [] w w' := by
  obtain ⟨⟨r1, r2⟩, hr⟩ : ∃ p, goodR s l = p := ⟨_, rfl⟩
  rw [hr]
  have HR := Lib.hid hr
  have HS0 := Lib.hid hS
  clear hr hS
  obtain ⟨L, hL⟩ : ∃ L, l.length = L := ⟨_, rfl⟩
  rw [hL] at hlen ⊢
  have HL := Lib.hid hL
  clear hL
  go_enter Try.func9, Try.ntmps9
  go_wp2_with fail
  go_loopw [0, 6] (fun sd j wr => ∃ (at' t : Nat), at' ≤ L ∧ t < 4294967296 ∧ sd = .int .u32 (t : Int) ∧ j = .int .i64 (at' : Int) ∧ (goodR t (l.drop at')).1 + at' = r1 ∧ (goodR t (l.drop at')).2 = r2 ∧ Step [] w wr) (fun _ j _ => L - (intOf j).toNat)
  case atStart => exact ⟨0, s, by omega, hs, rfl, rfl, by rw [List.drop_zero, HR.out]; rfl, by rw [List.drop_zero, HR.out], Step.refl _ _⟩
  case round =>
    obtain ⟨p, t, hp, ht, rfl, rfl, h1, h2, hst⟩ := hrel
    have H1 := Lib.hid h1
    have H2 := Lib.hid h2
    have HS := Lib.hid hst
    clear h1 h2 hst
    have hLl := HL.out
    obtain ⟨a2, hcut, hsl2, hbk2⟩ := (HS0.out.step HS.out (by simp)).cutLow (P := Try.prog) 23 5 Try.underlying23 Try.sizeB p (by omega)
    rw [hLl] at hcut
    have HC := Lib.hid (next_any t a2 (cap - p) (l.drop p) wr ht hsl2 (by rw [List.length_drop]; omega))
    obtain ⟨r, hr⟩ : ∃ r, nextR t (l.drop p) = r := ⟨_, rfl⟩
    rw [hr] at HC
    have hdl : (l.drop p).length = L - p := by rw [List.length_drop, hLl]
    obtain ⟨D, hD⟩ : ∃ D, l.drop p = D := ⟨_, rfl⟩
    rw [hD] at hcut HC H1 H2 hr hdl
    have HD := Lib.hid hD
    have hdm : D.length ≤ L := by omega
    have HDL := Lib.hid hdl
    clear hsl2 hbk2 hD hLl hdl
    have p0 : (0 : Int) ≤ (p : Int) := by omega
    cases r with
    | bad e =>
      have hg := goodR_bad hr
      have he := nextR_bad hr
      have h1 := H1.out
      have h2 := H2.out
      rw [hg] at h1 h2
      simp only [Nat.zero_add] at h1 h2
      subst h1
      subst h2
      have pe : (e == 0) = false := by simpa using he
      clear hr hg H1 H2 HR
      go_wp2_with fail
      refine HC.out.mono ?_
      rintro en w1 ⟨rfl, hs1⟩
      have HS1 := Lib.hid (HS.out.then hs1 (by simp))
      clear hs1 HC
      go_wp2_with fail
      go_ret2
      exact ⟨rfl, HS1.out.alloc _⟩
    | ok k d n t2 =>
      have hg := goodR_ok hr
      obtain ⟨hn0, hnl, ht2⟩ := nextR_ok hr
      rw [hg] at H1 H2
      simp only at H1 H2
      have hpn : p + n ≤ L := by have := HDL.out; omega
      clear hr hg HR
      have e1 : IntKind.i64.wrap ((p : Int) + (n : Int)) = (p : Int) + (n : Int) := by rw [IntKind.wrap_i64]; omega
      have hdd : D.drop n = l.drop (p + n) := by rw [← HD.out, List.drop_drop]
      rw [hdd] at H1 H2
      clear hdd
      go_wp2_with fail
      refine HC.out.mono ?_
      rintro en w1 ⟨⟨v, rfl, hown⟩, hs1⟩
      obtain ⟨g, cg, rfl, -⟩ := owns_bytes hown
      have HS1 := Lib.hid (HS.out.then hs1 (by simp))
      clear hs1 HC hown
      go_wp2_with fail
      go_roundw
      case rel => exact ⟨p + n, t2, hpn, by omega, rfl, by go_num, by have := H1.out; omega, H2.out, HS1.out.alloc _⟩
      case measure => simp [intOf]; omega
end Go.Proofs.Ytkogchmnpffiaaa
