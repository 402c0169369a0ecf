/- Specs in plain Lean; unlike ones have unlike bytes. No program in sight. -/
import Derived.Test.YtdfkagpnfgmbeaaNumQ
namespace Go.Proofs.Ytdfkagpnfgmbeaa
set_option linter.unusedVariables false

/-- what a spec says -/
structure PS where
  nm : List UInt8
  tn : List UInt8
  pr : Int
  de : Int
  ds : List (List UInt8)
  ba : Int
  ca : Int
  at' : Int
  le : Int
  cr : List UInt8
  ct : Int
/-- it is little -/
structure FewS (s : PS) : Prop where
  nm : s.nm.length ≤ 60
  tn : s.tn.length ≤ 60
  ds : s.ds.length ≤ 20
  dl : ∀ d ∈ s.ds, d.length ≤ 60
  cr : s.cr.length ≤ 200
/-- or, less little -/
structure LitS (s : PS) : Prop where
  nm : s.nm.length ≤ 1000
  tn : s.tn.length ≤ 1000
  ds : s.ds.length ≤ 1000
  dl : ∀ d ∈ s.ds, d.length ≤ 1000
  cr : s.cr.length ≤ 1000
theorem FewS.lit {s : PS} (h : FewS s) : LitS s := ⟨Nat.le_trans h.nm (by decide), Nat.le_trans h.tn (by decide), Nat.le_trans h.ds (by decide), fun d hd => Nat.le_trans (h.dl d hd) (by decide), Nat.le_trans h.cr (by decide)⟩
/-- all its numbers are of 64 bits -/
structure WfS (s : PS) : Prop where
  pr : I64 s.pr
  de : I64 s.de
  ba : I64 s.ba
  ca : I64 s.ca
  at' : I64 s.at'
  le : I64 s.le
  ct : I64 s.ct
def headS (s : PS) : List UInt8 := txtB s.nm ++ txtB s.tn ++ intB s.pr ++ intB s.de ++ numB s.ds.length
def depsS (l : List (List UInt8)) : List UInt8 := l.flatMap txtB
def tailS (s : PS) : List UInt8 := intB s.ba ++ intB s.ca ++ intB s.at' ++ intB s.le ++ txtB s.cr ++ intB s.ct
def bytesS (s : PS) : List UInt8 := headS s ++ depsS s.ds ++ tailS s

theorem depsS_free : ∀ (a b : List (List UInt8)) (r s : List UInt8), a.length = b.length → (∀ d ∈ a, d.length < M64) → (∀ d ∈ b, d.length < M64) → depsS a ++ r = depsS b ++ s → a = b ∧ r = s
  | [], [], r, s, _, _, _, h => ⟨rfl, h⟩
  | [], _ :: _, r, s, h, _, _, _ => by simp at h
  | _ :: _, [], r, s, h, _, _, _ => by simp at h
  | x :: a, y :: b, r, s, hl, ha, hb, h => by
    simp only [depsS, List.flatMap_cons, List.append_assoc] at h
    obtain ⟨h1, h2⟩ := txtB_free (ha x (by simp)) (hb y (by simp)) h
    obtain ⟨h3, h4⟩ := depsS_free a b r s (by simpa using hl) (fun d hd => ha d (by simp [hd])) (fun d hd => hb d (by simp [hd])) h2
    exact ⟨by rw [h1, h3], h4⟩
theorem bytesS_inj {a b : PS} (fa : FewS a) (fb : FewS b) (wa : WfS a) (wb : WfS b) (h : bytesS a = bytesS b) : a = b := by
  have lt : ∀ {l : List UInt8}, l.length ≤ 200 → l.length < M64 := fun h => by unfold M64; omega
  unfold bytesS headS tailS at h
  simp only [List.append_assoc] at h
  obtain ⟨h1, h⟩ := txtB_free (lt (by have := fa.nm; omega)) (lt (by have := fb.nm; omega)) h
  obtain ⟨h2, h⟩ := txtB_free (lt (by have := fa.tn; omega)) (lt (by have := fb.tn; omega)) h
  obtain ⟨h3, h⟩ := intB_free wa.pr wb.pr h
  obtain ⟨h4, h⟩ := intB_free wa.de wb.de h
  obtain ⟨h5, h⟩ := numB_free (by have := fa.ds; unfold M64; omega) (by have := fb.ds; unfold M64; omega) h
  obtain ⟨h6, h⟩ := depsS_free _ _ _ _ h5 (fun d hd => lt (by have := fa.dl d hd; omega)) (fun d hd => lt (by have := fb.dl d hd; omega)) h
  obtain ⟨h7, h⟩ := intB_free wa.ba wb.ba h
  obtain ⟨h8, h⟩ := intB_free wa.ca wb.ca h
  obtain ⟨h9, h⟩ := intB_free wa.at' wb.at' h
  obtain ⟨h10, h⟩ := intB_free wa.le wb.le h
  obtain ⟨h11, h⟩ := txtB_free (lt fa.cr) (lt fb.cr) h
  obtain ⟨h12, h⟩ := intB_free (r := []) (s := []) wa.ct wb.ct (by simpa using h)
  cases a
  cases b
  simp_all
/-- are all fields the same? -/
def sameS (a b : PS) : Bool :=
  a.nm == b.nm && a.tn == b.tn && a.pr == b.pr && a.de == b.de && a.ds == b.ds && a.ba == b.ba && a.ca == b.ca && a.at' == b.at' && a.le == b.le && a.cr == b.cr && a.ct == b.ct
theorem sameS_iff (a b : PS) : sameS a b = true ↔ a = b := by
  cases a
  cases b
  simp [sameS, and_assoc]
theorem sameS_bytes {a b : PS} (fa : FewS a) (fb : FewS b) (wa : WfS a) (wb : WfS b) : sameS a b = (bytesS a == bytesS b) := by
  rw [Bool.eq_iff_iff, sameS_iff]
  simp only [beq_iff_eq]
  exact ⟨fun h => by rw [h], bytesS_inj fa fb wa wb⟩
theorem depsS_len : ∀ (l : List (List UInt8)), (∀ d ∈ l, d.length ≤ 60) → (depsS l).length ≤ 70 * l.length
  | [], _ => by simp [depsS]
  | x :: l, h => by
    have h1 := depsS_len l (fun d hd => h d (by simp [hd]))
    have h2 := txtB_len x
    have h3 := h x (by simp)
    simp only [depsS, List.flatMap_cons, List.length_append, List.length_cons] at h1 ⊢
    omega
end Go.Proofs.Ytdfkagpnfgmbeaa
