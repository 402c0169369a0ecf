/- Commands and requests: what they say, and their bytes. Unlike ones have unlike bytes. -/
import Derived.Test.YtdfkagpnfgmbeaaSqM
namespace Go.Proofs.Ytdfkagpnfgmbeaa
set_option linter.unusedVariables false
open Go.RowKit

structure PC where
  kd : Int
  nm : List UInt8
  wk : List UInt8
  tk : Nat
  vl : Int
  sp : PS
structure PQ where
  cl : Nat
  no : Nat
  c : PC
/-- it is little -/
structure LitC (c : PC) : Prop where
  nm : c.nm.length ≤ 1000
  wk : c.wk.length ≤ 1000
  sp : LitS c.sp
/-- its numbers are such -/
structure WfC (c : PC) : Prop where
  kd : I64 c.kd
  tk : c.tk < M64
  vl : I64 c.vl
  sp : WfS c.sp
/-- may it be a kind? -/
def okK (k : Int) : Prop := 0 ≤ k ∧ k ≤ 9
/-- the bytes of a command's fields -/
def fieldsB (c : PC) : List UInt8 :=
  if c.kd = 1 then bytesS c.sp
  else if c.kd = 2 then txtB c.wk
  else if c.kd = 3 ∨ c.kd = 5 then txtB c.nm ++ numB c.tk
  else if c.kd = 4 then txtB c.nm ++ (numB c.tk ++ intB c.vl)
  else if c.kd = 6 ∨ c.kd = 7 ∨ c.kd = 8 then txtB c.nm
  else if c.kd = 9 then intB c.vl
  else []
def cmdB (c : PC) : List UInt8 := numB c.kd.toNat ++ fieldsB c
def reqB (q : PQ) : List UInt8 := numB q.cl ++ (numB q.no ++ cmdB q.c)
/-- with the fields that its kind has -/
def onlyC (c : PC) : PC :=
  if c.kd = 1 then ⟨c.kd, [], [], 0, 0, c.sp⟩
  else if c.kd = 2 then ⟨c.kd, [], c.wk, 0, 0, ps0⟩
  else if c.kd = 3 ∨ c.kd = 5 then ⟨c.kd, c.nm, [], c.tk, 0, ps0⟩
  else if c.kd = 4 then ⟨c.kd, c.nm, [], c.tk, c.vl, ps0⟩
  else if c.kd = 6 ∨ c.kd = 7 ∨ c.kd = 8 then ⟨c.kd, c.nm, [], 0, 0, ps0⟩
  else if c.kd = 9 then ⟨c.kd, [], [], 0, c.vl, ps0⟩
  else ⟨c.kd, [], [], 0, 0, ps0⟩
/-- are commands the same, field by field? -/
def sameC (a b : PC) : Bool := decide (a.kd = b.kd) && decide (a.nm = b.nm) && decide (a.wk = b.wk) && decide (a.tk = b.tk) && decide (a.vl = b.vl) && decide (bytesS a.sp = bytesS b.sp)
theorem sameC_refl (a : PC) : sameC a a = true := by simp [sameC]

theorem kinds {k : Int} (h : okK k) : k = 0 ∨ k = 1 ∨ k = 2 ∨ k = 3 ∨ k = 4 ∨ k = 5 ∨ k = 6 ∨ k = 7 ∨ k = 8 ∨ k = 9 := by unfold okK at h; omega

theorem fields_same {a b : PC} (ha : okK a.kd) (hk : a.kd = b.kd) (la : LitC a) (lb : LitC b) (wa : WfC a) (wb : WfC b) : fieldsB a = fieldsB b ↔ sameC (onlyC a) (onlyC b) = true := by
  have lt : ∀ {l : List UInt8}, l.length ≤ 1000 → l.length < M64 := fun h => by unfold M64; omega
  have tx : ∀ {x y : List UInt8}, x.length ≤ 1000 → y.length ≤ 1000 → (txtB x = txtB y ↔ x = y) := fun hx hy => ⟨fun h => (txtB_free (r := []) (s := []) (lt hx) (lt hy) (by simpa using h)).1, fun h => by rw [h]⟩
  have nu : ∀ {x y : Nat}, x < M64 → y < M64 → (numB x = numB y ↔ x = y) := fun hx hy => ⟨fun h => (numB_free (r := []) (s := []) hx hy (by simpa using h)).1, fun h => by rw [h]⟩
  have it : ∀ {x y : Int}, I64 x → I64 y → (intB x = intB y ↔ x = y) := fun hx hy => ⟨fun h => (intB_free (r := []) (s := []) hx hy (by simpa using h)).1, fun h => by rw [h]⟩
  have tn : txtB a.nm ++ numB a.tk = txtB b.nm ++ numB b.tk ↔ a.nm = b.nm ∧ a.tk = b.tk := ⟨fun h => by
    obtain ⟨h1, h2⟩ := txtB_free (lt la.nm) (lt lb.nm) h
    exact ⟨h1, (nu wa.tk wb.tk).1 h2⟩, fun h => by rw [h.1, h.2]⟩
  have tni : txtB a.nm ++ (numB a.tk ++ intB a.vl) = txtB b.nm ++ (numB b.tk ++ intB b.vl) ↔ a.nm = b.nm ∧ a.tk = b.tk ∧ a.vl = b.vl := ⟨fun h => by
    obtain ⟨h1, h2⟩ := txtB_free (lt la.nm) (lt lb.nm) h
    obtain ⟨h3, h4⟩ := numB_free wa.tk wb.tk h2
    exact ⟨h1, h3, (it wa.vl wb.vl).1 h4⟩, fun h => by rw [h.1, h.2.1, h.2.2]⟩
  unfold fieldsB onlyC sameC
  rw [← hk]
  rcases kinds ha with h | h | h | h | h | h | h | h | h | h <;> rw [h]
  · simp
  · simp
  · simpa using tx la.wk lb.wk
  · simpa using tn
  · simpa [and_assoc] using tni
  · simpa using tn
  · simpa using tx la.nm lb.nm
  · simpa using tx la.nm lb.nm
  · simpa using tx la.nm lb.nm
  · simpa using it wa.vl wb.vl

theorem onlyC_kd (c : PC) : (onlyC c).kd = c.kd := by
  unfold onlyC
  repeat' split
  all_goals rfl
theorem req_same {p q : PQ} (hp : okK p.c.kd) (hq : okK q.c.kd) (lp : LitC p.c) (lq : LitC q.c) (wp : WfC p.c) (wq : WfC q.c) (h1 : p.cl < M64) (h2 : q.cl < M64) (h3 : p.no < M64) (h4 : q.no < M64) :
    (reqB p = reqB q) ↔ (p.cl = q.cl ∧ p.no = q.no ∧ sameC (onlyC p.c) (onlyC q.c) = true) := by
  have hkp : p.c.kd.toNat < M64 := by unfold okK at hp; unfold M64; omega
  have hkq : q.c.kd.toNat < M64 := by unfold okK at hq; unfold M64; omega
  constructor
  · intro h
    unfold reqB cmdB at h
    obtain ⟨e1, h⟩ := numB_free h1 h2 h
    obtain ⟨e2, h⟩ := numB_free h3 h4 h
    obtain ⟨e3, h⟩ := numB_free hkp hkq h
    have e4 : p.c.kd = q.c.kd := by unfold okK at hp hq; omega
    exact ⟨e1, e2, (fields_same hp e4 lp lq wp wq).1 h⟩
  · rintro ⟨e1, e2, h⟩
    have e4 : p.c.kd = q.c.kd := by
      have := h
      unfold sameC at this
      simp only [Bool.and_eq_true, decide_eq_true_eq] at this
      have h5 := this.1.1.1.1.1
      rwa [onlyC_kd, onlyC_kd] at h5
    have := (fields_same hp e4 lp lq wp wq).2 h
    unfold reqB cmdB
    rw [e1, e2, e4, this]

/-- the cells of a command, of a request -/
def cmC (c : PC) (a : Option Addr) (n k : Nat) : List Value := .int .i64 c.kd :: .string (bstr c.nm) :: .string (bstr c.wk) :: .int .u64 (c.tk : Int) :: .int .i64 c.vl :: spC c.sp a n k
def rqC (q : PQ) (a : Option Addr) (n k : Nat) : List Value := .int .u64 (q.cl : Int) :: .int .u64 (q.no : Int) :: cmC q.c a n k
def pc0 : PC := ⟨0, [], [], 0, 0, ps0⟩
def pq0 : PQ := ⟨0, 0, pc0⟩
theorem cmC_len (c : PC) (a : Option Addr) (n k : Nat) : (cmC c a n k).length = 16 := rfl
theorem rqC_len (q : PQ) (a : Option Addr) (n k : Nat) : (rqC q a n k).length = 18 := rfl
end Go.Proofs.Ytdfkagpnfgmbeaa
