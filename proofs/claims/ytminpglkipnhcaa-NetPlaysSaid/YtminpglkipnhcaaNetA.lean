/- net: messages in memory; a net. -/
import Derived.Test.YtminpglkipnhcaaEnts
import Derived.Test.YtminpglkipnhcaaIntsC
import Derived.Test.YtminpglkipnhcaaNetK
import Derived.Test.YtminpglkipnhcaaDj
namespace Go.Proofs.Ytminpglkipnhcaa
set_option linter.unusedVariables false
open Go.RowKit

/-- a message, as it lies in its cells -/
structure Ms where
  kd : Int
  fr : Int
  too : Int
  tm : Int
  ix : Int
  lt : Int
  cm : Int
  ys : Bool
  ea : Option Addr
  en : Nat
  ec : Nat
  ma : Option Addr
  mn : Nat
  mc : Nat
  da : Option Addr
  dn : Nat
  dc : Nat
def ms0 : Ms := ⟨0, 0, 0, 0, 0, 0, 0, false, none, 0, 0, none, 0, 0, none, 0, 0⟩
def msC (x : Ms) : List Value := [.int .i64 x.kd, .int .i64 x.fr, .int .i64 x.too, .int .u64 x.tm, .int .u64 x.ix, .int .u64 x.lt, .int .u64 x.cm, .bool x.ys, .slice x.ea x.en x.ec, .slice x.ma x.mn x.mc, .slice x.da x.dn x.dc]
theorem msC_len (x : Ms) : (msC x).length = 11 := rfl
theorem msC_one (x : Ms) : ∀ u, u ∈ msC x → u.oneCell' = true := by
  intro u hu
  simp [msC] at hu
  rcases hu with rfl | rfl | rfl | rfl | rfl | rfl | rfl | rfl | rfl | rfl | rfl <;> rfl
/-- the value of a message -/
def msV (x : Ms) : Value := .agg (msC x).toArray
def flatM (L : List Ms) : List Value := L.flatMap msC
theorem flatM_len (L : List Ms) : (flatM L).length = L.length * 11 := flatF_len msC_len L
theorem flatM_one (L : List Ms) : ∀ u ∈ flatM L, u.oneCell' = true := flatF_one msC_one L
theorem Try.infoM : (Try.prog.info? 31).map (fun i => (i.zero, i.size, i.bytes)) = some (some (msV ms0), 11, 136) := by kernel_rfl
theorem infoM_parts : ∃ i : TypeInfo, Try.prog.info? 31 = some i ∧ i.zero = some (msV ms0) ∧ i.size = 11 ∧ i.bytes = 136 := by
  have h1 := Try.infoM
  cases e : Try.prog.info? 31 with
  | none => rw [e] at h1; cases h1
  | some i =>
    rw [e] at h1
    simp at h1
    exact ⟨i, rfl, h1.1, h1.2.1, h1.2.2⟩
theorem zeroM (w : World) : (zeroValue 31).run Try.prog w = .ok (msV ms0) w := by
  obtain ⟨i, h1, h2, h3, h4⟩ := infoM_parts
  simp [zeroValue, typeInfo, h1, h2]

/-- what an entry says -/
structure PE where
  ix : Nat
  tm : Nat
  cf : Bool
  da : List UInt8
/-- what a message says -/
structure PM where
  kd : Int
  fr : Int
  too : Int
  tm : Int
  ix : Int
  lt : Int
  cm : Int
  ys : Bool
  es : List PE
  ms : List Int
  da : List UInt8

/-- a slice's block is one of these -/
def In (a : Option Addr) (D : List Nat) : Prop := ∀ b off s, a = some ⟨b, off, s⟩ → b ∈ D
/-- a slice of bytes that says l, in blocks of D -/
structure SlB (w : World) (D : List Nat) (a : Option Addr) (n c : Nat) (l : List UInt8) : Prop where
  len : l.length = n
  rd : Bytes w a l
  nil : a = none → n = 0 ∧ c = 0
  dm : In a D
/-- an entry says e -/
structure EnOk (w : World) (D : List Nat) (x : En) (e : PE) : Prop where
  ix : x.ix = e.ix
  tm : x.tm = e.tm
  cf : x.cf = e.cf
  da : SlB w D x.da x.dn x.dc e.da
structure SlE (w : World) (D : List Nat) (a : Option Addr) (n c : Nat) (l : List PE) : Prop where
  nil : a = none → n = 0 ∧ c = 0
  dm : In a D
  rows : ∃ L : List En, L.length = n ∧ l.length = n ∧ Ents w a L ∧ ∀ (i : Nat) (x : En) (e : PE), L[i]? = some x → l[i]? = some e → EnOk w D x e
structure SlI (w : World) (D : List Nat) (a : Option Addr) (n c : Nat) (l : List Int) : Prop where
  len : l.length = n
  rd : Ints w a l
  nil : a = none → n = 0 ∧ c = 0
  dm : In a D
/-- a message says M, in blocks of D -/
structure MsOk (w : World) (D : List Nat) (x : Ms) (M : PM) : Prop where
  kd : x.kd = M.kd
  fr : x.fr = M.fr
  too : x.too = M.too
  tm : x.tm = M.tm
  ix : x.ix = M.ix
  lt : x.lt = M.lt
  cm : x.cm = M.cm
  ys : x.ys = M.ys
  es : SlE w D x.ea x.en x.ec M.es
  ms : SlI w D x.ma x.mn x.mc M.ms
  da : SlB w D x.da x.dn x.dc M.da
/-- a message is little -/
structure Few (M : PM) : Prop where
  es : M.es.length ≤ 9
  ms : M.ms.length ≤ 9
  da : M.da.length ≤ 60
  ed : ∀ e ∈ M.es, e.da.length ≤ 60

section
variable {w w' : World} {D D' F : List Nat} {a : Option Addr} {n c : Nat}
theorem SlB.step {l : List UInt8} (h : SlB w D a n c l) (hs : Step F w w') (hd : Dj D F) : SlB w' D a n c l :=
  ⟨h.len, h.rd.step hs (fun b off e => hd b (h.dm b off none e)), h.nil, h.dm⟩
theorem EnOk.step {x : En} {e : PE} (h : EnOk w D x e) (hs : Step F w w') (hd : Dj D F) : EnOk w' D x e := ⟨h.ix, h.tm, h.cf, h.da.step hs hd⟩
theorem SlE.step {l : List PE} (h : SlE w D a n c l) (hs : Step F w w') (hd : Dj D F) : SlE w' D a n c l := by
  obtain ⟨h1, h2, L, h3, h4, h5, h6⟩ := h
  exact ⟨h1, h2, L, h3, h4, h5.step hs (fun b off e _ => hd b (h2 b off none e)), fun i x e hx he => (h6 i x e hx he).step hs hd⟩
theorem SlI.step {l : List Int} (h : SlI w D a n c l) (hs : Step F w w') (hd : Dj D F) : SlI w' D a n c l :=
  ⟨h.len, h.rd.step hs (fun b off e _ => hd b (h.dm b off none e)), h.nil, h.dm⟩
theorem MsOk.step {x : Ms} {M : PM} (h : MsOk w D x M) (hs : Step F w w') (hd : Dj D F) : MsOk w' D x M :=
  ⟨h.kd, h.fr, h.too, h.tm, h.ix, h.lt, h.cm, h.ys, h.es.step hs hd, h.ms.step hs hd, h.da.step hs hd⟩
theorem In.mono (h : In a D) (hd : ∀ k, k ∈ D → k ∈ D') : In a D' := fun b off s e => hd b (h b off s e)
theorem SlB.mono {l : List UInt8} (h : SlB w D a n c l) (hd : ∀ k, k ∈ D → k ∈ D') : SlB w D' a n c l := ⟨h.len, h.rd, h.nil, h.dm.mono hd⟩
theorem EnOk.mono {x : En} {e : PE} (h : EnOk w D x e) (hd : ∀ k, k ∈ D → k ∈ D') : EnOk w D' x e := ⟨h.ix, h.tm, h.cf, h.da.mono hd⟩
theorem SlE.mono {l : List PE} (h : SlE w D a n c l) (hd : ∀ k, k ∈ D → k ∈ D') : SlE w D' a n c l := by
  obtain ⟨h1, h2, L, h3, h4, h5, h6⟩ := h
  exact ⟨h1, h2.mono hd, L, h3, h4, h5, fun i x e hx he => (h6 i x e hx he).mono hd⟩
theorem SlI.mono {l : List Int} (h : SlI w D a n c l) (hd : ∀ k, k ∈ D → k ∈ D') : SlI w D' a n c l := ⟨h.len, h.rd, h.nil, h.dm.mono hd⟩
theorem MsOk.mono {x : Ms} {M : PM} (h : MsOk w D x M) (hd : ∀ k, k ∈ D → k ∈ D') : MsOk w D' x M :=
  ⟨h.kd, h.fr, h.too, h.tm, h.ix, h.lt, h.cm, h.ys, h.es.mono hd, h.ms.mono hd, h.da.mono hd⟩
theorem SlB.none (w : World) : SlB w D none 0 0 [] := ⟨rfl, Bytes.nil _ _, fun _ => ⟨rfl, rfl⟩, fun b off s h => by cases h⟩
theorem SlI.none (w : World) : SlI w D none 0 0 [] := ⟨rfl, fun i hi => by simp at hi, fun _ => ⟨rfl, rfl⟩, fun b off s h => by cases h⟩
theorem SlE.none (w : World) : SlE w D none 0 0 [] := ⟨fun _ => ⟨rfl, rfl⟩, (fun b off s h => by cases h), ⟨[], rfl, rfl, (fun i hi => by simp at hi), (fun i x e h => by simp at h)⟩⟩
end

/-- a message without rows -/
def bare (kd fr too tm ix lt cm : Int) (ys : Bool) : Ms := ⟨kd, fr, too, tm, ix, lt, cm, ys, none, 0, 0, none, 0, 0, none, 0, 0⟩
theorem bare_ok (w : World) (D : List Nat) (kd fr too tm ix lt cm : Int) (ys : Bool) : MsOk w D (bare kd fr too tm ix lt cm ys) ⟨kd, fr, too, tm, ix, lt, cm, ys, [], [], []⟩ :=
  ⟨rfl, rfl, rfl, rfl, rfl, rfl, rfl, rfl, SlE.none w, SlI.none w, SlB.none w⟩
theorem few_bare (kd fr too tm ix lt cm : Int) (ys : Bool) : Few ⟨kd, fr, too, tm, ix, lt, cm, ys, [], [], []⟩ := ⟨by simp, by simp, by simp, fun e he => by simp at he⟩
end Go.Proofs.Ytminpglkipnhcaa
