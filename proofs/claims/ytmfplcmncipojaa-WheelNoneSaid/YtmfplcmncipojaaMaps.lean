/- A map of the call's own, as a function from keys to what stands there. No program in sight. -/
import Derived.Test.YtmfplcmncipojaaSep
import Derived.Maps.RangeWalk
import Derived.Maps.OwnSet
namespace Go.Proofs.Ytmfplcmncipojaa
set_option linter.unusedVariables false
open Go.RowKit Go.Maps

/-- keys of one type -/
structure KeyT (P : Program) (k : TypeId) (κ : Type) where
  keyed : Keyed P k
  val : κ → Value
  lit : κ → Lit
  good : κ → Prop
  inj : ∀ {x y}, lit x = lit y → x = y
  key : ∀ {x}, good x → keyOf P k (val x) = some (lit x)
  inv : ∀ {u l}, keyOf P k u = some l → ∃ x, good x ∧ u = val x ∧ l = lit x

/-- elements of one type -/
structure ElT (V : Type) where
  val : V → Value
  rd : Value → Option V
  enc : V → DataW Unit
  rd_val : ∀ v, rd (val v) = some v
  val_rd : ∀ {u v}, rd u = some v → u = val v
  inj : ∀ {v v'}, enc v = enc v' → v = v'

def ElT.R {V : Type} (E : ElT V) (u : Value) : Option (DataW Unit × List MemPlace) := (E.rd u).map fun v => (E.enc v, [])
theorem ElT.R_val {V : Type} (E : ElT V) (v : V) : E.R (E.val v) = some (E.enc v, []) := by simp [ElT.R, E.rd_val]
theorem ElT.R_inv {V : Type} (E : ElT V) {u : Value} {z : DataW Unit × List MemPlace} (h : E.R u = some z) : ∃ v, u = E.val v ∧ z = (E.enc v, []) := by
  unfold ElT.R at h
  cases hr : E.rd u with
  | none => rw [hr] at h; cases h
  | some v => rw [hr] at h; cases h; exact ⟨v, E.val_rd hr, rfl⟩

def intKey {P : Program} {k : TypeId} {q : IntKind} (hk : P.underlying k = some (.int q)) : KeyT P k Int where
  keyed := int_keyed hk
  val := Value.int q
  lit := Lit.int q
  good := fun x => (Lit.int q x).wf = true
  inj := fun h => by cases h; rfl
  key := fun h => keyOf_int_mk hk h
  inv := fun h => by obtain ⟨x, rfl, rfl, hw⟩ := keyOf_int_inv hk h; exact ⟨x, hw, rfl, rfl⟩

def strKey {P : Program} {k : TypeId} (hk : P.underlying k = some .string) : KeyT P k ByteArray where
  keyed := string_keyed hk
  val := Value.string
  lit := fun s => Lit.string s.data.toList
  good := fun s => s.size ≤ maxLen
  inj := fun {x y} h => by
    injection h with h
    obtain ⟨⟨a⟩⟩ := x
    obtain ⟨⟨b⟩⟩ := y
    simp at h
    rw [h]
  key := fun h => WideMaps.keyOf_string_mk hk h
  inv := fun h => by obtain ⟨s, rfl, rfl, hs⟩ := WideMaps.string_of_keyOf hk h; exact ⟨s, hs, rfl, rfl⟩

def boolEl : ElT Bool where
  val := Value.bool
  rd := fun | .bool b => some b | _ => none
  enc := fun b => .lit (.bool b)
  rd_val := fun _ => rfl
  val_rd := fun {u v} h => by cases u <;> simp at h; rw [h]
  inj := fun h => by cases h; rfl

def intEl (q : IntKind) : ElT Int where
  val := Value.int q
  rd := fun | .int q' b => if q' = q then some b else none | _ => none
  enc := fun b => .lit (.int q b)
  rd_val := fun _ => by simp
  val_rd := fun {u v} h => by
    cases u <;> simp at h
    obtain ⟨rfl, rfl⟩ := h
    rfl
  inj := fun h => by cases h; rfl

/-- two numbers in a struct -/
def pairEl (q r : IntKind) : ElT (Int × Int) where
  val := fun p => .agg #[.int q p.1, .int r p.2]
  rd := fun | .agg a => (match a.toList with | [.int q' x, .int r' y] => if q' = q ∧ r' = r then some (x, y) else none | _ => none) | _ => none
  enc := fun p => .agg [.lit (.int q p.1), .lit (.int r p.2)]
  rd_val := fun _ => by simp
  val_rd := fun {u v} h => by
    cases u with
    | agg a =>
      obtain ⟨l⟩ := a
      simp only at h
      split at h
      · split at h
        · rename_i hc
          obtain ⟨rfl, rfl⟩ := hc
          cases h
          rfl
        · cases h
      · cases h
    | _ => simp at h
  inj := fun {v v'} h => by
    obtain ⟨a, b⟩ := v
    obtain ⟨c, d⟩ := v'
    simp at h
    simp [h]

variable {P : Program} {k : TypeId} {κ V : Type}

/-- a datum says what a function says -/
def Says (K : KeyT P k κ) (E : ElT V) (D : DataW Unit) (f : κ → Option V) : Prop :=
  ∀ x, K.good x → (f x = none → Maps.has D (K.lit x) = false) ∧ ∀ v, f x = some v → Maps.has D (K.lit x) = true ∧ ∀ z, D.atKey (K.lit x) z = E.enc v

theorem Says.has {K : KeyT P k κ} {E : ElT V} {D : DataW Unit} {f : κ → Option V} (h : Says K E D f) {x : κ} (hx : K.good x) : Maps.has D (K.lit x) = (f x).isSome := by
  cases hf : f x with
  | none => rw [(h x hx).1 hf]; rfl
  | some v => rw [((h x hx).2 v hf).1]; rfl
theorem Says.at {K : KeyT P k κ} {E : ElT V} {D : DataW Unit} {f : κ → Option V} (h : Says K E D f) {x : κ} (hx : K.good x) (z : V) : D.atKey (K.lit x) (E.enc z) = E.enc ((f x).getD z) := by
  cases hf : f x with
  | none => exact atKey_of_not_has ((h x hx).1 hf) _
  | some v => exact ((h x hx).2 v hf).2 _

/-- block b is a map of at most n entries: what stands at a key is what f says -/
def MapF (K : KeyT P k κ) (E : ElT V) (w : World) (b n : Nat) (f : κ → Option V) : Prop :=
  ∃ D, w.ownsMap P k E.R b n D ∧ Says K E D f

/-- the same, while it is ranged over by the iterator in block r: those keys are still to come that left says -/
def MapR (K : KeyT P k κ) (E : ElT V) (w : World) (b r n : Nat) (f : κ → Option V) (left : κ → Bool) (cnt : Nat) : Prop :=
  ∃ D l, w.ranges P k E.R b r n D l cnt ∧ Says K E D f ∧ ∀ x, K.good x → left x = l (K.lit x)

/-- f with another value at one key -/
def upd [DecidableEq κ] (f : κ → Option V) (x : κ) (v : Option V) : κ → Option V := fun y => if y = x then v else f y

variable {K : KeyT P k κ} {E : ElT V} {w : World} {b n r cnt : Nat} {f : κ → Option V} {left : κ → Bool}

theorem MapF.made (K : KeyT P k κ) (E : ElT V) (w : World) : MapF K E (w.alloc (.map #[] 0)) w.heap.size 0 (fun _ => none) :=
  ⟨_, World.ownsMap_made w P k E.R, fun x hx => ⟨fun _ => rfl, fun v h => by cases h⟩⟩
theorem MapF.lt (h : MapF K E w b n f) : b < w.heap.size := by obtain ⟨D, h, _⟩ := h; exact h.lt
theorem MapF.mono (h : MapF K E w b n f) {m : Nat} (hm : n ≤ m) : MapF K E w b m f := by obtain ⟨D, h, r⟩ := h; exact ⟨D, h.mono hm, r⟩

/-- a step as the kit says it -/
theorem Step.grownBy {F : List Nat} {w w' : World} (h : Step F w w') {b : Nat} (hn : b ∉ F) (hb : b < w.heap.size) : ∃ w2, w.grownBy w2 none ∧ w2.heap[b]? = w'.heap[b]? := ⟨w, ⟨rfl, rfl, rfl, Nat.le_refl _, fun _ _ _ => rfl⟩, (h.block b hb hn).symm⟩

theorem owns_of_block {w w' : World} {R : Value → Option (DataW Unit × List MemPlace)} {b n : Nat} {D : DataW Unit} (h : w.ownsMap P k R b n D) (he : w'.heap[b]? = w.heap[b]?) : w'.ownsMap P k R b n D := by
  obtain ⟨es, clock, hb, r⟩ := h
  exact ⟨es, clock, he.trans hb, r⟩
theorem ranges_of_block {w w' : World} {R : Value → Option (DataW Unit × List MemPlace)} {b r n : Nat} {D : DataW Unit} {l : Lit → Bool} {cnt : Nat} (h : w.ranges P k R b r n D l cnt) (he : w'.heap[b]? = w.heap[b]?) (hr : w'.heap[r]? = w.heap[r]?) : w'.ranges P k R b r n D l cnt := by
  obtain ⟨es, clock, since, seen, c0, hb, F, hs, hD, hi, rest⟩ := h
  exact ⟨es, clock, since, seen, c0, he.trans hb, F, hs, hD, hr.trans hi, rest⟩

theorem MapF.step {F : List Nat} {w' : World} (h : MapF K E w b n f) (hs : Step F w w') (hn : b ∉ F) : MapF K E w' b n f := by
  obtain ⟨D, h, r⟩ := h
  exact ⟨D, owns_of_block h (hs.block b h.lt hn), r⟩
theorem MapR.step {F : List Nat} {w' : World} (h : MapR K E w b r n f left cnt) (hs : Step F w w') (hn : b ∉ F) (hr : r ∉ F) : MapR K E w' b r n f left cnt := by
  obtain ⟨D, l, h, q⟩ := h
  exact ⟨D, l, ranges_of_block h (hs.block b h.owns.lt hn) (hs.block r h.lt hr), q⟩
theorem MapR.map (h : MapR K E w b r n f left cnt) : MapF K E w b n f := by obtain ⟨D, l, h, q, _⟩ := h; exact ⟨D, h.owns, q⟩
theorem MapR.cnt_eq (h : MapR K E w b r n f left cnt) : w.rangeLeft b r = cnt := by obtain ⟨D, l, h, q, _⟩ := h; exact h.left_eq

theorem Step.of_grown {w w' : World} {row : Option Nat} (hg : w.grownBy w' row) : Step row.toList w w' :=
  ⟨hg.os, hg.tape, hg.output, hg.size, fun k hk hn => hg.block k hk (fun e => hn (by simp [← e]))⟩

/-- the run of m[k] -/
theorem MapF.run {t e : TypeId} (h : MapF K E w b n f) (ht : P.underlying t = some (.map k e)) (z0 : V) (hz : (zeroValue e).run P w = .ok (E.val z0) w) (y : κ) (hy : K.good y) :
    (Instr.lookup t (.map (some b)) (K.val y) false).run P w = .ok (E.val ((f y).getD z0)) w := by
  obtain ⟨D, hown, hs⟩ := h
  obtain ⟨v, ps, hrun, hv⟩ := hown.lookup K.keyed ht hz (E.R_val z0) (K.key hy)
  obtain ⟨v', rfl, hv'⟩ := E.R_inv hv
  simp only [Prod.mk.injEq] at hv'
  rw [hrun, E.inj ((hs.at hy z0).symm.trans hv'.1)]
/-- the run of v, ok := m[k] -/
theorem MapF.run_ok {t e : TypeId} (h : MapF K E w b n f) (ht : P.underlying t = some (.map k e)) (z0 : V) (hz : (zeroValue e).run P w = .ok (E.val z0) w) (y : κ) (hy : K.good y) :
    (Instr.lookup t (.map (some b)) (K.val y) true).run P w = .ok (.tuple #[E.val ((f y).getD z0), .bool (f y).isSome]) w := by
  obtain ⟨D, hown, hs⟩ := h
  obtain ⟨v, ps, hrun, hv⟩ := hown.look_ok K.keyed ht hz (E.R_val z0) (K.key hy)
  obtain ⟨v', rfl, hv'⟩ := E.R_inv hv
  simp only [Prod.mk.injEq] at hv'
  rw [hrun, E.inj ((hs.at hy z0).symm.trans hv'.1), hs.has hy]

section
variable {ops : Array Oper} {rest : List Oper} {o : Oper} {a : Act} {Q : Exit → Act → World → Prop}

/-- m[k] -/
theorem wpList_look (K : KeyT P k κ) (E : ElT V) (hg : o.guard = none) (m x : Operand) (t e : TypeId) (hop : o.op = Op.lookup t m x false) (ht : P.underlying t = some (.map k e)) (z0 : V)
    (hz : (zeroValue e).run P w = .ok (E.val z0) w) (hm : a.eval m = .map (some b)) (h : MapF K E w b n f) (y : κ) (hx : a.eval x = K.val y) (hy : K.good y)
    (hK : wpList P ops Q rest (a.put o.dst (E.val ((f y).getD z0))) w) : wpList P ops Q (o :: rest) a w := by
  refine wpList_plain hg fun K' hK' => ?_
  obtain ⟨D, hown, hs⟩ := h
  obtain ⟨v, ps, hrun, hv⟩ := hown.lookup K.keyed ht hz (E.R_val z0) (K.key hy)
  obtain ⟨v', rfl, hv'⟩ := E.R_inv hv
  simp only [Prod.mk.injEq] at hv'
  have hv2 : (f y).getD z0 = v' := E.inj ((hs.at hy z0).symm.trans hv'.1)
  unfold Oper.wp
  simp [execOp, hop, hm, hx, hrun, Result.andThen]
  rw [hv2] at hK
  exact hK' _ _ hK

/-- v, ok := m[k] -/
theorem wpList_look_ok (K : KeyT P k κ) (E : ElT V) (hg : o.guard = none) (m x : Operand) (t e : TypeId) (hop : o.op = Op.lookup t m x true) (ht : P.underlying t = some (.map k e)) (z0 : V)
    (hz : (zeroValue e).run P w = .ok (E.val z0) w) (hm : a.eval m = .map (some b)) (h : MapF K E w b n f) (y : κ) (hx : a.eval x = K.val y) (hy : K.good y)
    (hK : wpList P ops Q rest (a.put o.dst (.tuple #[E.val ((f y).getD z0), .bool (f y).isSome])) w) : wpList P ops Q (o :: rest) a w := by
  refine wpList_plain hg fun K' hK' => ?_
  obtain ⟨D, hown, hs⟩ := h
  obtain ⟨v, ps, hrun, hv⟩ := hown.look_ok K.keyed ht hz (E.R_val z0) (K.key hy)
  obtain ⟨v', rfl, hv'⟩ := E.R_inv hv
  simp only [Prod.mk.injEq] at hv'
  have hv2 : (f y).getD z0 = v' := E.inj ((hs.at hy z0).symm.trans hv'.1)
  rw [hs.has hy] at hrun
  unfold Oper.wp
  simp [execOp, hop, hm, hx, hrun, Result.andThen]
  rw [hv2] at hK
  exact hK' _ _ (by simpa using hK)

theorem says_put [DecidableEq κ] {D : DataW Unit} (h : Says K E D f) (hD : IsMap D) (y : κ) (hy : K.good y) (v : V) : Says K E (D.put (K.lit y) (E.enc v)) (upd f y (some v)) := by
  intro x hx
  unfold upd
  by_cases hxy : x = y
  · subst hxy
    refine ⟨fun h => by simp at h, fun u hu => ?_⟩
    have : v = u := by simpa using hu
    subst this
    exact ⟨has_put_same hD (K.keyed.key (K.key hy)) _, fun z => atKey_put_same hD (K.keyed.key (K.key hy)) _ _⟩
  · rw [if_neg hxy]
    have hne : K.lit x ≠ K.lit y := fun h => hxy (K.inj h)
    refine ⟨fun hf => ?_, fun u hu => ⟨?_, fun z => ?_⟩⟩
    · rw [has_put_other hne]; exact (h x hx).1 hf
    · rw [has_put_other hne]; exact ((h x hx).2 u hu).1
    · rw [atKey_put_other hne]; exact ((h x hx).2 u hu).2 z
theorem says_del [DecidableEq κ] {D : DataW Unit} (h : Says K E D f) (y : κ) : Says K E (D.del (K.lit y)) (upd f y none) := by
  intro x hx
  unfold upd
  by_cases hxy : x = y
  · subst hxy
    refine ⟨fun _ => has_del_same, fun u hu => by simp at hu⟩
  · rw [if_neg hxy]
    have hne : K.lit x ≠ K.lit y := fun h => hxy (K.inj h)
    refine ⟨fun hf => ?_, fun u hu => ⟨?_, fun z => ?_⟩⟩
    · rw [has_del_other hne]; exact (h x hx).1 hf
    · rw [has_del_other hne]; exact ((h x hx).2 u hu).1
    · rw [atKey_del_other hne]; exact ((h x hx).2 u hu).2 z

/-- m[k] = v -/
theorem wpList_store [DecidableEq κ] (K : KeyT P k κ) (E : ElT V) (hg : o.guard = none) (m x v : Operand) (t e : TypeId) (hop : o.op = Op.mapUpdate t m x v) (ht : P.underlying t = some (.map k e))
    (hm : a.eval m = .map (some b)) (h : MapF K E w b n f) (hn : n < maxLen) (y : κ) (hx : a.eval x = K.val y) (hy : K.good y) (u : V) (hv : a.eval v = E.val u)
    (hK : ∀ w', MapF K E w' b (n + 1) (upd f y (some u)) → Step [b] w w' → wpList P ops Q rest (a.put o.dst undef) w') : wpList P ops Q (o :: rest) a w := by
  obtain ⟨D, hown, hs⟩ := h
  refine wpList_mapUpdate_own w hg m x v t hop k e K.keyed ht E.R b n D hm hown hn _ _ _ hx hv (K.key hy) _ [] (E.R_val u) fun w' h1 h2 => hK w' ⟨_, h1, says_put hs hown.isMap y hy u⟩ (by simpa using Step.of_grown h2)

/-- delete(m, k) -/
theorem wpList_del [DecidableEq κ] (K : KeyT P k κ) (E : ElT V) (hg : o.guard = none) (m x : Operand) (t e : TypeId) (hop : o.op = Op.call { callee := Callee.builtin Builtin.delete, args := #[m, x], argTypes := #[t, k] }) (ht : P.underlying t = some (.map k e))
    (hm : a.eval m = .map (some b)) (h : MapF K E w b n f) (y : κ) (hx : a.eval x = K.val y) (hy : K.good y)
    (hK : ∀ w', MapF K E w' b n (upd f y none) → Step [b] w w' → wpList P ops Q rest (a.put o.dst (.tuple #[])) w') : wpList P ops Q (o :: rest) a w := by
  obtain ⟨D, hown, hs⟩ := h
  refine wpList_delete_own w hg m x t k hop e K.keyed ht E.R b n D hm hown _ _ hx (K.key hy) fun w' h1 h2 => hK w' ⟨_, h1, says_del hs y⟩ (by simpa using Step.of_grown h2.grown)

/-- range m -/
theorem wpList_rng (K : KeyT P k κ) (E : ElT V) (hg : o.guard = none) (m : Operand) (t e : TypeId) (hop : o.op = Op.range t m) (ht : P.underlying t = some (.map k e))
    (hm : a.eval m = .map (some b)) (h : MapF K E w b n f)
    (hK : ∀ w' cnt, MapR K E w' b w.heap.size n f (fun x => (f x).isSome) cnt → Step [] w w' → wpList P ops Q rest (a.put o.dst (.pointer (some ⟨w.heap.size, 0, none⟩))) w') : wpList P ops Q (o :: rest) a w := by
  obtain ⟨D, hown, hs⟩ := h
  refine wpList_range_own w hg m t hop k e K.keyed ht E.R b n D hm hown fun w' h1 h2 h3 => hK w' _ ⟨_, _, h1, hs, fun x hx => (hs.has hx).symm⟩ (by simpa using Step.of_grown h2)

/-- the range's step -/
theorem wpList_nxt [DecidableEq κ] (K : KeyT P k κ) (E : ElT V) (hg : o.guard = none) (it : Operand) (hop : o.op = Op.next it false) (hit : a.eval it = .pointer (some ⟨r, 0, none⟩)) (h : MapR K E w b r n f left cnt)
    (hDone : cnt = 0 → (∀ x, K.good x → left x = false) → wpList P ops Q rest (a.put o.dst (.tuple #[.bool false])) w)
    (hMore : ∀ (x : κ) (c : V) (w' : World) (cnt' : Nat), K.good x → left x = true → f x = some c → MapR K E w' b r n f (fun y => left y && !decide (y = x)) cnt' → cnt' < cnt → Step [r] w w' →
      (Instr.entry (.pointer (some ⟨r, 0, none⟩))).run P w' = .ok (.tuple #[K.val x, E.val c]) w' → wpList P ops Q rest (a.put o.dst (.tuple #[.bool true, K.val x, E.val c])) w') :
    wpList P ops Q (o :: rest) a w := by
  obtain ⟨D, l, hr, hs, hl⟩ := h
  refine wpList_next_ranges w hg it hop k K.keyed E.R K.val E.val (fun key kl h => ?_) (fun v y h => ?_) b r n D l cnt hit hr (fun h0 hall => hDone h0 fun x hx => (hl x hx).trans (hall _)) ?_
  · obtain ⟨x, _, h2, _⟩ := K.inv h; exact ⟨x, h2⟩
  · obtain ⟨c, h2, _⟩ := E.R_inv h; exact ⟨c, h2⟩
  · intro x c kl y w' cnt' hkey hlk hv hat hrg hlt hgr hsz hen
    have hv2 : E.R (E.val c) = some (E.enc c, []) := E.R_val c
    rw [hv2] at hv
    cases hv
    obtain ⟨x', hx', hxv, rfl⟩ := K.inv hkey
    have hkx := hkey
    rw [hxv] at hkx hen ⊢
    have hhas : Maps.has D (K.lit x') = true := Maps.has_true_of_atKey hat
    have hsome : (f x').isSome = true := by rw [← hs.has hx']; exact hhas
    obtain ⟨v, hv⟩ := Option.isSome_iff_exists.1 hsome
    have hcv : E.enc v = E.enc c := (((hs x' hx').2 v hv).2 (E.enc v)).symm.trans (hat _)
    have := E.inj hcv
    subst this
    refine hMore x' v w' cnt' hx' ((hl x' hx').trans hlk) hv ⟨D, _, hrg, hs, fun z hz => ?_⟩ hlt (by simpa using Step.of_grown hgr) hen
    show (left z && !decide (z = x')) = _
    rw [hl z hz]
    by_cases hzx : z = x'
    · subst hzx
      simp [WideAt.sameKey_self (K.keyed.key hkx)]
    · have : (K.lit z).sameKey (K.lit x') = false := sameKey_ne (fun h => hzx (K.inj h))
      simp [this, hzx]

/-- delete(m, k) while it is ranged over -/
theorem wpList_delR [DecidableEq κ] (K : KeyT P k κ) (E : ElT V) (hg : o.guard = none) (m x : Operand) (t e : TypeId) (hop : o.op = Op.call { callee := Callee.builtin Builtin.delete, args := #[m, x], argTypes := #[t, k] }) (ht : P.underlying t = some (.map k e))
    (hm : a.eval m = .map (some b)) (h : MapR K E w b r n f left cnt) (y : κ) (hx : a.eval x = K.val y) (hy : K.good y)
    (hK : ∀ w' cnt', MapR K E w' b r n (upd f y none) (fun z => left z && !decide (z = y)) cnt' → cnt' ≤ cnt → Step [b] w w' → wpList P ops Q rest (a.put o.dst (.tuple #[])) w') : wpList P ops Q (o :: rest) a w := by
  obtain ⟨D, l, hr, hs, hl⟩ := h
  refine wpList_delete_ranges w hg m x t k hop e K.keyed ht E.R b r n D l cnt hm hr _ _ hx (K.key hy) fun w' cnt' h1 h2 h3 => hK w' cnt' ⟨_, _, h1, says_del hs y, fun z hz => ?_⟩ h2 (by simpa using Step.of_grown h3.grown)
  show (left z && !decide (z = y)) = _
  rw [hl z hz]
  by_cases hzx : z = y
  · subst hzx
    simp [WideAt.sameKey_self (K.keyed.key (K.key hy))]
  · have : (K.lit z).sameKey (K.lit y) = false := sameKey_ne (fun h => hzx (K.inj h))
    simp [this, hzx]
end
end Go.Proofs.Ytmfplcmncipojaa
