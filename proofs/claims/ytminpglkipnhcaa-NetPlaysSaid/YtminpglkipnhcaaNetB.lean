/- net: the walk of clone. -/
import Derived.Test.YtminpglkipnhcaaNetA
import Derived.Test.YtminpglkipnhcaaRel
import Derived.Test.YtminpglkipnhcaaBigCells
import Derived.Laws.ResultCell
import Derived.Laws.Rows
namespace Go.Proofs.Ytminpglkipnhcaa
set_option linter.unusedVariables false
open Go.RowKit

/-- a message is loaded, and stored, at once -/
theorem exec_load_m (a : Act) (dst : Option Tmp) (x : Operand) (ty : TypeId) (pos : String) (after : Array Edge) (guard : Option (Nat × Bool)) :
    execOp a.eval { dst, op := .load 31 x, type := ty, pos, after, guard } = (do pure (.value (← loadBig 31 (a.eval x)))) := rfl
theorem Try.load_m (w : World) (b o : Nat) : (loadBig 31 (.pointer (some ⟨b, o, none⟩))).run Try.prog w = match rowC w b o 11 with
      | some cs => .ok (.agg cs.toArray) w
      | none => (loadBig0 31 (.pointer (some ⟨b, o, none⟩))).run Try.prog w :=
  run_loadBig 31 11 _ Try.underlying31 rfl (by kernel_rfl) w b o
theorem exec_store_m (a : Act) (dst : Option Tmp) (x y : Operand) (ty : TypeId) (pos : String) (after : Array Edge) (guard : Option (Nat × Bool)) :
    execOp a.eval { dst, op := .store 31 x y, type := ty, pos, after, guard } = (do storeBig 31 (a.eval x) (a.eval y); pure .skip) := rfl
theorem Try.store_m (w : World) (b o : Nat) (x : Ms) (ht : w.there b o 11) : (storeBig 31 (.pointer (some ⟨b, o, none⟩)) (.agg (msC x).toArray)).run Try.prog w = .ok () (w.setCells b o (msC x)) :=
  run_storeBig 31 11 (by kernel_rfl) w b o (msC x) ht rfl (by rfl)
attribute [local go_sem ↓] exec_load_m exec_store_m
attribute [local go_sem] Try.load_m row_drew Try.store_m

theorem msg_cells {w : World} {b : Nat} {x : Ms} {T : TypeId} (h : Blk w b (msC x).toArray T) : w.cell? ⟨b, 0, none⟩ = some (.int .i64 x.kd) ∧ w.cell? ⟨b, 1, none⟩ = some (.int .i64 x.fr) ∧ w.cell? ⟨b, 2, none⟩ = some (.int .i64 x.too) ∧ w.cell? ⟨b, 3, none⟩ = some (.int .u64 x.tm)
    ∧ w.cell? ⟨b, 8, none⟩ = some (.slice x.ea x.en x.ec) ∧ w.cell? ⟨b, 9, none⟩ = some (.slice x.ma x.mn x.mc) ∧ w.cell? ⟨b, 10, none⟩ = some (.slice x.da x.dn x.dc) :=
  ⟨h.cell 0, h.cell 1, h.cell 2, h.cell 3, h.cell 8, h.cell 9, h.cell 10⟩
theorem msg_row {w : World} {b : Nat} {x : Ms} {T : TypeId} (h : Blk w b (msC x).toArray T) : rowC w b 0 11 = some (msC x) := by
  have := row_of_range w b (msC x) 0 (fun j v hv => by rw [Nat.zero_add, h.cell j]; simpa using hv)
  exact this
theorem msg_there {w : World} {b : Nat} {x : Ms} {T : TypeId} (h : Blk w b (msC x).toArray T) : w.there b 0 11 := h.there (by simp [msC])
theorem msg_set {w : World} {b : Nat} {x y : Ms} {T : TypeId} (h : Blk w b (msC x).toArray T) : Blk (w.setCells b 0 (msC y)) b (msC y).toArray T := h.setAll _ (by simp [msC])

theorem foot_lt {w : World} {base e m n : Nat} {v : Value} {xs : List Value} (h : w.ownsRow base e m v n xs) : ∀ k, k ∈ foot v → base ≤ k ∧ k < w.heap.size := fun k hk => ⟨owns_base h k hk, owns_live h k hk⟩
/-- blocks of cells, none of them frozen -/
def UnF (w : World) (D : List Nat) : Prop := ∀ j, j ∈ D → ∃ C T, Blk w j C T
theorem UnF.step {w w' : World} {D F : List Nat} (h : UnF w D) (hs : Step F w w') (hd : Dj D F) : UnF w' D := fun j hj => by
  obtain ⟨C, T, hb⟩ := h j hj
  exact ⟨C, T, hb.step hs (hd j hj)⟩
theorem UnF.set {w : World} {D : List Nat} (h : UnF w D) (b i : Nat) (v : Value) : UnF (w.setCell ⟨b, i, none⟩ v) D := fun j hj => by
  obtain ⟨C, T, hb⟩ := h j hj
  by_cases e : j = b
  · subst e
    exact ⟨_, _, hb.set i v⟩
  · exact ⟨C, T, hb.set_ne b i v e⟩
theorem UnF.app {w : World} {D D' : List Nat} (h : UnF w D) (h' : UnF w D') : UnF w (D ++ D') := fun j hj => (List.mem_append.1 hj).elim (h j) (h' j)
theorem UnF.sub {w : World} {D D' : List Nat} (h : UnF w D) (hd : ∀ k, k ∈ D' → k ∈ D) : UnF w D' := fun j hj => h j (hd j hj)
theorem UnF.nil (w : World) : UnF w [] := fun j hj => by cases hj
theorem owns_unf {w : World} {base e m n : Nat} {v : Value} {xs : List Value} (h : w.ownsRow base e m v n xs) : UnF w (foot v) := fun j hj => by
  rcases h.2 with ⟨rfl, _⟩ | ⟨g, c, cur, rfl, _, hh, _⟩
  · simp [foot, Value.ownBlock] at hj
  · simp [foot, Value.ownBlock] at hj
    subst hj
    exact ⟨cur, e, hh⟩
theorem slb_of {w : World} {base n : Nat} {v : Value} {l : List UInt8} (h : w.ownsRow base 5 1 v n (l.map byteVal)) : ∃ a c, v = .slice a n c ∧ SlB w (foot v) a n c l := by
  obtain ⟨a, c, rfl, hl, _, _, hB, hn, _⟩ := owns_bytes h
  exact ⟨a, c, rfl, hl, hB, hn, fun b off s e => (foot_slice a n c b).2 ⟨off, s, e⟩⟩
theorem sli_of {w : World} {base n : Nat} {v : Value} {l : List Int} (h : w.ownsRow base 3 1 v n (l.map iVal)) : ∃ a c, v = .slice a n c ∧ SlI w (foot v) a n c l := by
  obtain ⟨a, c, rfl, hl, _, _, hB, hn, _⟩ := owns_ints h
  exact ⟨a, c, rfl, hl, hB, hn, fun b off s e => (foot_slice a n c b).2 ⟨off, s, e⟩⟩

/-- what the three clones hand back -/
def SpC (B : Nat) (M : PM) (L : List En) (f : FuncId) (_ : Array Value) (v : Value) (w : World) : Prop :=
  if f = 36 then w.ownsRow B 3 1 v M.ms.length (M.ms.map iVal)
  else if f = 37 then w.ownsRow B 5 1 v M.da.length (M.da.map byteVal)
  else w.ownsRow B 45 4 v L.length (cellsL L)
theorem spC_law (B : Nat) (M : PM) (L : List En) : RelLaw (Step []) (SpC B M L) where
  refl := fun w => Step.refl [] w
  trans := fun w w' w'' h h' => h.then h' (by simp)
  stable := fun f args v w w' h hs => by
    unfold SpC at h ⊢
    split at h
    · rename_i hf; rw [if_pos hf]; exact owns_step h hs (by simp)
    · rename_i hf
      rw [if_neg hf]
      split at h
      · rename_i hf; rw [if_pos hf]; exact owns_step h hs (by simp)
      · rename_i hf; rw [if_neg hf]; exact owns_step h hs (by simp)
theorem anti_tail {P : Program} {ops : Array Oper} {Q : Exit → Act → World → Prop} {l : List Oper} {G : World → World → Prop} {W0 : World} (a : Act) (F F' : World → Prop) (h : ∀ w, F' w → F w)
    (hQ : ∀ w', G W0 w' → F w' → wpList P ops Q l a w') : ∀ w', G W0 w' → F' w' → wpList P ops Q l a w' := fun w' hg hf => hQ w' hg (h w' hf)

/-- a row of bytes, for the loop -/
def Sp1 (B : Nat) (l : List UInt8) (_ : FuncId) (_ : Array Value) (v : Value) (w : World) : Prop := w.ownsRow B 5 1 v l.length (l.map byteVal)
theorem sp1_law (B : Nat) (l : List UInt8) : RelLaw (Step []) (Sp1 B l) where
  refl := fun w => Step.refl [] w
  trans := fun w w' w'' h h' => h.then h' (by simp)
  stable := fun f args v w w' h hs => owns_step h hs (by simp)

/-- a message with other rows -/
def Ms.with (x : Ms) (ea : Option Addr) (en ec : Nat) (ma : Option Addr) (mn mc : Nat) (da : Option Addr) (dn dc : Nat) : Ms := { x with ea := ea, en := en, ec := ec, ma := ma, mn := mn, mc := mc, da := da, dn := dn, dc := dc }

theorem owns_apart {w : World} {B B' e e' m m' n n' : Nat} {v v' : Value} {xs xs' : List Value} (h : w.ownsRow B e m v n xs) (h' : w.ownsRow B' e' m' v' n' xs') (he : e ≠ e') : Dj (foot v) (foot v') := by
  intro k hk hk'
  rcases h.2 with ⟨rfl, _⟩ | ⟨g, c, cur, rfl, _, hh, _⟩
  · simp [foot, Value.ownBlock] at hk
  · rcases h'.2 with ⟨rfl, _⟩ | ⟨g', c', cur', rfl, _, hh', _⟩
    · simp [foot, Value.ownBlock] at hk'
    · simp [foot, Value.ownBlock] at hk hk'
      subst hk
      subst hk'
      rw [hh] at hh'
      injection hh' with h1
      injection h1 with _ h2
      exact he h2
theorem cellsL_set3 : ∀ (L : List En) (k : Nat) (y : En) (a : Option Addr) (n c : Nat), L[k]? = some y → (cellsL L).set (k * 4 + 3) (.slice a n c) = cellsL (L.set k { y with da := a, dn := n, dc := c }) := by
  intro L
  induction L with
  | nil => intro k y a n c h; simp at h
  | cons x r ih =>
    intro k y a n c h
    cases k with
    | zero =>
      simp at h
      subst h
      rfl
    | succ k =>
      have h2 := ih k y a n c (by simpa using h)
      have e : cellsL (x :: r) = enCells x ++ cellsL r := rfl
      have e2 : cellsL ((x :: r).set (k + 1) { y with da := a, dn := n, dc := c }) = enCells x ++ cellsL (r.set k { y with da := a, dn := n, dc := c }) := rfl
      rw [e, e2, List.set_append_right _ _ (by simp [enCells]; omega), ← h2]
      congr 2
      simp [enCells]
      omega

/-- what the loop keeps -/
structure ClInv (w : World) (B b1 : Nat) (x : Ms) (M : PM) (D : List Nat) (L : List En) (v8 : Value) (x1 : Ms) (k : Nat) (wr : World) : Prop where
  few : k ≤ L.length
  m1 : Blk wr b1 (msC x1).toArray 31
  m2 : Blk wr (b1 + 1) (msC ms0).toArray 31
  st : Step [] w wr
  es : v8 = .slice x1.ea x1.en x1.ec
  rows : ∃ L1 D1, wr.ownsRow B 45 4 v8 L.length (cellsL L1) ∧ (∀ (i : Nat) (y : En) (e : PE), i < k → L1[i]? = some y → M.es[i]? = some e → EnOk wr D1 y e) ∧ (∀ i, k ≤ i → L1[i]? = L[i]?) ∧ (∀ j, j ∈ D1 → B ≤ j ∧ j < wr.heap.size ∧ j ∉ foot v8 ∧ j ≠ b1 + 1) ∧ UnF wr D1
  ms : SlI wr (foot (.slice x1.ma x1.mn x1.mc)) x1.ma x1.mn x1.mc M.ms
  da : SlB wr (foot (.slice x1.da x1.dn x1.dc)) x1.da x1.dn x1.dc M.da
  fm : ∀ j, j ∈ foot (.slice x1.ma x1.mn x1.mc) → B ≤ j ∧ j < wr.heap.size ∧ j ∉ foot v8 ∧ j ≠ b1 + 1
  fd : ∀ j, j ∈ foot (.slice x1.da x1.dn x1.dc) → B ≤ j ∧ j < wr.heap.size ∧ j ∉ foot v8 ∧ j ≠ b1 + 1
  um : UnF wr (foot (.slice x1.ma x1.mn x1.mc))
  ud : UnF wr (foot (.slice x1.da x1.dn x1.dc))
theorem foot_some (g n c : Nat) : foot (.slice (some ⟨g, 0, none⟩) n c) = [g] := rfl
theorem not_msg {w : World} {b n m : Nat} {v : Value} {B e : Nat} {C : Array Value} {xs : List Value} (h : w.ownsRow B e m v n xs) (hb : Blk w b C 31) (he : e ≠ 31) : b ∉ foot v := by
  intro hm
  rcases h.2 with ⟨rfl, _⟩ | ⟨g', c, cur, rfl, _, hh, _⟩
  · simp [foot, Value.ownBlock] at hm
  · simp [foot, Value.ownBlock] at hm
    subst hm
    unfold Blk at hb
    rw [hb] at hh
    injection hh with h1
    injection h1 with _ h2
    exact he h2.symm
theorem ClInv.next {w : World} {B b1 : Nat} {x : Ms} {M : PM} {D : List Nat} {L : List En} {g n k12 : Nat} {x1 : Ms} {k : Nat} {wr w7 : World} {a31 : Option Addr} {k31 : Nat} {y : En} {e : PE} (h : ClInv w B b1 x M D L (.slice (some ⟨g, 0, none⟩) n k12) x1 k wr) (hB : w.heap.size = B) (hn : L.length = n) (hk : k < n)
    (hy : L[k]? = some y) (he : M.es[k]? = some e) (hok : EnOk w D y e) (hs7 : Step [] wr w7) (h7 : w7.ownsRow wr.heap.size 5 1 (.slice a31 e.da.length k31) e.da.length (e.da.map byteVal)) :
    ClInv w B b1 x M D L (.slice (some ⟨g, 0, none⟩) n k12) x1 (k + 1) (w7.setCell ⟨g, k * 4 + 3, none⟩ (.slice a31 e.da.length k31)) := by
  obtain ⟨L1, D1, r1, r2, r3, r4, r5⟩ := h.rows
  have hL1 : L1.length = n := by have := r1.1; rw [cellsL_len, hn] at this; omega
  have hy1 : L1[k]? = some y := (r3 k (Nat.le_refl _)).trans hy
  have hgl := (foot_lt r1 g (by simp [foot_some]))
  have S78 : Step [g] w7 (w7.setCell ⟨g, k * 4 + 3, none⟩ (.slice a31 e.da.length k31)) := (Step.refl [g] w7).setCell (.inl (by simp)) _ _
  have hsz := hs7.size
  have r1' := owns_step r1 hs7 (by simp)
  rw [hn] at r1'
  have h7f := foot_lt h7
  obtain ⟨a, c, ha, hsl⟩ := slb_of h7
  injection ha with ha1 _ ha2
  subst ha1
  subst ha2
  have dj7 : Dj (foot (.slice a31 e.da.length k31)) [g] := fun j hj hm => by
    simp at hm
    have := (h7f j hj).1
    omega
  have djD : Dj D1 [g] := fun j hj hm => (r4 j hj).2.2.1 (by rw [foot_some]; exact hm)
  have n1 := not_msg r1 h.m1 (by decide)
  have n2 := not_msg r1 h.m2 (by decide)
  rw [foot_some] at n1 n2
  refine ⟨by omega, (h.m1.step hs7 (by simp)).step S78 n1, (h.m2.step hs7 (by simp)).step S78 n2, (h.st.then hs7 (by simp)).setCell (.inr (by omega)) _ _, h.es, ⟨L1.set k { y with da := a31, dn := e.da.length, dc := k31 }, D1 ++ foot (.slice a31 e.da.length k31), ?_, ?_, ?_, ?_, ((r5.step hs7 (by intro k _; simp)).app (owns_unf h7)).set g (k * 4 + 3) _⟩,
    (h.ms.step hs7 (by intro k _; simp)).step S78 (fun j hj hm => (h.fm j hj).2.2.1 (by rw [foot_some]; exact hm)), (h.da.step hs7 (by intro k _; simp)).step S78 (fun j hj hm => (h.fd j hj).2.2.1 (by rw [foot_some]; exact hm)), ?_, ?_, (h.um.step hs7 (by intro k _; simp)).set g (k * 4 + 3) _, (h.ud.step hs7 (by intro k _; simp)).set g (k * 4 + 3) _⟩
  · have h1 := (World.ownsRow.stored r1' (k * 4 + 3) (.slice a31 e.da.length k31)).1
    rw [cellsL_set3 L1 k y _ _ _ hy1] at h1
    rw [hn]
    exact h1
  · intro i z e' hi hz he'
    by_cases hik : i = k
    · subst hik
      rw [List.getElem?_set_self (by omega)] at hz
      cases hz
      rw [he] at he'
      cases he'
      refine ⟨hok.ix, hok.tm, hok.cf, (hsl.step S78 dj7).mono (fun j hj => List.mem_append_right _ hj)⟩
    · rw [List.getElem?_set_ne (Ne.symm hik)] at hz
      exact (((r2 i z e' (by omega) hz he').step hs7 (by intro k _; simp)).step S78 djD).mono (fun j hj => List.mem_append_left _ hj)
  · intro i hi
    rw [List.getElem?_set_ne (by omega)]
    exact r3 i (by omega)
  · intro j hj
    rw [World.size_setCell]
    rcases List.mem_append.1 hj with h1 | h1
    · have := r4 j h1
      exact ⟨this.1, by omega, this.2.2⟩
    · have := h7f j h1
      have hm2l := h.m2.lt
      refine ⟨by omega, this.2, fun hm => ?_, by omega⟩
      rw [foot_some] at hm
      simp at hm
      omega
  · intro j hj
    rw [World.size_setCell]
    have := h.fm j hj
    exact ⟨this.1, by omega, this.2.2⟩
  · intro j hj
    rw [World.size_setCell]
    have := h.fd j hj
    exact ⟨this.1, by omega, this.2.2⟩
theorem ClInv.done {w : World} {B b1 : Nat} {x : Ms} {M : PM} {D : List Nat} {L : List En} {v8 : Value} {x1 : Ms} {wr : World} (h : ClInv w B b1 x M D L v8 x1 L.length wr) (hx : MsOk w D x M) (hn : L.length = M.es.length) (hB : w.heap.size = B) (ea : Option Addr) (ec : Nat) (ma : Option Addr) (mc : Nat) (da : Option Addr) (dc : Nat)
    (h1 : x1 = x.with ea L.length ec ma M.ms.length mc da M.da.length dc) : ∃ D', MsOk wr D' x1 M ∧ (∀ j, j ∈ D' → B ≤ j ∧ j < wr.heap.size ∧ j ≠ b1 + 1) ∧ UnF wr D' := by
  obtain ⟨L1, D1, r1, r2, r3, r4, r5⟩ := h.rows
  have hum := h.um
  have hud := h.ud
  have hes := h.es
  have hms := h.ms
  have hda := h.da
  have hfm := h.fm
  have hfd := h.fd
  have hv8 := foot_lt r1
  have hm2 := h.m2
  subst h1
  subst hes
  have hL1 : L1.length = L.length := by have := r1.1; rw [cellsL_len] at this; omega
  refine ⟨D1 ++ foot (.slice ea L.length ec) ++ foot (.slice ma M.ms.length mc) ++ foot (.slice da M.da.length dc), ⟨hx.kd, hx.fr, hx.too, hx.tm, hx.ix, hx.lt, hx.cm, hx.ys, ?_, ?_, ?_⟩, ?_, ((r5.app (owns_unf r1)).app hum).app hud⟩
  · refine ⟨?_, ?_, L1, hL1, hn.symm, owns_ents r1, fun i z e hz he => (r2 i z e ?_ hz he).mono (fun j hj => by simp [hj])⟩
    · intro he
      rcases r1.2 with ⟨hv, h0⟩ | ⟨g, c, cur, hv, _⟩
      · injection hv with _ hv1 hv2
        exact ⟨hv1, hv2⟩
      · injection hv with hv1
        have : ea = none := he
        rw [this] at hv1
        cases hv1
    · intro b off s e
      have : b ∈ foot (.slice ea L.length ec) := (foot_slice _ _ _ b).2 ⟨off, s, e⟩
      simp [this]
    · have := (List.getElem?_eq_some_iff.1 hz).1
      omega
  · exact hms.mono (fun j hj => by
      have : j ∈ foot (.slice ma M.ms.length mc) := hj
      simp [this])
  · exact hda.mono (fun j hj => by
      have : j ∈ foot (.slice da M.da.length dc) := hj
      simp [this])
  · intro j hj
    simp only [List.mem_append] at hj
    rcases hj with ((h1 | h1) | h1) | h1
    · exact ⟨(r4 j h1).1, (r4 j h1).2.1, (r4 j h1).2.2.2⟩
    · refine ⟨(hv8 j h1).1, (hv8 j h1).2, fun e => ?_⟩
      subst e
      exact not_msg r1 hm2 (by decide) h1
    · exact ⟨(hfm j h1).1, (hfm j h1).2.1, (hfm j h1).2.2.2⟩
    · exact ⟨(hfd j h1).1, (hfd j h1).2.1, (hfd j h1).2.2.2⟩
end Go.Proofs.Ytminpglkipnhcaa
