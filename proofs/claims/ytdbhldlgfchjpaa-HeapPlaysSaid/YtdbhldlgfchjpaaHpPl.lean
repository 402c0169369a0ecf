/- HeapPlays: the acts that come in; what a heap and its model keep. -/
import Derived.Test.YtdbhldlgfchjpaaHpIs
import Derived.Test.YtdbhldlgfchjpaaHpKB
import Derived.Test.YtdbhldlgfchjpaaHpLives
import Derived.Test.YtdbhldlgfchjpaaOpen
namespace Go.Proofs.Ytdbhldlgfchjpaa
set_option linter.unusedVariables false
open Go.RowKit Go.Shelf HpB

/-- an act -/
structure Ac where
  kind : Int
  key : Int
  rank : Int
def ac0 : Ac := ⟨0, 0, 0⟩
/-- acts that are only read -/
def Acts (w : World) (a : Option Addr) (l : List Ac) : Prop :=
  ∀ i, i < l.length → ∃ b off, a = some ⟨b, off, none⟩ ∧ b < w.heap.size ∧ w.cell? ⟨b, off + i * 3, none⟩ = some (.int .i64 (l.getD i ac0).kind) ∧ w.cell? ⟨b, off + i * 3 + 1, none⟩ = some (.int .u8 (l.getD i ac0).key)
    ∧ w.cell? ⟨b, off + i * 3 + 2, none⟩ = some (.int .i64 (l.getD i ac0).rank) ∧ HpB.good (l.getD i ac0).key
theorem Acts.step {w w' : World} {a : Option Addr} {l : List Ac} (h : Acts w a l) (hs : Step [] w w') : Acts w' a l := fun i hi => by
  obtain ⟨b, off, ha, hlt, h0, h1, h2, h3⟩ := h i hi
  exact ⟨b, off, ha, Nat.lt_of_lt_of_le hlt hs.size, (hs.cell hlt (by simp)).trans h0, (hs.cell hlt (by simp)).trans h1, (hs.cell hlt (by simp)).trans h2, h3⟩
theorem choose_ltA {p : Nat → Ac → Prop} {n : Nat} (h : ∀ i, i < n → ∃ x, p i x) : ∃ f : Nat → Ac, ∀ i, i < n → p i (f i) := by
  refine ⟨fun i => if h' : i < n then (h i h').choose else ac0, fun i hi => ?_⟩
  simp only [hi, dite_true]
  exact (h i hi).choose_spec

set_option maxRecDepth 20000 in
open Go.ChangeShapes Go.WideShapes Go.Deep in
theorem open_acts {H : Type} {enc : TypeId × Value → H} {w : World} {base : Nat} {v : Value} {d : DataW H} {p : List MemPlace} (ho : Value.okWide Try.prog w .any base 34 v) (h : DataW.Trod enc Try.prog w 0 (fun _ => true) true 34 v d p) :
    ∃ (a : Option Addr) (cap : Nat) (vs : List Ac), v = .slice a vs.length cap ∧ Acts w a vs := by
  obtain ⟨a, len, cap, rfl⟩ := okWide_slice Try.underlying34 ho
  obtain ⟨fuel, hf⟩ := h
  rcases open_slice Try.underlying34 hf with ⟨hcs, _⟩ | ⟨x, l, c, m, n, D, Pl, hcs, _, hl, hm, hmm, _, hi⟩
  · simp [Value.cells] at hcs
    obtain ⟨rfl, rfl, rfl⟩ := hcs
    exact ⟨none, 0, [], rfl, fun i hi => by simp at hi⟩
  · simp [Value.cells] at hcs
    obtain ⟨rfl, rfl, rfl⟩ := hcs
    have hmc : m = cap := by simpa using hmm
    subst hmc
    have hce : Try.prog.cellsOf 39 = 3 := by kernel_rfl
    have each : ∀ i, i < len → ∃ q : Ac, w.cell? (x.add (i * 3)) = some (.int .i64 q.kind) ∧ w.cell? (x.add (i * 3 + 1)) = some (.int .u8 q.key) ∧ w.cell? (x.add (i * 3 + 2)) = some (.int .i64 q.rank) ∧ HpB.good q.key := fun i hil => by
      obtain ⟨cs', h1, h2⟩ := hi i (by omega)
      rw [hce] at h1
      obtain ⟨_, hlen, hcell⟩ := World.cells?_some h1
      obtain ⟨xs, k, hk, hxy, _, hxl, hf⟩ := DataW.trod_struct Try.underlying39 h2
      match xs, hxl, cs', hlen with
      | [y0, y1, y2], _, [v0, v1, v2], _ =>
        have g0 := hf 0 _ rfl
        have g1 := hf 1 _ rfl
        have g2 := hf 2 _ rfl
        have k3 : Try.prog.cellsOf 3 = 1 := by kernel_rfl
        have k4 : Try.prog.cellsOf 5 = 1 := by kernel_rfl
        simp [k3, k4] at g0 g1 g2
        obtain ⟨z0, rfl, hw0⟩ := int_field Try.underlying3 g0
        obtain ⟨z1, rfl, hw1⟩ := int_field Try.underlying5 g1
        obtain ⟨z2, rfl, hw2⟩ := int_field Try.underlying3 g2
        have e0 := hcell 0 (by omega)
        have e1 := hcell 1 (by omega)
        have e2 := hcell 2 (by omega)
        rw [add_add] at e0 e1 e2
        simp at e0 e1 e2
        exact ⟨⟨z0, z1, z2⟩, e0, e1, e2, hw1⟩
    obtain ⟨q, hq⟩ := choose_ltA each
    refine ⟨some x, m, (List.range len).map q, by simp, fun i hil => ?_⟩
    have hil' : i < len := by simpa using hil
    obtain ⟨h0, h1, h2, h3⟩ := hq i hil'
    obtain ⟨b, off, spot⟩ := x
    have hspot : spot = none := by simpa [Addr.add] using World.cell?_spot (hq 0 (by omega)).1
    subst hspot
    rw [Go.Proofs.Ytdbhldlgfchjpaa.add_plain] at h0 h1 h2
    have hg : ((List.range len).map q).getD i ac0 = q i := by simp [List.getD, hil']
    rw [hg]
    exact ⟨b, off, rfl, World.block_lt_of_cell? w _ h0, h0, by rw [Nat.add_assoc]; exact h1, by rw [Nat.add_assoc]; exact h2, h3⟩

theorem keys_split {m s : List It} (hp : m.Perm s) (hn : (s.map (fun x => x.1)).Nodup) (i : Nat) (hi : i < m.length) : (m.eraseIdx i).Perm (Hp.wok (Hp.nth m i).1 s) := by
  have h1 := Hp.get_perm m i hi
  have h2 : ((Hp.nth m i :: m.eraseIdx i).map (fun x => x.1)).Nodup := ((h1.symm.trans hp).map _).nodup_iff.2 hn
  have h3 := Hp.wok_perm (Hp.nth m i).1 (h1.symm.trans hp)
  rw [Hp.wok_head h2] at h3
  exact h3
theorem none_wok {m s : List It} (hp : m.Perm s) (k : Int) (h : ∀ x ∈ m, x.1 ≠ k) : Hp.wok k s = s := Hp.wo_none (key := fun x : It => x.1) k s (fun a ha => h a (hp.mem_iff.2 ha))
theorem none_has {m s : List It} (hp : m.Perm s) (k : Int) (h : ∀ x ∈ m, x.1 ≠ k) : HpB.hasK s k = false := by
  unfold HpB.hasK
  rw [List.any_eq_false]
  intro x hx
  simpa using h x (hp.mem_iff.2 hx)
theorem some_hasK {m s : List It} (hp : m.Perm s) (k : Int) (i : Nat) (hi : i < m.length) (h : (Hp.nth m i).1 = k) : HpB.hasK s k = true := by
  unfold HpB.hasK
  rw [List.any_eq_true]
  exact ⟨_, hp.mem_iff.1 (Hp.nth_mem m i hi), by simpa using h⟩
theorem key_one {s : List It} (hn : (s.map (fun x => x.1)).Nodup) {k r r' : Int} (h : (k, r) ∈ s) (h' : (k, r') ∈ s) : r = r' := by
  induction s with
  | nil => cases h
  | cons x t ih =>
    rw [List.map_cons, List.nodup_cons] at hn
    rcases List.mem_cons.1 h with e | h1
    · rcases List.mem_cons.1 h' with e' | h2
      · rw [← e] at e'
        injection e' with _ e2
        exact e2.symm
      · exact absurd (List.mem_map_of_mem (f := fun x : It => x.1) h2) (by rw [← e] at hn; exact hn.1)
    · rcases List.mem_cons.1 h' with e' | h2
      · exact absurd (List.mem_map_of_mem (f := fun x : It => x.1) h1) (by rw [← e'] at hn; exact hn.1)
      · exact ih hn.2 h1 h2
/-- what find and Rank say together -/
def FR (m : List It) (key r ρ : Int) (S : Bool) : Prop := (S = true ∧ ∃ i : Nat, i < m.length ∧ r = (i : Int) ∧ Hp.nth m i = (key, ρ)) ∨ (S = false ∧ r = -1 ∧ ρ = 0 ∧ ∀ x ∈ m, x.1 ≠ key)
theorem fr_of {m s : List It} {key r : Int} {e : Ending} (hp : m.Perm s) (hn : (s.map (fun x => x.1)).Nodup) (hr : (r = -1 ∧ ∀ x ∈ m, x.1 ≠ key) ∨ ∃ i : Nat, i < m.length ∧ r = (i : Int) ∧ (Hp.nth m i).1 = key)
    (hk : (∃ ρ : Int, (key, ρ) ∈ s ∧ e = .returned (.tuple #[.int .i64 ρ, .bool true])) ∨ ((∀ x ∈ s, x.1 ≠ key) ∧ e = .returned (.tuple #[.int .i64 0, .bool false]))) :
    ∃ ρ S, e = .returned (.tuple #[.int .i64 ρ, .bool S]) ∧ FR m key r ρ S := by
  rcases hk with ⟨ρ, hm, he⟩ | ⟨hno, he⟩
  · refine ⟨ρ, true, he, .inl ⟨rfl, ?_⟩⟩
    rcases hr with ⟨_, h⟩ | ⟨i, hi, hri, hk⟩
    · exact absurd rfl (h _ (hp.mem_iff.2 hm))
    · refine ⟨i, hi, hri, ?_⟩
      have h1 : (key, (Hp.nth m i).2) ∈ s := by
        have := hp.mem_iff.1 (Hp.nth_mem m i hi)
        rw [← hk]
        exact this
      have h2 := key_one hn h1 hm
      rw [← hk, ← h2]
  · refine ⟨0, false, he, .inr ⟨rfl, ?_⟩⟩
    rcases hr with ⟨h1, h2⟩ | ⟨i, hi, hri, hk⟩
    · exact ⟨h1, rfl, h2⟩
    · exact absurd hk (hno _ (hp.mem_iff.1 (Hp.nth_mem m i hi)))
/-- a heap, and its model -/
structure Pl (w1 : World) (hb : Nat) (k : Nat) (s : List It) (F : List Nat) (v : Value) (m : List It) (wr : World) : Prop where
  hs : HpB.Hs wr w1.heap.size hb s F
  prs : Prs wr w1.heap.size v m
  perm : m.Perm s
  dj : Dj (foot v) F
  st : Step [] w1 wr
  few : s.length ≤ k
theorem Pl.step {w1 : World} {hb k : Nat} {s : List It} {F : List Nat} {v : Value} {m : List It} {wr w' : World} (h : Pl w1 hb k s F v m wr) (hs : Step [] wr w') : Pl w1 hb k s F v m w' :=
  ⟨h.hs.step hs (by simp), h.prs.step hs (by simp), h.perm, h.dj, h.st.then hs (by simp), h.few⟩
theorem Pl.more {w1 : World} {hb k k' : Nat} {s : List It} {F : List Nat} {v : Value} {m : List It} {wr : World} (h : Pl w1 hb k s F v m wr) (hk : k ≤ k') : Pl w1 hb k' s F v m wr :=
  ⟨h.hs, h.prs, h.perm, h.dj, h.st, Nat.le_trans h.few hk⟩
/-- the heap goes on, the model stays -/
theorem Pl.heap {w1 : World} {hb k : Nat} {s s' : List It} {F F' : List Nat} {v : Value} {m : List It} {wr w' : World} (h : Pl w1 hb k s F v m wr) (hs : HpB.Hs w' w1.heap.size hb s' F') (st : Step F wr w') (hf : Fresh wr F F') :
    Prs w' w1.heap.size v m ∧ Dj (foot v) F' ∧ Step [] w1 w' :=
  ⟨h.prs.step st h.dj, h.dj.fresh (owns_live h.prs) hf, h.st.then st (fun k hk => .inr (h.hs.low k hk))⟩
theorem Pl.put_found {w1 : World} {hb k : Nat} {s : List It} {F F5 : List Nat} {g cm : Nat} {m : List It} {W w5 : World} (h : Pl w1 hb k s F (.slice (some ⟨g, 0, none⟩) m.length cm) m W) (i : Nat) (hi : i < m.length) (key rank : Int) (hx : (Hp.nth m i).1 = key)
    (h5 : HpB.Hs w5 w1.heap.size hb (Hp.ins HpB.lt (key, rank) (Hp.wok key s)) F5) (s5 : Step F W w5) (f5 : Fresh W F F5) :
    Pl w1 hb (k + 1) (Hp.ins HpB.lt (key, rank) (Hp.wok key s)) F5 (.slice (some ⟨g, 0, none⟩) m.length cm) (m.set i (key, rank)) (w5.setCell ⟨g, i * 2 + 1, none⟩ (.int .i64 rank)) := by
  obtain ⟨p5, d5, st5⟩ := h.heap h5 s5 f5
  have hS : Step [g] w5 (w5.setCell ⟨g, i * 2 + 1, none⟩ (.int .i64 rank)) := (Step.refl [g] w5).setCell (.inl (by simp)) _ _
  have hgf : g ∈ foot (.slice (some ⟨g, 0, none⟩) m.length cm) := by simp [foot, Value.ownBlock]
  have ho := (World.ownsRow.stored p5 (i * 2 + 1) (.int .i64 rank)).1
  rw [flat_set_rank m i rank hi, hx] at ho
  refine ⟨h5.step hS (fun j hj hm => by simp at hm; subst hm; exact d5 _ hgf hj), ?_, ?_, d5, st5.then hS (fun j hj => by simp at hj; subst hj; exact .inr (owns_base p5 _ hgf)), ?_⟩
  · unfold Prs
    rw [List.length_set]
    exact ho
  · exact (Hp.set_perm m i _ hi).trans (((by have := keys_split h.perm h.hs.keys i hi; rw [hx] at this; exact this : (m.eraseIdx i).Perm (Hp.wok key s)).cons _).trans (Hp.ins_perm _ _).symm)
  · rw [Hp.ins_len]
    have := Hp.wok_len key s
    have := h.few
    omega
theorem Pl.put_new {w1 : World} {hb k : Nat} {s : List It} {F F5 : List Nat} {v v' : Value} {m : List It} {W w5 w6 w7 : World} (h : Pl w1 hb k s F v m W) (key rank : Int) (hx : ∀ x ∈ m, x.1 ≠ key)
    (h5 : HpB.Hs w5 w1.heap.size hb (Hp.ins HpB.lt (key, rank) (Hp.wok key s)) F5) (s5 : Step F W w5) (f5 : Fresh W F F5) (s6 : Step [] w5 w6)
    (ho : w7.ownsRow w1.heap.size 44 2 v' (m.length + 1) (flatI m ++ [.int .u8 key, .int .i64 rank])) (hg : w6.grownBy w7 v.ownBlock) (hf : Fresh w6 (foot v) (foot v')) :
    Pl w1 hb (k + 1) (Hp.ins HpB.lt (key, rank) (Hp.wok key s)) F5 v' (m ++ [(key, rank)]) w7 := by
  obtain ⟨p5, d5, st5⟩ := h.heap h5 s5 f5
  have hS : Step (foot v) w5 w7 := (s6.mono (by simp)).grown hg (fun j hj => .inl (mem_foot.2 hj))
  refine ⟨h5.step hS d5.symm, ?_, ?_, ?_, st5.then hS (fun j hj => .inr (owns_base p5 _ hj)), ?_⟩
  · unfold Prs
    rw [List.length_append, List.length_singleton, flat_app]
    exact ho
  · rw [none_wok h.perm key hx]
    exact (List.perm_append_singleton _ _).trans ((h.perm.cons _).trans (Hp.ins_perm _ _).symm)
  · intro j hj
    rcases hf j hj with h1 | h1
    · exact d5 j h1
    · intro hm
      have := h5.live j hm
      have := s6.size
      omega
  · rw [Hp.ins_len]
    have := Hp.wok_len key s
    have := h.few
    omega
/-- the model is cut behind the heap -/
theorem Pl.cutm {w1 : World} {hb k : Nat} {s' : List It} {F5 : List Nat} {v' : Value} {m' : List It} {w5 w6 w7 : World} (h5 : HpB.Hs w5 w1.heap.size hb s' F5) (st5 : Step [] w1 w5) (s6 : Step [] w5 w6) (hc : Prs w7 w6.heap.size v' m') (s7 : Step [] w6 w7) (hp : m'.Perm s') (hk : s'.length ≤ k) :
    Pl w1 hb k s' F5 v' m' w7 := by
  have hS : Step [] w5 w7 := s6.then s7 (by simp)
  refine ⟨h5.step hS (by simp), owns_low hc (Nat.le_trans st5.size s6.size), hp, ?_, st5.then hS (by simp), hk⟩
  intro j hj hm
  have h1 := owns_base hc _ hj
  have h2 := h5.live j hm
  have h3 := s6.size
  omega
theorem Pl.same {w1 : World} {hb k : Nat} {s s' : List It} {F F5 : List Nat} {v : Value} {m : List It} {W w5 w6 : World} (h : Pl w1 hb k s F v m W) (h5 : HpB.Hs w5 w1.heap.size hb s' F5) (s5 : Step F W w5) (f5 : Fresh W F F5) (s6 : Step [] w5 w6) (hp : m.Perm s') (hk : s'.length ≤ k) :
    Pl w1 hb k s' F5 v m w6 := by
  obtain ⟨p5, d5, st5⟩ := h.heap h5 s5 f5
  exact ⟨h5.step s6 (by simp), p5.step s6 (by simp), hp, d5, st5.then s6 (by simp), hk⟩
end Go.Proofs.Ytdbhldlgfchjpaa
