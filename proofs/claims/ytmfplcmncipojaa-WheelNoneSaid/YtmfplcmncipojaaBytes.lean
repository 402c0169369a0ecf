/- Slices of bytes: what is read, what is owned, what is appended. -/
import Derived.Test.YtmfplcmncipojaaBase
import Derived.Laws.AppendOwnNone
namespace Go.Proofs.Ytmfplcmncipojaa
set_option linter.unusedVariables false
open Go.RowKit

theorem add_plain (b off j : Nat) : (⟨b, off, none⟩ : Addr).add j = ⟨b, off + j, none⟩ := by unfold Addr.add; split <;> simp_all

/-- a slice of bytes that is only read: these are its elements -/
def Bytes (w : World) (a : Option Addr) (l : List UInt8) : Prop :=
  ∀ i, i < l.length → ∃ b off, a = some ⟨b, off, none⟩ ∧ b < w.heap.size ∧ w.cell? ⟨b, off + i, none⟩ = some (.int .u8 (l.getD i 0).toNat)

theorem Bytes.drewN {w : World} {a : Option Addr} {l : List UInt8} (h : Bytes w a l) (n : Nat) : Bytes (w.drewN n) a l := h

theorem Bytes.nil (w : World) (a : Option Addr) : Bytes w a [] := fun _ h => absurd h (Nat.not_lt_zero _)

theorem Bytes.below {w w' : World} {a : Option Addr} {l : List UInt8} (h : Bytes w a l) (hb : Below w.heap.size w w') : Bytes w' a l := fun i hi => by
  obtain ⟨b, off, ha, hlt, hc⟩ := h i hi
  exact ⟨b, off, ha, Nat.lt_of_lt_of_le hlt hb.size, by rw [hb.cell (p := ⟨b, off + i, none⟩) hlt]; exact hc⟩

theorem Bytes.trans {w w' : World} {B : Nat} {a : Option Addr} {l : List UInt8} (h : Bytes w a l) (hb : Below B w w') (hB : ∀ b off, a = some ⟨b, off, none⟩ → b < B) : Bytes w' a l := fun i hi => by
  obtain ⟨b, off, ha, hlt, hc⟩ := h i hi
  exact ⟨b, off, ha, Nat.lt_of_lt_of_le hlt hb.size, by rw [hb.cell (p := ⟨b, off + i, none⟩) (hB b off ha)]; exact hc⟩

theorem getD_take {α : Type} (l : List α) (n i : Nat) (d : α) (h : i < n) : (l.take n).getD i d = l.getD i d := by
  simp [List.getD, h]

theorem Bytes.take {w : World} {a : Option Addr} {l : List UInt8} (h : Bytes w a l) (n : Nat) : Bytes w a (l.take n) := fun i hi => by
  rw [List.length_take] at hi
  rw [getD_take _ _ _ _ (by omega)]
  exact h i (by omega)

/-- a slice of bytes that came in, as its bytes -/
theorem IsRow.bytes {w : World} {a : Option Addr} {len cap : Nat} {z : List Int} (h : IsRow .u8 w a len cap z) :
    ∃ l : List UInt8, l.length = len ∧ len ≤ maxLen ∧ Bytes w a l ∧ (a = none → len = 0 ∧ cap = 0) ∧ len ≤ cap ∧ (∀ i, i < len → z.getD i 0 = ((l.getD i 0).toNat : Int)) := by
  rcases h with ⟨rfl, rfl, rfl, rfl⟩ | ⟨x, rfl, hl, hm, hz, hcell, hw⟩
  · exact ⟨[], rfl, Nat.zero_le _, Bytes.nil _ _, fun _ => ⟨rfl, rfl⟩, Nat.le_refl _, fun i hi => by omega⟩
  · have hval : ∀ i, i < len → ((((z.take len).map fun n => UInt8.ofNat n.toNat).getD i 0).toNat : Int) = z.getD i 0 := by
      intro i hi
      have hi' : i < z.length := by omega
      obtain ⟨u, hu⟩ := u8_of z[i] (hw _ (List.getElem_mem hi'))
      have e1 : z.getD i 0 = z[i] := by simp [List.getD, hi']
      have e2 : ((z.take len).map fun n => UInt8.ofNat n.toNat).getD i 0 = UInt8.ofNat z[i].toNat := by
        simp [List.getD, hi, hi']
      rw [e1, e2, hu]
      simp
    refine ⟨(z.take len).map fun n => UInt8.ofNat n.toNat, by simp; omega, by omega, ?_, fun h => (by cases h), hl, fun i hi => (hval i hi).symm⟩
    intro i hi
    have hi2 : i < len := by simp at hi; omega
    have hc := hcell i (by omega)
    obtain ⟨b, off, spot⟩ := x
    have hspot : spot = none := by simpa [Addr.add] using World.cell?_spot (hcell 0 (by omega))
    subst hspot
    have hc' : w.cell? ⟨b, off + i, none⟩ = some (.int .u8 (z.getD i 0)) := by rw [← add_plain]; exact hc
    exact ⟨b, off, rfl, World.block_lt_of_cell? w _ hc', by rw [hc', hval i hi2]⟩

def byteVal (b : UInt8) : Value := .int .u8 b.toNat

theorem byteVals_cell (l : List UInt8) : ∀ u ∈ l.map byteVal, u.oneCell' = true := by
  intro u hu
  obtain ⟨b, _, rfl⟩ := List.mem_map.1 hu
  rfl

theorem owns_form {w : World} {base size n : Nat} {e : TypeId} {v : Value} {xs : List Value} (h : w.ownsRow base e size v n xs) (hn : 0 < n) : ∃ g cap, v = .slice (some ⟨g, 0, none⟩) n cap ∧ base ≤ g ∧ g < w.heap.size ∧ n ≤ cap ∧ cap ≤ maxLen := by
  rcases h.2 with ⟨_, h0⟩ | ⟨g, cap, cur, hv, hg, hh, hc, hm, _, _⟩
  · omega
  · refine ⟨g, cap, hv, hg, ?_, hc, hm⟩
    rcases Nat.lt_or_ge g w.heap.size with h' | h'
    · exact h'
    · rw [Array.getElem?_eq_none h'] at hh; cases hh

/-- bytes that a row of the call's own holds are read as bytes -/
theorem owns_bytes {w : World} {base e : Nat} {v : Value} {n : Nat} {l : List UInt8} (h : w.ownsRow base e 1 v n (l.map byteVal)) :
    ∃ a cap, v = .slice a n cap ∧ l.length = n ∧ n ≤ maxLen ∧ n ≤ cap ∧ Bytes w a l ∧ (a = none → n = 0 ∧ cap = 0) ∧ (∀ b off spot, a = some ⟨b, off, spot⟩ → base ≤ b ∧ b < w.heap.size) := by
  obtain ⟨hlen, h⟩ := h
  have hl : l.length = n := by simpa using hlen
  rcases h with ⟨rfl, rfl⟩ | ⟨g, cap, cur, rfl, hg, hh, hn, hcap, hsz, htake⟩
  · exact ⟨none, 0, rfl, hl, Nat.zero_le _, Nat.le_refl _, fun i hi => by omega, fun _ => ⟨rfl, rfl⟩, fun b off spot h => by cases h⟩
  · refine ⟨some ⟨g, 0, none⟩, cap, rfl, hl, by omega, hn, ?_, fun h => (by cases h), fun b off spot h => ?_⟩
    · intro i hi
      refine ⟨g, 0, rfl, ?_, ?_⟩
      · rcases Nat.lt_or_ge g w.heap.size with h' | h'
        · exact h'
        · rw [Array.getElem?_eq_none h'] at hh; cases hh
      · have hc : cur.toList[i]? = some (byteVal (l.getD i 0)) := by
          have := congrArg (fun x : List Value => x[i]?) htake
          simp only [List.getElem?_take, List.getElem?_map] at this
          rw [if_pos (by omega)] at this
          rw [this]
          simp [List.getD, hi]
        have : cur[i]? = some (byteVal (l.getD i 0)) := by simpa using hc
        simp [World.cell?, hh, this, byteVal]
    · cases h
      refine ⟨hg, ?_⟩
      rcases Nat.lt_or_ge g w.heap.size with h' | h'
      · exact h'
      · rw [Array.getElem?_eq_none h'] at hh; cases hh

theorem owns_byte {w : World} {base e g cap n : Nat} {l : List UInt8} (h : w.ownsRow base e 1 (.slice (some ⟨g, 0, none⟩) n cap) n (l.map byteVal)) (k : Nat) (hk : k < n) :
    w.cell? ⟨g, k, none⟩ = some (.int .u8 ((l.getD k 0).toNat : Int)) := by
  have hl : l.length = n := by simpa using h.1
  have hc := h.cellAt k (by omega)
  rw [hc, List.getElem?_map, List.getElem?_eq_getElem (by omega)]
  simp [byteVal, List.getD, show k < l.length by omega]

theorem made_bytes {w : World} {base e n : Nat} {v : Value} (h : w.ownsRow base e 1 v n (madeCells #[.int .u8 0] n).toList) :
    w.ownsRow base e 1 v n ((List.replicate n (0 : UInt8)).map byteVal) := by
  rw [toList_madeCells_one] at h
  simpa [byteVal] using h

theorem stored_byte {w : World} {base e g cap n : Nat} {l : List UInt8} (h : w.ownsRow base e 1 (.slice (some ⟨g, 0, none⟩) n cap) n (l.map byteVal)) (k : Nat) (x : UInt8) :
    (w.setCell ⟨g, k, none⟩ (.int .u8 (x.toNat : Int))).ownsRow base e 1 (.slice (some ⟨g, 0, none⟩) n cap) n ((l.set k x).map byteVal) := by
  have := (h.stored k (byteVal x)).1
  rwa [List.map_set]

/-- what is appended: the cells of a slice of bytes, nil or not -/
theorem Bytes.news {w : World} {a : Option Addr} {l : List UInt8} (h : Bytes w a l) : ∀ ad, a = some ad → ∀ j u, (l.map byteVal)[j]? = some u → w.cell? (ad.add j) = some u := by
  intro ad ha j u hu
  have hj : j < l.length := by
    rcases Nat.lt_or_ge j l.length with h | h
    · exact h
    · rw [List.getElem?_eq_none (by simpa using h)] at hu; cases hu
  obtain ⟨b, off, ha', _, hc⟩ := h j hj
  rw [ha] at ha'
  cases ha'
  have : u = .int .u8 ((l.getD j 0).toNat : Int) := by
    rw [List.getElem?_map, List.getElem?_eq_getElem hj] at hu
    simp [byteVal] at hu
    rw [← hu]
    simp [List.getD, hj]
  rw [this, ← hc, add_plain]

/-- append onto a row of the call's own, whatever is appended (nil too) -/
theorem wpList_append_own_any {P : Program} {w : World} {ops : Array Oper} {rest : List Oper} {o : Oper} {a : Act} {Q : Exit → Act → World → Prop} (hgd : o.guard = none) (s x : Operand) (t : TypeId)
    (ho : o.op = .call { callee := .builtin .append, args := #[s, x], argTypes := #[t, t] })
    (base : Nat) (e : TypeId) (i : TypeInfo) (z : Value) (size bytes : Nat) (ht : P.underlying t = some (.slice e)) (hi : P.info? e = some i) (hz : i.zero = some z)
    (hsize : i.size = size) (hby : i.bytes = bytes) (hzs : z.cells.size = size) (hsz : 0 < size)
    (v : Value) (n : Nat) (xs : List Value) (hs : a.eval s = v) (hown : w.ownsRow base e size v n xs)
    (ao : Option Addr) (m c : Nat) (news : List Value) (hx : a.eval x = .slice ao m c) (hnone : ao = none → m = 0 ∧ c = 0) (hl : news.length = m * size)
    (hnews : ∀ ad, ao = some ad → ∀ j u, news[j]? = some u → w.cell? (ad.add j) = some u) (h1 : ∀ u ∈ news, u.oneCell' = true)
    (h63 : n + m ≤ maxLen) (hbytes : (n + m) * bytes ≤ 140737488355328) (hbase : base ≤ w.heap.size)
    (h : ∀ v' w', w'.ownsRow base e size v' (n + m) (xs ++ news) → w.grownBy w' v.ownBlock → wpList P ops Q rest (a.put o.dst v') w') : wpList P ops Q (o :: rest) a w := by
  cases ao with
  | some ad => exact wpList_append_own w hgd s x t ho base e i z size bytes ht hi hz hsize hby hzs hsz v n xs hs hown ad m c news hx hl (hnews ad rfl) h1 h63 hbytes hbase fun v' w' h2 h3 _ => h v' w' h2 h3
  | none =>
    obtain ⟨rfl, rfl⟩ := hnone rfl
    have hn : news = [] := List.eq_nil_of_length_eq_zero (by simpa using hl)
    subst hn
    exact wpList_append_own_none hgd s x t ho base e i size ht hi v n xs hs hown hx (h v w (by simpa using hown) (World.grownBy.refl _ _))

theorem Try.infoB : (Try.prog.info? 5).map (fun i => (i.zero, i.size, i.bytes)) = some (some (.int .u8 0), 1, 1) := by kernel_rfl

end Go.Proofs.Ytmfplcmncipojaa
