/- entry: Put, what it answers, in plain words; and its walk. -/
import Derived.Test.YtjepglbolkbldaaEntE
namespace Go.Proofs.Ytjepglbolkbldaa
set_option linter.unusedVariables false
open Go.RowKit

/-- what Put answers, and the terms that stand behind it -/
def putR (ix tm : Nat) (ts : List Nat) (i t : Nat) (l : List En) : Nat × Int × List Nat :=
  if followF i t false l = 0 then
    if (termAt ix tm ts i).2 = 0 then
      if (termAt ix tm ts i).1 = t then
        if knownN ix tm ts l = l.length then (0, 0, ts)
        else if 1024 < i + knownN ix tm ts l - ix + (l.length - knownN ix tm ts l) then (0, 6, ts)
        else (i + knownN ix tm ts l + 1, 0, ts.take (i + knownN ix tm ts l - ix) ++ (l.drop (knownN ix tm ts l)).map (·.tm))
      else (0, 17, ts)
    else (0, (termAt ix tm ts i).2, ts)
  else (0, followF i t false l, ts)

theorem followF_keys : ∀ (l : List En) (i t : Nat) (g : Bool), followF i t g l = 0 → l.map key = keysFrom i (l.map (·.tm)) := by
  intro l
  induction l with
  | nil => intros; rfl
  | cons x r ih =>
    intro i t g h
    unfold followF at h
    by_cases q : x.ix = i + 1 ∧ ¬ x.tm < t
    · rw [if_pos q] at h
      simp only [List.map_cons, keysFrom]
      rw [ih _ _ _ h]
      congr 1
      simp [key, q.1]
    · rw [if_neg q] at h
      exact absurd h (by decide)
theorem followF_short : ∀ (l : List En) (i t : Nat) (g : Bool), followF i t g l = 0 → g = false ∧ ∀ x ∈ l, x.dn ≤ 900 := by
  intro l
  induction l with
  | nil =>
    intro i t g h
    refine ⟨?_, fun x hx => by cases hx⟩
    cases g
    · rfl
    · exact absurd h (by simp [followF])
  | cons x r ih =>
    intro i t g h
    unfold followF at h
    by_cases q : x.ix = i + 1 ∧ ¬ x.tm < t
    · rw [if_pos q] at h
      obtain ⟨h1, h2⟩ := ih _ _ _ h
      simp at h1
      refine ⟨h1.1, fun y hy => ?_⟩
      rcases List.mem_cons.1 hy with rfl | hy
      · exact h1.2
      · exact h2 y hy
    · rw [if_neg q] at h
      exact absurd h (by decide)
theorem termAt_in {ix tm : Nat} {ts : List Nat} {i : Nat} (h : (termAt ix tm ts i).2 = 0) : ix ≤ i ∧ i ≤ ix + ts.length := by
  unfold termAt at h
  by_cases q0 : i < ix
  · rw [if_pos q0] at h; exact absurd h (by decide)
  · rw [if_neg q0] at h
    by_cases q1 : ix + ts.length < i
    · rw [if_pos q1] at h; exact absurd h (by decide)
    · omega
theorem known_in {ix tm : Nat} {ts : List Nat} : ∀ (l : List En) (i : Nat) (us : List Nat), l.map key = keysFrom i us → i ≤ ix + ts.length → i + knownN ix tm ts l ≤ ix + ts.length := by
  intro l
  induction l with
  | nil => intro i us _ h; simpa [knownN] using h
  | cons x r ih =>
    intro i us h hi
    unfold knownN
    cases us with
    | nil => cases h
    | cons u us =>
      simp only [List.map_cons, keysFrom, List.cons.injEq, key, Prod.mk.injEq] at h
      by_cases q : termAt ix tm ts x.ix = (x.tm, 0)
      · rw [if_pos q]
        have h2 := termAt_in (ix := ix) (tm := tm) (ts := ts) (i := x.ix) (by rw [q])
        have := ih (i + 1) us h.2 (by omega)
        omega
      · rw [if_neg q]; omega

/-- a log that stands as it stood -/
theorem Added.same {base lb : Nat} {a : Option Addr} {cap ix tm : Nat} {ts : List Nat} {w w' : World} (h : Log w base lb a cap ix tm ts) (hs : Step [] w w') : Added base lb a ts.length cap ix tm ts w w' :=
  ⟨a, cap, h.step0 hs, hs.mono (by simp), fun k hk => .inl hk⟩

/-- a log in the midst of a putting: the row that it holds, and the entries that have come -/
structure PutAt (base lb ix tm kp : Nat) (A : Value) (L0 D : List En) (w wr : World) (k : Nat) (va : Option Addr) (vc : Nat) (L2 : List En) : Prop where
  keys : L2.map key = (D.take k).map key
  blk : Blk wr lb #[.int .u64 (ix : Int), .int .u64 (tm : Int), .slice va (kp + k) vc] 50
  row : RowOr wr base 42 4 (.slice va (kp + k) vc) (kp + k) (cellsL (L0.take kp ++ L2))
  own : 0 < k → wr.ownsRow base 42 4 (.slice va (kp + k) vc) (kp + k) (cellsL (L0.take kp ++ L2))
  apart : lb ∉ foot (.slice va (kp + k) vc)
  fresh : Fresh w (foot A) (foot (.slice va (kp + k) vc))
  step : Step (lb :: foot A) w wr

theorem take_succ_key {D : List En} {k : Nat} (h : k < D.length) : (D.take (k + 1)).map key = (D.take k).map key ++ [key (D.getD k en0)] := by
  have e : D.getD k en0 = D[k] := by simp [List.getD, h]
  rw [List.take_succ_eq_append_getElem h, List.map_append, e]
  rfl

theorem DataOk.stepF {F : List Nat} {w w' : World} {x : En} (h : DataOk w x) (hs : Step F w w') (hn : 0 < x.dn → ∀ b off, x.da = some ⟨b, off, none⟩ → b ∉ F) : DataOk w' x := by
  obtain ⟨l, h1, h2, h3⟩ := h
  refine ⟨l, h1, ?_, h3⟩
  by_cases q : 0 < x.dn
  · exact h2.step hs (hn q)
  · have : l = [] := List.eq_nil_of_length_eq_zero (by omega)
    subst this
    exact Bytes.nil _ _

theorem PutAt.next {base lb ix tm kp : Nat} {A : Value} {L0 D : List En} {w wr w7 w8 : World} {k : Nat} {va : Option Addr} {vc : Nat} {L2 : List En} (h : PutAt base lb ix tm kp A L0 D w wr k va vc L2) (hlb : lb < w.heap.size) (hs7 : Step [] wr w7) (hk : k < D.length)
    (x : En) (hx : key x = key (D.getD k en0)) (o : Obj) (g k8 : Nat) (hown : w8.ownsRow base 42 4 (.slice (some ⟨g, 0, none⟩) (kp + k + 1) k8) (kp + k + 1) (cellsL (L0.take kp ++ L2) ++ enCells x))
    (hs8 : Step (foot (.slice va (kp + k) vc)) (w7.alloc o) w8) (hf8 : Fresh (w7.alloc o) (foot (.slice va (kp + k) vc)) (foot (.slice (some ⟨g, 0, none⟩) (kp + k + 1) k8))) :
    PutAt base lb ix tm kp A L0 D w (w8.setCell ⟨lb, 2, none⟩ (.slice (some ⟨g, 0, none⟩) (kp + (k + 1)) k8)) (k + 1) (some ⟨g, 0, none⟩) k8 (L2 ++ [x]) := by
  have hap : lb ∉ foot (.slice (some ⟨g, 0, none⟩) (kp + (k + 1)) k8) := by
    intro hm
    rcases hf8 _ hm with h2 | h2
    · exact h.apart h2
    · rw [World.size_alloc] at h2
      have := hs7.size
      have := h.step.size
      omega
  have hc : cellsL (L0.take kp ++ L2) ++ enCells x = cellsL (L0.take kp ++ (L2 ++ [x])) := by
    rw [← List.append_assoc, cellsL_app (L0.take kp ++ L2)]
    simp [cellsL]
  rw [hc] at hown
  have hset : Step [lb] w8 (w8.setCell ⟨lb, 2, none⟩ (.slice (some ⟨g, 0, none⟩) (kp + (k + 1)) k8)) := (Step.refl [lb] w8).setCell (.inl (by simp)) 2 _
  have hown2 := owns_step hown hset (fun j hj hm => by simp at hm; subst hm; exact hap hj)
  have hst := (h.step.then hs7 (by simp)).alloc o
  refine ⟨?_, ((h.blk.step (hs7.alloc o) (by simp)).step hs8 h.apart).set 2 _, .inl hown2, fun _ => hown2, hap, ?_, ?_⟩
  · rw [List.map_append, h.keys, take_succ_key hk]
    simp [hx]
  · intro j hj
    rcases hf8 _ hj with h2 | h2
    · exact h.fresh j h2
    · have := hst.size
      exact .inr (by omega)
  · refine (hst.then hs8 (fun j hj => ?_)).setCell (.inl (by simp)) 2 _
    rcases h.fresh j hj with h2 | h2
    · exact .inl (List.mem_cons_of_mem _ h2)
    · exact .inr h2

theorem PutAt.done {base lb ix tm kp : Nat} {a : Option Addr} {cap : Nat} {ts : List Nat} {L0 D : List En} {w w3 wr wq : World} {va : Option Addr} {vc m : Nat} {L2 : List En} (hL : Log w3 base lb a cap ix tm ts)
    (h : PutAt base lb ix tm kp (.slice a ts.length cap) L0 D w wr m va vc L2) (hq : Step [] wr wq) (hm : m = D.length) (h0 : 0 < m) (hL0 : L0.map key = keysFrom ix ts) (hkp : kp ≤ ts.length) (hD : D.map key = keysFrom (ix + kp) (D.map (·.tm))) (hf : kp + m ≤ 1024) (hs : ix + ts.length < 4611686018427387904) :
    Added base lb a ts.length cap ix tm (ts.take kp ++ D.map (·.tm)) w wq := by
  have hlen : (ts.take kp ++ D.map (·.tm)).length = kp + m := by
    rw [List.length_append, List.length_take, List.length_map]; omega
  refine ⟨va, vc, ⟨?_, ⟨L0.take kp ++ L2, ?_, ?_⟩, hL.low, ?_, ?_, ?_⟩, h.step.then hq (by simp), ?_⟩
  · rw [hlen]; exact h.blk.step hq (by simp)
  · rw [List.map_append, List.map_take, hL0, keysFrom_take, keysFrom_app, h.keys, hm, List.take_length, hD, List.length_take, Nat.min_eq_left hkp]
  · rw [hlen]; exact owns_step (h.own h0) hq (by simp)
  · intro b off s e hb
    subst hb
    exact h.apart ((foot_slice _ _ _ lb).2 ⟨off, s, e⟩)
  · rw [hlen]; omega
  · rw [hlen]; omega
  · rw [hlen]; exact h.fresh
theorem owns_cap {w : World} {base e : Nat} {a : Option Addr} {n cap : Nat} {xs : List Value} (h : w.ownsRow base e 4 (.slice a n cap) n xs) : n ≤ cap ∧ (a = none → n = 0) := by
  rcases h.2 with ⟨hv, h0⟩ | ⟨g, cap', cur, hv, hg, hh, hn, hcap, hsz, htake⟩
  · omega
  · cases hv
    exact ⟨hn, fun h => by cases h⟩

theorem PutAt.start {base lb ix tm kp : Nat} {a : Option Addr} {cap : Nat} {ts : List Nat} {L D : List En} {w w3 : World} (hL : Log w3 base lb a cap ix tm ts) (hs : Step [] w w3) (hown : w3.ownsRow base 42 4 (.slice a ts.length cap) ts.length (cellsL L)) (hk : kp ≤ ts.length) :
    PutAt base lb ix tm kp (.slice a ts.length cap) L D w (w3.setCell ⟨lb, 2, none⟩ (.slice a kp kp)).drew 0 a kp [] := by
  have hst : Step [lb] w3 (w3.setCell ⟨lb, 2, none⟩ (.slice a kp kp)).drew := ((Step.refl [lb] w3).setCell (.inl (by simp)) 2 _).drew
  have hlen : L.length = ts.length := by have := hown.1; rw [cellsL_len] at this; omega
  have hE : Ents (w3.setCell ⟨lb, 2, none⟩ (.slice a kp kp)).drew a (L.take kp) := ((owns_ents hown).step hst (fun b off hb _ hm => by simp at hm; exact hL.apart b off none hb hm.symm)).take kp
  refine ⟨rfl, (hL.blk.set 2 _).drew, .inr ⟨a, rfl, fun h => ?_, ?_, fun b hb => ⟨?_, ?_⟩⟩, fun h => absurd h (by omega), ?_, fun k hk => .inl ((foot_slice _ _ _ k).2 ((foot_slice _ _ _ k).1 hk)), ?_⟩
  · have := (owns_cap hown).2 h; omega
  · rw [List.append_nil, cellsL_len, List.length_take]; omega
  · refine Nat.lt_of_lt_of_le ?_ hst.size
    subst hb
    obtain ⟨x, y, z⟩ := b
    exact owns_live hown x ((foot_slice _ _ _ x).2 ⟨y, z, rfl⟩)
  · rw [List.append_nil]
    exact hE.cells b hb
  · intro hm
    obtain ⟨off, s, e⟩ := (foot_slice _ _ _ lb).1 hm
    exact hL.apart _ _ _ e rfl
  · exact (hs.mono (by simp)).then (hst.mono (by simp)) (fun j hj => .inl hj)
end Go.Proofs.Ytjepglbolkbldaa
