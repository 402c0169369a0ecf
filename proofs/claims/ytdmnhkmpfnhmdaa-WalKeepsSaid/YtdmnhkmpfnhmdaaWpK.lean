/- Several texts in one: WalKa, WalKp, WalK. -/
import Derived.Test.YtdmnhkmpfnhmdaaWpH
import Derived.Test.YtdmnhkmpfnhmdaaWpE
import Derived.Laws.AppendOwnNone
section
namespace Go.Proofs.Ytdmnhkmpfnhmdaa
set_option linter.unusedVariables false
open Go.RowKit

structure Ak where
  kind : Int
  n : Int
  r : Rr
  keep : Int
def ak0 : Ak := ⟨0, 0, rr0, 0⟩
/-- acts that are only read -/
def AksIn (w : World) (a : Option Addr) (l : List Ak) : Prop :=
  ∀ i, i < l.length → ∃ b off, a = some ⟨b, off, none⟩ ∧ b < w.heap.size ∧ w.cell? ⟨b, off + i * 5, none⟩ = some (.int .i64 (l.getD i ak0).kind) ∧ w.cell? ⟨b, off + i * 5 + 1, none⟩ = some (.int .i64 (l.getD i ak0).n)
    ∧ w.cell? ⟨b, off + i * 5 + 2, none⟩ = some (.int .u8 ((l.getD i ak0).r.k.toNat : Int)) ∧ w.cell? ⟨b, off + i * 5 + 3, none⟩ = some (l.getD i ak0).r.sl ∧ w.cell? ⟨b, off + i * 5 + 4, none⟩ = some (.int .u64 (l.getD i ak0).keep)
    ∧ RecIn w (l.getD i ak0).r.a (l.getD i ak0).r.c (l.getD i ak0).r.d ∧ (0 < (l.getD i ak0).r.d.length → ∀ b off, (l.getD i ak0).r.a = some ⟨b, off, none⟩ → b < w.heap.size)
theorem choose_ltK {p : Nat → Ak → Prop} {n : Nat} (h : ∀ i, i < n → ∃ x, p i x) : ∃ f : Nat → Ak, ∀ i, i < n → p i (f i) := by
  classical
  refine ⟨fun i => if hi : i < n then (h i hi).choose else ak0, fun i hi => ?_⟩
  simp only [hi, dite_true]
  exact (h i hi).choose_spec

set_option maxRecDepth 20000 in
open Go.ChangeShapes Go.WideShapes Go.Deep in
theorem open_aks {H : Type} {enc : TypeId × Value → H} {w : World} {base : Nat} {v : Value} {d : DataW H} {p : List MemPlace} (ho : Value.okWide Try.prog w .any base 54 v) (h : DataW.Trod enc Try.prog w 0 (fun _ => true) true 54 v d p) :
    ∃ (a : Option Addr) (cap : Nat) (vs : List Ak), v = .slice a vs.length cap ∧ AksIn w a vs := by
  obtain ⟨a, len, cap, rfl⟩ := okWide_slice Try.underlying54 ho
  obtain ⟨fuel, hf⟩ := h
  rcases open_slice Try.underlying54 hf with ⟨hcs, _⟩ | ⟨x, l, c, m, n, D, Pl, hcs, _, hl, hm, hmm, _, hi⟩
  · simp [Value.cells] at hcs
    obtain ⟨rfl, rfl, rfl⟩ := hcs
    exact ⟨none, 0, [], rfl, fun i hi => by simp at hi⟩
  · simp [Value.cells] at hcs
    obtain ⟨rfl, rfl, rfl⟩ := hcs
    have hmc : m = cap := by simpa using hmm
    subst hmc
    have hce : Try.prog.cellsOf 56 = 5 := by kernel_rfl
    have each : ∀ i, i < len → ∃ q : Ak, w.cell? (x.add (i * 5)) = some (.int .i64 q.kind) ∧ w.cell? (x.add (i * 5 + 1)) = some (.int .i64 q.n) ∧ w.cell? (x.add (i * 5 + 2)) = some (.int .u8 (q.r.k.toNat : Int)) ∧ w.cell? (x.add (i * 5 + 3)) = some q.r.sl ∧ w.cell? (x.add (i * 5 + 4)) = some (.int .u64 q.keep)
        ∧ RecIn w q.r.a q.r.c q.r.d ∧ (0 < q.r.d.length → ∀ b off, q.r.a = some ⟨b, off, none⟩ → b < w.heap.size) := fun i hil => by
      obtain ⟨cs', h1, h2⟩ := hi i (by omega)
      rw [hce] at h1
      obtain ⟨_, hlen, hcell⟩ := World.cells?_some h1
      obtain ⟨xs, k, hk, hxy, _, hxl, hf⟩ := DataW.trod_struct Try.underlying56 h2
      match xs, hxl, cs', hlen with
      | [y0, y1, y2, y3], _, [v0, v1, v2, v3, v4], _ =>
        have g0 := hf 0 _ rfl
        have g1 := hf 1 _ rfl
        have g2 := hf 2 _ rfl
        have g3 := hf 3 _ rfl
        have k3 : Try.prog.cellsOf 3 = 1 := by kernel_rfl
        have k4 : Try.prog.cellsOf 23 = 1 := by kernel_rfl
        have k5 : Try.prog.cellsOf 32 = 1 := by kernel_rfl
        have k6 : Try.prog.cellsOf 5 = 1 := by kernel_rfl
        have k7 : Try.prog.cellsOf 34 = 2 := by kernel_rfl
        simp [k3, k4, k7] at g0 g1 g2 g3
        obtain ⟨z0, rfl, hw0⟩ := int_field Try.underlying3 g0
        obtain ⟨z1, rfl, hw1⟩ := int_field Try.underlying3 g1
        obtain ⟨z4, rfl, hw4⟩ := int_field Try.underlying23 g3
        obtain ⟨ys, kk, hkk, hyy, _, hyl, hgf⟩ := DataW.trod_struct Try.underlying34 g2
        match ys, hyl with
        | [w0, w1], _ =>
          have j0 := hgf 0 _ rfl
          have j1 := hgf 1 _ rfl
          simp [k5, k6] at j0 j1
          obtain ⟨z2, rfl, hw2⟩ := int_field Try.underlying5 j0
          obtain ⟨k0, rfl⟩ := u8_of z2 hw2
          have e0 := hcell 0 (by omega)
          have e1 := hcell 1 (by omega)
          have e2 := hcell 2 (by omega)
          have e3 := hcell 3 (by omega)
          have e4 := hcell 4 (by omega)
          rw [add_add] at e0 e1 e2 e3 e4
          simp at e0 e1 e2 e3 e4
          have hrow : ∃ (da : Option Addr) (dn dc : Nat) (zs : List Int), v3 = .slice da dn dc ∧ IsRow .u8 w da dn dc zs := by
            rcases open_ints Try.underlying32 Try.underlying5 (by kernel_rfl) j1 with ⟨hcs, _⟩ | ⟨x, l, c, zs, hcs, _, hl, hm, hz, _, hcell, hwz⟩
            · exact ⟨none, 0, 0, [], by simpa using hcs, .inl ⟨rfl, rfl, rfl, rfl⟩⟩
            · exact ⟨some x, l, c, zs, by simpa using hcs, .inr ⟨_, rfl, hl, hm, by simpa using hz, hcell, hwz⟩⟩
          obtain ⟨da, dn, dc, zs, rfl, hr⟩ := hrow
          obtain ⟨bs, hbl, hmx, hb, hbn, _, _⟩ := hr.bytes
          subst hbl
          refine ⟨⟨z0, z1, ⟨k0, da, dc, bs⟩, z4⟩, e0, e1, e2, e3, e4, ⟨hb, hbn, hmx⟩, fun hq b off hda => ?_⟩
          simp only at hq hda
          obtain ⟨b2, off2, hb2, hlt, _⟩ := hb 0 (by omega)
          rw [hda] at hb2
          cases hb2
          exact hlt
    obtain ⟨q, hq⟩ := choose_ltK each
    refine ⟨some x, m, (List.range len).map q, by simp, fun i hil => ?_⟩
    have hil' : i < len := by simpa using hil
    obtain ⟨h0, h1, h2, h3, h4, h5⟩ := hq i hil'
    obtain ⟨b, off, spot⟩ := x
    have hspot : spot = none := by simpa [Addr.add] using World.cell?_spot (hq 0 (by omega)).1
    subst hspot
    rw [Go.Proofs.Ytdmnhkmpfnhmdaa.add_plain] at h0 h1 h2 h3 h4
    have hg : ((List.range len).map q).getD i ak0 = q i := by simp [List.getD, hil']
    rw [hg]
    exact ⟨b, off, rfl, World.block_lt_of_cell? w _ h0, h0, by rw [Nat.add_assoc]; exact h1, by rw [Nat.add_assoc]; exact h2, by rw [Nat.add_assoc]; exact h3, by rw [Nat.add_assoc]; exact h4, h5⟩
end Go.Proofs.Ytdmnhkmpfnhmdaa
end

section
namespace Go.Proofs.Ytdmnhkmpfnhmdaa
set_option linter.unusedVariables false
open Go.RowKit

/-- append of nothing, to whatever slice -/
theorem wpList_append_niln {P : Program} {w : World} {ops : Array Oper} {rest : List Oper} {o : Oper} {a : Act} {Q : Exit → Act → World → Prop} (hgd : o.guard = none) (s x : Operand) (t : TypeId)
    (ho : o.op = .call { callee := .builtin .append, args := #[s, x], argTypes := #[t, t] })
    (e : TypeId) (i : TypeInfo) (size : Nat) (ht : P.underlying t = some (.slice e)) (hi : P.info? e = some i) 
    (ao : Option Addr) (n c : Nat) (hnc : n ≤ c) (hs : a.eval s = .slice ao n c) (hx : a.eval x = .slice none 0 0) (hn : ao = none → n = 0 ∧ c = 0)
    (h : wpList P ops Q rest (a.put o.dst (.slice ao n c)) w) : wpList P ops Q (o :: rest) a w := by
  refine wpList_plain hgd fun K hK => ?_
  have hrun : (Builtin.append_ #[t, t] o.type #[.slice ao n c, .slice none 0 0]).run P w = .ok (.slice ao n c) w := by
    cases ao with
    | none =>
      obtain ⟨rfl, rfl⟩ := hn rfl
      simp [Builtin.append_, run_underlying ht, sizeOf, typeInfo, hi, Builtin.lenOf, Builtin.firstCells]
    | some ad => simp [Builtin.append_, run_underlying ht, sizeOf, typeInfo, hi, Builtin.lenOf, Builtin.firstCells, hnc, storeCells]
  unfold Oper.wp
  simp [execOp, ho, resolve, invoke, builtin, hs, hx, hrun, Result.andThen]
  exact hK _ _ h
theorem wpList_append_nilt {P : Program} {w : World} {ops : Array Oper} {rest : List Oper} {o : Oper} {a : Act} {Q : Exit → Act → World → Prop} (hgd : o.guard = none) (s x : Operand) (t : TypeId)
    (ho : o.op = .call { callee := .builtin .append, args := #[s, x], argTypes := #[t, t] })
    (e : TypeId) (i : TypeInfo) (size : Nat) (ht : P.underlying t = some (.slice e)) (hi : P.info? e = some i) 
    (ao : Option Addr) (n c : Nat) (hnc : n ≤ c) (hs : a.eval s = .slice ao n c) (hx : a.eval x = .slice none 0 0) (hn : ao = none → n = 0 ∧ c = 0)
    (h : ∀ w', Step [] w w' → wpList P ops Q rest (a.put o.dst (.slice ao n c)) w') : wpList P ops Q (o :: rest) a w :=
  wpList_append_niln hgd s x t ho e i size ht hi ao n c hnc hs hx hn (h w (Step.refl _ _))
theorem getD_drop {α : Type} (l : List α) (k i : Nat) (d : α) : (l.drop k).getD i d = l.getD (k + i) d := by simp [List.getD]
theorem footR_mem {a : Option Addr} {l : List Rr} {k : Nat} : k ∈ footR a l ↔ (0 < l.length ∧ k ∈ footA a) ∨ ∃ x ∈ l, 0 < x.d.length ∧ k ∈ footA x.a := by
  unfold footR
  rw [List.mem_append, List.mem_flatMap]
  constructor
  · rintro (h | ⟨x, hx, h⟩)
    · split at h
      · exact absurd h (by simp)
      · exact .inl ⟨by omega, h⟩
    · split at h
      · exact absurd h (by simp)
      · exact .inr ⟨x, hx, by omega, h⟩
  · rintro (⟨h1, h2⟩ | ⟨x, hx, h1, h2⟩)
    · exact .inl (by rw [if_neg (by omega)]; exact h2)
    · exact .inr ⟨x, hx, by rw [if_neg (by omega)]; exact h2⟩
/-- a row of records cut at the front -/
theorem Rcs.cut {P : Program} {w : World} {a : Option Addr} {l : List Rr} {cap : Nat} (h : Rcs w a cap l) (t e : TypeId) (ht : P.underlying t = some (.slice e)) (hz : ∀ w, (Go.sizeOf e).run P w = .ok 2 w) (k : Nat) (hk : k ≤ l.length) :
    ∃ a', (∀ W : World, (Instr.slice t (.slice a l.length cap) (some (.int .i64 (k : Int))) none none).run P W = .ok (.slice a' (l.length - k) (cap - k)) W) ∧ Rcs w a' (cap - k) (l.drop k) ∧ ∀ x, x ∈ footR a' (l.drop k) → x ∈ footR a l := by
  have ht' : P.underlying t = some (.slice (P.elem t)) := by simp [Program.elem, ht]
  have he : P.elem t = e := by simp [Program.elem, ht]
  have hl := h.recs.room
  have hm := h.max
  have hfa : ∀ (a' : Option Addr), (∀ x, x ∈ footA a' → x ∈ footA a) → ∀ x, x ∈ footR a' (l.drop k) → x ∈ footR a l := fun a' ha x hx => by
    rcases footR_mem.1 hx with ⟨h1, h2⟩ | ⟨y, hy, h1, h2⟩
    · exact footR_mem.2 (.inl ⟨by rw [List.length_drop] at h1; omega, ha x h2⟩)
    · exact footR_mem.2 (.inr ⟨y, List.mem_of_mem_drop hy, h1, h2⟩)
  refine ⟨if cap = k then a else a.map (·.add (k * 2)), fun W => ?_, ?_, ?_⟩
  · rw [run_slice_l W t _ _ _ ht' .i64 _ (by omega) (by omega), he, hz]
    simp [Result.andThen, sliced]
  · by_cases hc : cap = k
    · rw [if_pos hc]
      have hnil : l.drop k = [] := List.drop_eq_nil_of_le (by omega)
      rw [hnil]
      exact ⟨⟨fun i hi => absurd hi (Nat.not_lt_zero _), Nat.zero_le _, fun ha => ⟨rfl, by omega⟩, fun x hx => absurd hx (by simp)⟩, h.plain, by omega⟩
    · rw [if_neg hc]
      cases a with
      | none => have := (h.recs.nil rfl).2; omega
      | some ad =>
        have hsp := h.plain ad rfl
        obtain ⟨b, off, sp⟩ := ad
        simp only at hsp
        subst hsp
        refine ⟨⟨fun i hi => ?_, by rw [List.length_drop]; omega, fun ha => (by cases ha), fun x hx => h.recs.data x (List.mem_of_mem_drop hx)⟩, fun ad ha => ?_, by omega⟩
        · rw [List.length_drop] at hi
          obtain ⟨b', off', hb, hlt, c0, c1⟩ := h.recs.cells (k + i) (by omega)
          cases hb
          rw [getD_drop]
          exact ⟨b, off + k * 2, by simp [add_plain], hlt, by rw [Nat.add_assoc, ← Nat.add_mul]; exact c0, by rw [Nat.add_assoc off, ← Nat.add_mul]; exact c1⟩
        · simp only [Option.map_some, add_plain, Option.some.injEq] at ha
          subst ha
          rfl
  · refine hfa _ (fun x hx => ?_)
    split at hx
    · exact hx
    · obtain ⟨o, s, he⟩ := mem_footA.1 hx
      cases a with
      | none => cases he
      | some ad =>
        have hsp := h.plain ad rfl
        obtain ⟨b, off, sp⟩ := ad
        simp only at hsp
        subst hsp
        simp only [Option.map_some, add_plain, Option.some.injEq] at he
        cases he
        exact mem_footA.2 ⟨off, none, rfl⟩
theorem recsR_app {a : List (UInt8 × List UInt8)} (h : a.any isSeal = true) (b : List (UInt8 × List UInt8)) : recsR (a ++ b) = recsR a ++ b := by
  obtain ⟨y, hy, hc⟩ := List.any_eq_true.1 h
  exact List.eraseP_append_left hc _ hy
theorem recsR_length {a : List (UInt8 × List UInt8)} (h : a.any isSeal = true) : (recsR a).length + 1 = a.length := by
  obtain ⟨y, hy, hc⟩ := List.any_eq_true.1 h
  unfold recsR
  have := List.length_eraseP_of_mem hy hc
  have h2 : 0 < a.length := List.length_pos_of_mem hy
  omega
/-- a record's data, where they stood at the beginning -/
def DatIn (w : World) (x : Rr) : Prop := RecIn w x.a x.c x.d ∧ (0 < x.d.length → ∀ b off, x.a = some ⟨b, off, none⟩ → b < w.heap.size)
theorem DatIn.step {w w' : World} {x : Rr} (h : DatIn w x) (hs : Step [] w w') : DatIn w' x := ⟨h.1.stepA hs (by simp), fun hq b off hb => Nat.lt_of_lt_of_le (h.2 hq b off hb) hs.size⟩
theorem DatIn.foot {w : World} {x : Rr} (h : DatIn w x) (hd : 0 < x.d.length) : ∀ k, k ∈ footA x.a → k < w.heap.size := fun k hk => by
  obtain ⟨o, s, he⟩ := mem_footA.1 hk
  obtain ⟨b, off, hb, hlt, -⟩ := h.1.bytes 0 hd
  rw [he] at hb
  cases hb
  exact hlt
structure Kp (w0 : World) (B db : Nat) (lv : Value) (i lb : Nat) (sa : Option Addr) (sc : Nat) (bv : Value) (sy bh : List Rr) (w : World) : Prop where
  wl : ∃ (wv tv : Value) (S : List (List UInt8)) (W : List (Nat × List UInt8)) (h t : Nat) (rs0 rs : List (UInt8 × List UInt8)), Wl w B db lb lv wv tv S W h t rs0 rs ∧ S.length = 200 ∧ recsR rs0 = sy.map Rr.pr ∧ rs = rs0 ++ bh.map Rr.pr ∧ W.length ≤ 3 * i ∧ t ≤ i + 1
       ∧ (∀ k, k ∈ footR sa sy → k ∉ footW lb db lv wv tv) ∧ (∀ k, k ∈ foot bv → k ∉ footW lb db lv wv tv)
  syr : Rcs w sa sc sy
  own : w.ownsRow B 34 2 bv bh.length (rowR bh)
  nilB : bh = [] → bv = .slice none 0 0
  dat : ∀ x ∈ bh, DatIn w0 x
  sepR : ∀ k, k ∈ foot bv → k ∉ footR sa sy
  okS : OkR sy
  okB : OkR bh
  cnt : sy.length + bh.length ≤ i
  st : Step [] w0 w
  low : B ≤ w.heap.size
  base : w0.heap.size ≤ B
theorem Kp.quiet {w0 : World} {B db : Nat} {lv : Value} {i lb : Nat} {sa : Option Addr} {sc : Nat} {bv : Value} {sy bh : List Rr} {w w' : World} (h : Kp w0 B db lv i lb sa sc bv sy bh w) (hs : Step [] w w') : Kp w0 B db lv i lb sa sc bv sy bh w' := by
  obtain ⟨wv, tv, S, W, h0, t, rs0, rs, h1, h2⟩ := h.wl
  exact ⟨⟨wv, tv, S, W, h0, t, rs0, rs, h1.step hs (by simp), h2⟩, h.syr.stepF hs (by simp), owns_step h.own hs (by simp), h.nilB, h.dat, h.sepR, h.okS, h.okB, h.cnt, h.st.then hs (by simp), Nat.le_trans h.low hs.size, h.base⟩
/-- a row of the call's own that holds what was synced, and what is behind it -/
theorem rows_joined {w0 w w' : World} {base : Nat} {sa : Option Addr} {sc : Nat} {sy bh : List Rr} (hs : Step [] w w') (h0 : Step [] w0 w) (hsy : Rcs w sa sc sy) (hdat : ∀ x ∈ bh, DatIn w0 x) {v : Value}
    (ho : w'.ownsRow base 34 2 v (sy.length + bh.length) (rowR sy ++ rowR bh)) :
    ∃ a c, v = .slice a (sy.length + bh.length) c ∧ Rcs w' a c (sy ++ bh) ∧ footA a = foot v ∧ ∀ k, k ∈ footR a (sy ++ bh) → k ∈ foot v ∨ k ∈ footR sa sy ∨ k < w0.heap.size := by
  have hrow : rowR (sy ++ bh) = rowR sy ++ rowR bh := by simp [rowR]
  rw [← hrow, ← List.length_append] at ho
  obtain ⟨a, c, hv, hr, hf⟩ := Rcs.ofRow ho (fun x hx => by
    rcases List.mem_append.1 hx with h | h
    · obtain ⟨h1, h2⟩ := hsy.recs.data x h
      exact ⟨h1.stepA hs (by simp), fun hq b off hb => Nat.lt_of_lt_of_le (h2 hq b off hb) hs.size⟩
    · exact ((hdat x h).step h0).step hs)
  refine ⟨a, c, by rw [hv, List.length_append], hr, hf, fun k hk => ?_⟩
  rcases footR_mem.1 hk with ⟨h1, h2⟩ | ⟨x, hx, h1, h2⟩
  · exact .inl (by rw [← hf]; exact h2)
  · rcases List.mem_append.1 hx with h | h
    · exact .inr (.inl (footR_mem.2 (.inr ⟨x, h, h1, h2⟩)))
    · exact .inr (.inr ((hdat x h).foot h1 k h2))
/-- what Open tells of what was synced, and what was appended behind -/
theorem kp_told {rs0 rs : List (UInt8 × List UInt8)} {sy bh gl : List Rr} {kk : Nat} (hs : rs0.any isSeal = true) (h1 : recsR rs0 = sy.map Rr.pr) (h2 : rs = rs0 ++ bh.map Rr.pr) (k1 : rs0.length ≤ kk) (k2 : kk ≤ rs.length) (h3 : gl.map Rr.pr = recsR (rs.take kk)) :
    gl.map Rr.pr <+: sy.map Rr.pr ++ bh.map Rr.pr ∧ sy.length ≤ gl.length ∧ gl.length ≤ sy.length + bh.length := by
  have h4 : rs.take kk = rs0 ++ (bh.map Rr.pr).take (kk - rs0.length) := by
    rw [h2, List.take_append, List.take_of_length_le k1]
  rw [h4, recsR_app hs, h1] at h3
  have hp : gl.map Rr.pr <+: sy.map Rr.pr ++ bh.map Rr.pr := by
    rw [h3]
    exact (List.prefix_append_right_inj _).2 (List.take_prefix _ _)
  have hl := congrArg List.length h3
  have hl2 := hp.length_le
  rw [List.length_append, List.length_map, List.length_map] at hl
  rw [List.length_append, List.length_map, List.length_map, List.length_map] at hl2
  exact ⟨hp, by omega, hl2⟩
theorem okR_prefix {gl l : List Rr} (h : gl.map Rr.pr <+: l.map Rr.pr) (hl : OkR l) : OkR gl := fun x hx => by
  have h1 : x.pr ∈ l.map Rr.pr := h.mem (List.mem_map.2 ⟨x, hx, rfl⟩)
  obtain ⟨y, hy, he⟩ := List.mem_map.1 h1
  have h2 := hl y hy
  simp only [Rr.pr, Prod.mk.injEq] at he
  rw [he.1, he.2] at h2
  exact h2
theorem okR_app {a b : List Rr} (ha : OkR a) (hb : OkR b) : OkR (a ++ b) := fun x hx => (List.mem_append.1 hx).elim (ha x) (hb x)
theorem sealed_len {rs0 : List (UInt8 × List UInt8)} {sy : List Rr} (hs : rs0.any isSeal = true) (h1 : recsR rs0 = sy.map Rr.pr) : rs0.length = sy.length + 1 := by
  have h2 := recsR_length hs
  rw [h1, List.length_map] at h2
  omega
theorem flens_erase_le : ∀ (rs : List (UInt8 × List UInt8)), (∀ r ∈ rs, r.2.length ≤ 1024) → flens rs ≤ flens (recsR rs) + 1040
  | [], _ => Nat.zero_le _
  | r :: rs, h => by
    unfold recsR
    rw [List.eraseP_cons]
    by_cases hr : isSeal r = true
    · rw [hr, cond_true, flens_cons]
      have h1 := flen_most r
      have h2 := h r (by simp)
      omega
    · simp only [Bool.not_eq_true] at hr
      rw [hr, cond_false, flens_cons, flens_cons]
      have h2 := flens_erase_le rs (fun x hx => h x (List.mem_cons_of_mem _ hx))
      unfold recsR at h2
      omega
theorem Kp.next {w0 : World} {B db : Nat} {lv : Value} {i lb : Nat} {sa : Option Addr} {sc : Nat} {bv : Value} {sy bh : List Rr} {w : World} (h : Kp w0 B db lv i lb sa sc bv sy bh w) : Kp w0 B db lv (i + 1) lb sa sc bv sy bh w := by
  obtain ⟨wv, tv, S, W, h0, t, rs0, rs, h1, h2, h3, h4, h5, h6, h7⟩ := h.wl
  exact ⟨⟨wv, tv, S, W, h0, t, rs0, rs, h1, h2, h3, h4, by omega, by omega, h7⟩, h.syr, h.own, h.nilB, h.dat, h.sepR, h.okS, h.okB, by have := h.cnt; omega, h.st, h.low, h.base⟩
theorem own_emptyR (w : World) (base : Nat) (hb : base ≤ w.heap.size) : (w.alloc (.cells #[] 34)).ownsRow base 34 2 (.slice (some ⟨w.heap.size, 0, none⟩) 0 0) 0 [] := by
  refine ⟨rfl, .inr ⟨w.heap.size, 0, #[], rfl, hb, ?_, Nat.le_refl _, Nat.zero_le _, rfl, rfl⟩⟩
  exact Go.heap_alloc_new _ _
end Go.Proofs.Ytdmnhkmpfnhmdaa
end

section
namespace Go.Proofs.Ytdmnhkmpfnhmdaa
set_option linter.unusedVariables false
open Go.RowKit

/-- whether one that waits is kept -/
def keepB (K : Int) (i : Nat) : Bool := bits .and .u64 (K / 2 ^ (i % 64)) 1 == 1
theorem keep_any (kb : Nat) (K : Int) (i : Nat) (w : World) (hc : w.cell? ⟨kb, 0, none⟩ = some (.int .u64 K)) : Calls Try.prog 41 #[.int .i64 (i : Int), .pointer (some ⟨kb, 0, none⟩)] w fun e w' => e = .returned (.bool (keepB K i)) ∧ w = w' := by
  go_enter Try.func41, Try.ntmps41
  go_wp2_with fail
  go_ret
  exact ⟨rfl, rfl⟩
theorem keeps_any (K : Int) (w : World) : Calls Try.prog 25 #[.int .u64 K] w fun e w' => e = .returned (.func (.func 41) #[] #[.pointer (some ⟨w.heap.size, 0, none⟩)]) ∧ w' = w.alloc (.cells #[.int .u64 K] 23) := by
  go_enter Try.func25, Try.ntmps25
  go_wp2_with fail
  go_ret
  exact ⟨rfl, rfl⟩

set_option maxRecDepth 20000 in
set_option maxHeartbeats 40000000 in
theorem keeps_law (a : Option Addr) (cap : Nat) (l : List Ak) (w : World) (hA : ∀ w', Step [] w w' → AksIn w' a l) :
    Calls Try.prog 7 #[.slice a l.length cap] w fun e w' => e = .returned (.bool true) ∧ Step [] w w' := by
  obtain ⟨j0, hj0, hjz, hj1, hj2⟩ := info_parts Try.infoR
  obtain ⟨n, hn⟩ : ∃ n, l.length = n := ⟨_, rfl⟩
  rw [hn]
  have HA := Lib.hid hA
  have HN := Lib.hid hn
  clear hA hn
  go_enter Try.func7, Try.ntmps7
  go_wp2_with fail
  refine (lives_any w).mono ?_
  rintro e w1 ⟨rfl, hs1⟩
  have HS1 := Lib.hid hs1
  clear hs1
  by_cases hn50 : 50 < n
  · have p1 : decide ((50 : Int) < (n : Int)) = true := by simp; omega
    go_wp2_with fail
    refine (lives_any w1).mono ?_
    rintro e w2 ⟨rfl, hs2⟩
    have HS2 := Lib.hid (HS1.out.then hs2 (by simp))
    clear hs2
    go_wp2_with fail
    go_ret
    exact ⟨rfl, HS2.out⟩
  have p1 : decide ((50 : Int) < (n : Int)) = false := by simp; omega
  go_wp2_with fail
  refine (new_any 200 w1 (by decide) (by decide)).mono ?_
  rintro e w2 ⟨db, lv, rfl, hD, hs2⟩
  have HS2 := Lib.hid (HS1.out.then hs2 (by simp))
  have hz2 := hs2.size
  have HF := Lib.hid (wl_format_new w1.heap.size db 200 lv _ w2 hD (by omega) (by omega) hz2)
  have HL2 := Lib.hid hD.base
  have HZ1 := Lib.hid HS1.out.size
  clear hD hs2
  go_wp2_with fail
  refine HF.out.mono ?_
  rintro e w3 ⟨lb, tv, S', rfl, h3, hS3, -, hs3⟩
  have hk3 : Kp w w1.heap.size db lv 0 lb none 0 (.slice none 0 0) [] [] w3 :=
    ⟨⟨_, tv, S', [], 0, 1, [(255, [])], [(255, [])], h3, hS3, by rfl, by simp, by simp, by omega, fun k hk => absurd hk (by rw [footR_none]; simp), fun k hk => absurd hk (by simp [foot, Value.ownBlock])⟩, rcs_none w3, World.ownsRow_nil _ _ _ _, fun _ => rfl, fun x hx => absurd hx (by simp), fun k hk => absurd hk (by simp [foot, Value.ownBlock]), fun x hx => absurd hx (by simp), fun x hx => absurd hx (by simp), by simp, HS2.out.then hs3 (fun k hk => .inr (Nat.le_trans HZ1.out (HL2.out k hk))), Nat.le_trans hz2 hs3.size, HZ1.out⟩
  have HK3 := Lib.hid hk3
  clear h3 hs3 hS3 hk3
  go_wp2_with fail
  go_loopw [5, 7, 8, 46] (fun x sv bv j wr => ∃ (i lb : Nat) (sa : Option Addr) (sc : Nat) (sy bh : List Rr), i ≤ n ∧ x = .pointer (some ⟨lb, 0, none⟩) ∧ sv = .slice sa sy.length sc ∧ j = .int .i64 (i : Int) ∧ Kp w w1.heap.size db lv i lb sa sc bv sy bh wr) (fun _ _ _ j _ => n - (intOf j).toNat)
  case atStart => exact ⟨0, lb, none, 0, [], [], by omega, rfl, rfl, rfl, HK3.out⟩
  case round =>
    obtain ⟨i, lb, sa, sc, sy, bh, hi, rfl, rfl, rfl, hK⟩ := hrel
    obtain ⟨bv, rfl⟩ : ∃ bv, bv = u8 := ⟨_, rfl⟩
    have HK := Lib.hid hK
    clear hK
    by_cases hlt : i < n
    · have p3 : (i : Int) < (n : Int) := by omega
      have p4 : (0 : Int) ≤ (i : Int) := by omega
      obtain ⟨b, off, rfl, hblt, c0, c1, c2, c3, c4, hxr, hxl⟩ := HA.out wr HK.out.st i (by rw [HN.out]; exact hlt)
      obtain ⟨-, -, -, -, -, -, -, -, -, hx0, hx0l⟩ := HA.out w (Step.refl _ _) i (by rw [HN.out]; exact hlt)
      obtain ⟨x, hxe⟩ : ∃ x, l.getD i ak0 = x := ⟨_, rfl⟩
      rw [hxe] at c0 c1 c2 c3 c4 hxr hxl hx0 hx0l
      obtain ⟨kind, num, ⟨k, xa, xc, d⟩, keep⟩ := x
      simp only [Rr.sl] at c0 c1 c2 c3 c4 hxr hxl hx0 hx0l
      obtain ⟨DL, hDL⟩ : ∃ DL, d.length = DL := ⟨_, rfl⟩
      rw [hDL] at c3
      have HDL := Lib.hid hDL
      have HX := Lib.hid (And.intro hxr (show DatIn w ⟨k, xa, xc, d⟩ from ⟨hx0, hx0l⟩))
      clear hDL hxr hxl hx0 hx0l hxe
      by_cases h60 : 60 < DL
      · have p5 : (60 : Int) < (DL : Int) := by omega
        go_wp2_with fail
        go_ret
        exact ⟨rfl, HK.out.st.alloc _⟩
      have p5 : ¬ (60 : Int) < (DL : Int) := by omega
      obtain ⟨W, hW⟩ : ∃ W, wr.alloc (.cells #[.int .i64 kind, .int .i64 num, .int .u8 (k.toNat : Int), .slice xa DL xc, .int .u64 keep] 56) = W := ⟨_, rfl⟩
      have hsW : Step [] wr W := by rw [← hW]; exact (Step.refl [] wr).alloc _
      have hbW : Blk W wr.heap.size #[.int .i64 kind, .int .i64 num, .int .u8 (k.toNat : Int), .slice xa DL xc, .int .u64 keep] 56 := by rw [← hW]; exact Blk.new wr _ _
      have HW := Lib.hid (And.intro hW (And.intro hsW (And.intro hbW (HK.out.quiet hsW))))
      clear hW hsW hbW
      by_cases h012 : kind = 0 ∨ kind = 1 ∨ kind = 2
      · as_aux_lemma =>
        have hq5 := HK.out.cnt
        obtain ⟨wv, tv, S, W0, h, t, rs0, rs, hwl, hS, hrc, hrs, hWl, ht, hsS, hsB⟩ := HK.out.wl
        have HWl := Lib.hid (And.intro hwl (And.intro hS (And.intro hrc (And.intro hrs (And.intro hsS (And.intro hsB (And.intro hWl ht)))))))
        clear hwl hS hrc hrs hWl ht hsS hsB
        by_cases hk255 : k.toNat = 255
        · have HBd := Lib.hid (lappend_bad lb k xa DL xc 1 W (by decide) (.inl ⟨hk255, rfl⟩))
          have HK255 := Lib.hid hk255
          clear hk255
          rcases h012 with rfl | rfl | rfl
          all_goals
            go_wp2_with fail
            rw [HW.out.1]
            refine HBd.out.mono ?_
            rintro e w5 ⟨rfl, hs5⟩
            have hb5 := HW.out.2.2.1.step hs5 (by simp)
            have z2 := hb5.cell 2
            simp only [List.getElem?_toArray, List.getElem?_cons_zero, List.getElem?_cons_succ] at z2
            have HK5 := Lib.hid ((HW.out.2.2.2.quiet hs5).next)
            have q6 : ((k.toNat : Int) == 255) = true := by have := HK255.out; simp; omega
            clear hs5 hb5
            go_wp2_with fail
            go_roundw
            case rel => exact ⟨i + 1, lb, sa, sc, sy, bh, by omega, rfl, rfl, by go_num, HK5.out⟩
            case measure => simp [intOf]; omega
        · have q6 : ((k.toNat : Int) == 255) = false := by simp; omega
          obtain ⟨hwl, hS, hrc, hrs, hsS, hsB, hWl, ht⟩ := HWl.out
          have hfm := flen_most (k, d)
          have hfs : flens rs0 ≤ sy.length * 76 + 1040 := by
            have h1 := flens_erase_le rs0 (fun r hr => hwl.data r (hwl.pre.mem hr))
            have h2 := flens_ok HK.out.okS
            rw [hrc] at h1
            omega
          have hfb := flens_ok HK.out.okB
          have hap := wl_append _ _ _ _ _ _ _ _ _ _ _ _ k xa xc d W (hwl.step HW.out.2.1 (by simp)) (HX.out.1.stepA HW.out.2.1 (by simp)) hk255 (by rw [HDL.out]; omega) (by
            rw [chain_len, hrs, flens_app, hS]
            simp only at hfm
            rw [HDL.out] at hfm
            omega) (by omega) (Nat.le_trans HK.out.low HW.out.2.1.size)
          rw [HDL.out] at hap
          have HAp := Lib.hid hap
          have HFm := Lib.hid (show flen (k, d) ≤ 76 by simp only at hfm; rw [HDL.out] at hfm; omega)
          clear hap hwl hS hrc hrs hsS hsB hWl ht hfm hfs hfb
          rcases h012 with rfl | rfl | rfl
          all_goals
            go_wp2_with fail
            rw [HW.out.1]
            refine HAp.out.mono ?_
            rintro e w5 ⟨rfl, tv5, wv5, W5, h5, hW5, hs5, hf5⟩
            obtain ⟨hwl, hS, hrc, hrs, hsS, hsB, hWl, ht⟩ := HWl.out
            have hbxf : wr.heap.size ∉ footW lb db lv wv tv := fun hm => by
              have := hwl.live _ hm
              omega
            have hb5 := HW.out.2.2.1.step hs5 hbxf
            have z2 := hb5.cell 2
            have z3 := hb5.cell 3
            simp only [List.getElem?_toArray, List.getElem?_cons_zero, List.getElem?_cons_succ] at z2 z3
            have hst : Step (footW lb db lv wv tv) wr w5 := (HW.out.2.1.mono (by simp)).then hs5 (fun k hk => .inl hk)
            have hsy5 := HK.out.syr.stepF hst hsS
            have how5 := owns_step HK.out.own hst hsB
            have hs05 : Step [] w w5 := HK.out.st.then hst (fun k hk => .inr (Nat.le_trans HZ1.out (hwl.low k hk)))
            have hfoot5 : ∀ k, k ∈ footW lb db lv wv5 tv5 → k ∈ footW lb db lv wv tv ∨ wr.heap.size ≤ k := fun k hk => (hf5 k hk).imp id (fun h => Nat.le_trans HW.out.2.1.size h)
            have hbl5 : ∀ k, k ∈ foot bv → k < wr.heap.size := owns_live HK.out.own
            have H5 := Lib.hid (And.intro h5 (And.intro hW5 (And.intro hsy5 (And.intro hs05 (And.intro hst.size hfoot5)))))
            obtain ⟨bb, hbb⟩ : ∃ bb, wr.heap.size = bb := ⟨_, rfl⟩
            have hzz : w1.heap.size ≤ w5.heap.size := Nat.le_trans HK.out.low hst.size
            obtain ⟨ab, cb, hbvv, -⟩ := owns_shape how5
            subst hbvv
            have HOw := Lib.hid how5
            have HBl := Lib.hid hbl5
            have hn50b : bh.length ≤ 50 := by omega
            clear hwl hS hrc hrs hsS hsB hWl ht h5 hW5 hs5 hf5 hbxf hb5 hst hsy5 how5 hs05 hfoot5 hbl5 hbb
            go_wp2_with (at_builtin; refine wpList_append_sep rfl (.tmp 134) (.tmp 137) 22 rfl w1.heap.size 34 j0 (.agg #[.int .u8 0, .slice none 0 0]) 2 32 Try.underlying22 hj0 hjz hj1 hj2 rfl (by decide) (.slice ab bh.length cb) bh.length (rowR bh) rfl (owns_step HOw.out ((Step.refl [] w5).alloc _) (by simp)) (some ⟨w5.heap.size, 0, none⟩) 1 1 [.int .u8 (k.toNat : Int), .slice xa DL xc] rfl (by intro h; cases h) rfl (fun ad h => by cases h; exact new_cells w5 [.int .u8 (k.toNat : Int), .slice xa DL xc] 34) (by simp [Value.oneCell']) (by unfold maxLen; omega) (by omega) (by rw [World.size_alloc]; omega) ?_)
            intro v6 w6 hown6 hg6 hf6
            have hs56 : Step (foot (.slice ab bh.length cb)) w5 w6 := (((Step.refl [] w5).alloc _).mono (by simp)).grown hg6 (fun k hk => .inl (mem_foot.2 hk))
            have H6 := Lib.hid (And.intro hown6 (And.intro hs56 hf6))
            clear hown6 hg6 hf6 hs56
            go_wp2_with fail
            go_roundw
            case rel =>
              obtain ⟨h5, hW5, hsy5, hs05, hz5, hfoot5⟩ := H5.out
              obtain ⟨hown6, hs56, hf6⟩ := H6.out
              obtain ⟨hwl, hS, hrc, hrs, hsS, hsB, hWl, ht⟩ := HWl.out
              have hfbv : ∀ q, q ∈ foot (.slice ab bh.length cb) → q ∉ footW lb db lv wv5 tv5 := fun q hq hm => by
                rcases hfoot5 q hm with h1 | h1
                · exact hsB q hq h1
                · have := HBl.out q hq
                  omega
              have hfv6 : ∀ q, q ∈ foot v6 → q ∈ foot (.slice ab bh.length cb) ∨ w5.heap.size ≤ q := fun q hq => (hf6 q hq).imp id (fun h => by rw [World.size_alloc] at h; omega)
              have hrow : rowR bh ++ [.int .u8 (k.toNat : Int), .slice xa DL xc] = rowR (bh ++ [⟨k, xa, xc, d⟩]) := by rw [rowR_snoc, HDL.out]
              rw [hrow] at hown6
              have hfsy := hsy5.recs.live
              refine ⟨i + 1, lb, sa, sc, sy, bh ++ [⟨k, xa, xc, d⟩], by omega, rfl, rfl, by go_num, ⟨⟨wv5, tv5, S, W5, h, t, rs0, rs ++ [(k, d)], h5.step hs56 (fun q hq hm => hfbv q hm hq), hS, hrc, by rw [hrs, List.map_append, List.append_assoc]; rfl, by have := HFm.out; omega, by omega, fun q hq hm => ?_, fun q hq hm => ?_⟩, hsy5.stepF hs56 (fun q hq hm => HK.out.sepR q hm hq), by rw [List.length_append]; exact hown6, fun hn => by simp at hn, fun y hy => ?_, fun q hq hm => ?_, HK.out.okS, okR_app HK.out.okB (fun y hy => ?_), by rw [List.length_append]; simp; omega, hs05.then hs56 (fun q hq => .inr (Nat.le_trans HZ1.out (owns_base HK.out.own q hq))), Nat.le_trans hzz hs56.size, HZ1.out⟩⟩
              · rcases hfoot5 q hm with h1 | h1
                · exact hsS q hq h1
                · have := HK.out.syr.recs.live q hq
                  omega
              · rcases hfv6 q hq with h1 | h1
                · exact hfbv q h1 hm
                · have := h5.live q hm
                  omega
              · rcases List.mem_append.1 hy with h1 | h1
                · exact HK.out.dat y h1
                · simp only [List.mem_singleton] at h1
                  subst h1
                  exact HX.out.2
              · rcases hfv6 q hq with h1 | h1
                · exact HK.out.sepR q h1 hm
                · have := hfsy q hm
                  omega
              · simp only [List.mem_singleton] at hy
                subst hy
                exact ⟨hk255, by show d.length ≤ 60; rw [HDL.out]; omega⟩
            case measure => simp [intOf]; omega
      by_cases hk3 : kind = 3
      · as_aux_lemma =>
        subst hk3
        obtain ⟨wv, tv, S, W0, h, t, rs0, rs, hwl, hS, hrc, hrs, hWl, ht, hsS, hsB⟩ := HK.out.wl
        have HSy := Lib.hid (wl_sync _ _ _ _ _ _ _ _ _ _ _ _ W (hwl.step HW.out.2.1 (by simp)))
        have HWl := Lib.hid (And.intro hwl (And.intro hS (And.intro hrc (And.intro hrs (And.intro hsS (And.intro hsB (And.intro hWl ht)))))))
        have hDn : ∀ k, k ∈ footW lb db lv (.slice none 0 0) tv → k ∈ footW lb db lv wv tv := fun k hk => by
          rcases List.mem_append.1 hk with hk | hk
          · exact List.mem_append_left _ hk
          · refine List.mem_append_right _ ?_
            simp only [footD, List.mem_cons, List.mem_append] at hk ⊢
            rcases hk with h | h | h
            · exact .inl h
            · exact .inr (.inl h)
            · simp [foot, Value.ownBlock] at h
        have HDn := Lib.hid hDn
        clear hwl hS hrc hrs hWl ht hsS hsB hDn
        go_wp2_with fail
        rw [HW.out.1]
        refine HSy.out.mono ?_
        rintro e w5 ⟨rfl, S5, h5, hS5, hs5⟩
        obtain ⟨hwl, hS, hrc, hrs, hsS, hsB, -, ht⟩ := HWl.out
        have hst : Step (footD db lv wv) wr w5 := (HW.out.2.1.mono (by simp)).then hs5 (fun k hk => .inl hk)
        have hsy5 := HK.out.syr.stepF hst (fun k hk hm => hsS k hk (List.mem_append_right _ hm))
        have how5 := owns_step HK.out.own hst (fun k hk hm => hsB k hk (List.mem_append_right _ hm))
        have hs05 : Step [] w w5 := HK.out.st.then hst (fun k hk => .inr (Nat.le_trans HZ1.out (hwl.dk.base k hk)))
        have hclip := fun W => clip_any (P := Try.prog) sa sy.length sc hsy5.recs.room hsy5.plain 22 34 Try.underlying22 2 Try.sizeR W
        have hcm := hsy5.max
        have hc2 : (sc : Int) ≤ 9223372036854775807 := by unfold maxLen at hcm; omega
        have hroom := hsy5.recs.room
        have r1 : (sy.length : Int) ≤ (sc : Int) := by omega
        have H5 := Lib.hid (And.intro h5 (And.intro (hS5.trans hS) (And.intro hsy5 (And.intro how5 (And.intro hs05 hst.size)))))
        have hreq : recsR rs = (sy ++ bh).map Rr.pr := by rw [hrs, recsR_app hwl.sealed, hrc, List.map_append]
        have HEq := Lib.hid hreq
        clear hwl hS hrc hrs hsS hsB ht h5 hS5 hs5 hst hsy5 how5 hs05 hreq hcm hroom
        rcases Nat.eq_zero_or_pos bh.length with hb0 | hb0
        · obtain rfl : bh = [] := List.eq_nil_of_length_eq_zero hb0
          have hbn := HK.out.nilB rfl
          subst hbn
          go_wp2_with (at_builtin; refine wpList_append_niln rfl (.tmp 152) (.tmp 153) 22 rfl 34 j0 2 Try.underlying22 hj0 sa sy.length sy.length (Nat.le_refl _) rfl rfl (fun h => ⟨(H5.out.2.2.1.recs.nil h).1, (H5.out.2.2.1.recs.nil h).1⟩) ?_)
          go_wp2_with fail
          go_roundw
          case rel =>
            obtain ⟨h5, hS5, hsy5, how5, hs05, hz5⟩ := H5.out
            obtain ⟨hwl, hS, hrc, hrs, hsS, hsB, hWl, ht⟩ := HWl.out
            have hreq := HEq.out
            rw [List.append_nil] at hreq
            exact ⟨i + 1, lb, sa, sy.length, sy, [], by omega, rfl, rfl, by go_num, ⟨⟨.slice none 0 0, tv, S5, [], h, t, rs, rs, h5, hS5, hreq, by simp, by simp, by omega, fun k hk hm => hsS k hk (HDn.out k hm), fun k hk => absurd hk (by simp [foot, Value.ownBlock])⟩, ⟨⟨hsy5.recs.cells, Nat.le_refl _, fun ha => ⟨(hsy5.recs.nil ha).1, (hsy5.recs.nil ha).1⟩, hsy5.recs.data⟩, hsy5.plain, Nat.le_trans hsy5.recs.room hsy5.max⟩, World.ownsRow_nil _ _ _ _, fun _ => rfl, fun y hy => absurd hy (by simp), fun k hk => absurd hk (by simp [foot, Value.ownBlock]), HK.out.okS, fun y hy => absurd hy (by simp), by have := HK.out.cnt; simp at this ⊢; omega, hs05, Nat.le_trans HK.out.low hz5, HZ1.out⟩⟩
          case measure => simp [intOf]; omega
        · obtain ⟨gb, cb, hbv, -⟩ := owns_form H5.out.2.2.2.1 hb0
          subst hbv
          obtain ⟨nb, hnb⟩ : ∃ nb, bh.length = nb := ⟨_, rfl⟩
          have HNb := Lib.hid hnb
          have hbm : nb ≤ 50 := by have := HK.out.cnt; omega
          have hsm : sy.length ≤ 50 := by have := HK.out.cnt; omega
          have hrbl : (rowR bh).length = nb * 2 := by rw [rowR_len, hnb]
          have hrd := owns_read H5.out.2.2.2.1 (Step.refl [] w5)
          rw [hnb] at hb0 ⊢
          clear hnb
          go_wp2_with (at_builtin; refine wpList_append_clip rfl (.tmp 152) (.tmp 153) 22 rfl w1.heap.size 34 j0 (.agg #[.int .u8 0, .slice none 0 0]) 2 32 Try.underlying22 hj0 hjz hj1 hj2 rfl (by decide) sa sy.length (rowR sy) rfl (fun h => (H5.out.2.2.1.recs.nil h).1) (rowR_len sy) H5.out.2.2.1.recs.cellsR ⟨gb, 0, none⟩ nb cb (rowR bh) rfl hb0 hrbl hrd (rowR_one bh) (by unfold maxLen; omega) (by omega) ?_)
          intro g2 c2 w6 hown6 hs6
          have HN6 := Lib.hid (And.intro hown6 hs6)
          clear hown6 hs6 hrbl hrd
          go_wp2_with fail
          go_roundw
          case rel =>
            obtain ⟨h5, hS5, hsy5, how5, hs05, hz5⟩ := H5.out
            obtain ⟨hwl, hS, hrc, hrs, hsS, hsB, hWl, ht⟩ := HWl.out
            obtain ⟨hown6, hs6⟩ := HN6.out
            rw [← HNb.out] at hown6
            obtain ⟨a6, c6, hv6, hr6, hf6, hfr6⟩ := rows_joined hs6 hs05 hsy5 HK.out.dat hown6
            cases hv6
            refine ⟨i + 1, lb, _, _, sy ++ bh, [], by omega, rfl, by rw [List.length_append, HNb.out], by go_num, ⟨⟨.slice none 0 0, tv, S5, [], h, t, rs, rs, h5.step hs6 (by simp), hS5, HEq.out, by simp, by simp, by omega, fun k hk hm => ?_, fun k hk => absurd hk (by simp [foot, Value.ownBlock])⟩, hr6, World.ownsRow_nil _ _ _ _, fun _ => rfl, fun y hy => absurd hy (by simp), fun k hk => absurd hk (by simp [foot, Value.ownBlock]), okR_app HK.out.okS HK.out.okB, fun y hy => absurd hy (by simp), by have := HK.out.cnt; rw [List.length_append]; simp; omega, hs05.then hs6 (by simp), Nat.le_trans HK.out.low (Nat.le_trans hz5 hs6.size), HZ1.out⟩⟩
            rcases hfr6 k hk with h1 | h1 | h1
            · have h2 := owns_base hown6 k h1
              have h3 := h5.live k hm
              omega
            · exact hsS k h1 (HDn.out k hm)
            · have h2 := h5.low k hm
              have h3 := HZ1.out
              omega
          case measure => simp [intOf]; omega
      by_cases hk4 : kind = 4
      · as_aux_lemma =>
        subst hk4
        have hq5 := HK.out.cnt
        obtain ⟨q, hq, hq8⟩ : ∃ q : Nat, IntKind.i64.wrap ((IntKind.u64.wrap num).tmod 8) = (q : Int) ∧ q < 8 := by
          have h1 : (IntKind.u64.wrap num).tmod 8 = IntKind.u64.wrap num % 8 := Int.tmod_eq_emod_of_nonneg (by rw [IntKind.wrap_u64]; omega)
          exact ⟨(IntKind.u64.wrap num % 8).toNat, by rw [h1, wrap_id _ (by omega) (by omega)]; omega, by omega⟩
        obtain ⟨wv, tv, S, W0, h, t, rs0, rs, hwl, hS, hrc, hrs, hWl, ht, hsS, hsB⟩ := HK.out.wl
        have HWl := Lib.hid (And.intro hwl (And.intro hS (And.intro hsS (And.intro hWl ht))))
        have hsyW := HW.out.2.2.2.syr
        have hclip := fun W => clip_any (P := Try.prog) sa sy.length sc hsyW.recs.room hsyW.plain 22 34 Try.underlying22 2 Try.sizeR W
        have hcm := hsyW.max
        have hc2 : (sc : Int) ≤ 9223372036854775807 := by unfold maxLen at hcm; omega
        have hroom := hsyW.recs.room
        have r1 : (sy.length : Int) ≤ (sc : Int) := by omega
        have hzW := HW.out.2.1.size
        have z1 := HW.out.2.2.1.cell 1
        simp only [List.getElem?_toArray, List.getElem?_cons_zero, List.getElem?_cons_succ] at z1
        clear hwl hS hrc hrs hWl ht hsS hsB hsyW hcm hroom
        rcases Nat.eq_zero_or_pos bh.length with hb0 | hb0
        · obtain rfl : bh = [] := List.eq_nil_of_length_eq_zero hb0
          have hbn := HK.out.nilB rfl
          subst hbn
          have hna50 : sy.length ≤ 50 := by simp at hq5; omega
          have HNI := Lib.hid (show sy.length ≤ i by simp at hq5; omega)
          clear hb0 hzW z1 hq5
          go_wp2_with (at_builtin; refine wpList_append_nilt rfl (.tmp 162) (.tmp 163) 22 rfl 34 j0 2 Try.underlying22 hj0 sa sy.length sy.length (Nat.le_refl _) rfl rfl (fun h => ⟨(HK.out.syr.recs.nil h).1, (HK.out.syr.recs.nil h).1⟩) ?_)
          intro w5 hs5
          rw [HW.out.1] at hs5
          have z1 := (HW.out.2.2.1.step hs5 (by simp)).cell 1
          simp only [List.getElem?_toArray, List.getElem?_cons_zero, List.getElem?_cons_succ] at z1
          have hsy5 := HW.out.2.2.2.syr.stepF hs5 (by simp)
          have H5 := Lib.hid (show Rcs w5 sa sy.length sy ∧ sy.length = sy.length ∧ OkR sy ∧ (∀ k, k ∈ footR sa sy → k ∉ footW lb db lv wv tv) ∧ Step [] wr w5 from ⟨⟨⟨hsy5.recs.cells, Nat.le_refl _, fun ha => ⟨(hsy5.recs.nil ha).1, (hsy5.recs.nil ha).1⟩, hsy5.recs.data⟩, hsy5.plain, Nat.le_trans hsy5.recs.room hsy5.max⟩, rfl, HK.out.okS, HWl.out.2.2.1, HW.out.2.1.then hs5 (by simp)⟩)
          clear hs5 hsy5
          by_cases hle : sy.length ≤ q
          · have A1 : ((sy.length : Nat) : Int) ≤ (q : Int) := by omega
            obtain ⟨lo, hlo⟩ : ∃ lo : Nat, lo = 0 := ⟨_, rfl⟩
            obtain ⟨a', hcut, hRb, hfb⟩ := H5.out.1.cut (P := Try.prog) 22 34 Try.underlying22 Try.sizeR lo (by rw [H5.out.2.1]; omega)
            rw [H5.out.2.1] at hcut
            obtain ⟨m, hm⟩ : ∃ m, sy.length - lo = m := ⟨_, rfl⟩
            rw [hm] at hcut hRb
            obtain ⟨bl, hbl⟩ : ∃ bl, sy.drop lo = bl := ⟨_, rfl⟩
            have hbll : bl.length = m := by rw [← hbl, List.length_drop, H5.out.2.1, hm]
            have hokb : OkR bl := fun y hy => H5.out.2.2.1 y (by rw [← hbl] at hy; exact List.mem_of_mem_drop hy)
            rw [hbl] at hRb hfb
            have hroomA := H5.out.1.recs.room
            have hmaxA := H5.out.1.max
            rw [H5.out.2.1] at hroomA
            have A3 : ((sy.length : Nat) : Int) ≤ ((sy.length : Nat) : Int) := by omega
            have A4 : ((sy.length : Nat) : Int) ≤ 9223372036854775807 := by unfold maxLen at hmaxA; omega
            have HCt := Lib.hid hcut
            have hcut2 : ∀ W : World, (Instr.slice 22 (.slice sa sy.length sy.length) (some (.int .i64 (0 : Int))) none none).run Try.prog W = .ok (.slice a' m m) W := fun W => by have h := HCt.out W; rw [hlo] at h; exact h
            have hwlX := HWl.out.1.step H5.out.2.2.2.2 (by simp)
            have HTn := Lib.hid (wl_turn _ _ _ _ _ _ _ _ _ _ _ _ w5 hwlX)
            have hflo := flens_ok hokb
            have hrw := wl_rewrite _ _ _ _ _ _ _ _ _ _ _ _ a' m bl w5 hwlX hRb (fun k hk => H5.out.2.2.2.1 k (hfb k hk)) (fun y hy => (hokb y hy).1) (fun y hy => by have := (hokb y hy).2; omega) (by omega) (by rw [HWl.out.2.1]; have := HWl.out.2.2.2.1; simp; omega) (by have := HWl.out.2.2.2.2; omega) (Nat.le_trans HK.out.low H5.out.2.2.2.2.size)
            rw [hbll] at hrw
            have HRw := Lib.hid hrw
            have HRb := Lib.hid (And.intro hRb (And.intro hfb (And.intro hbll (And.intro hokb hflo))))
            have HMQ := Lib.hid (show m ≤ 50 ∧ m ≤ i by have := HNI.out; omega)
            have HLoo := Lib.hid hlo
            clear hlo hcut hRb hfb hbl hbll hokb hroomA hmaxA hwlX hflo hrw hm
            go_wp2_with fail
            refine HTn.out.mono ?_
            rintro e w51 ⟨rfl, rfl⟩
            go_wp2_with fail
            refine HRw.out.mono ?_
            rintro e w6 (⟨hf, -, -⟩ | ⟨-, rfl, tv6, S6, h6, hS6, hft6, hs6⟩)
            · exfalso
              rw [allR_len, HWl.out.2.1] at hf
              have h1 := HRb.out.2.2.2.2
              rw [HRb.out.2.2.1] at h1
              have h2 := HMQ.out.1
              omega
            have hRb6 := HRb.out.1.stepF hs6 (fun k hk => H5.out.2.2.2.1 k (HRb.out.2.1 k hk))
            have hs06 : Step [] w w6 := (HK.out.st.then H5.out.2.2.2.2 (by simp)).then hs6 (fun k hk => .inr (Nat.le_trans HZ1.out (HWl.out.1.low k hk)))
            have HTn6 := Lib.hid (fun V (hV : Step [] w6 V) => wl_turn _ _ _ _ _ _ _ _ _ _ _ _ V (h6.step hV (by simp)))
            have H6 := Lib.hid (And.intro h6 (And.intro (hS6.trans HWl.out.2.1) (And.intro hft6 (And.intro hRb6 (And.intro hs06 hs6.size)))))
            have hrbl : (rowR bl).length = m * 2 := by rw [rowR_len, HRb.out.2.2.1]
            have hm50 := HMQ.out.1
            have e10 : IntKind.u64.wrap ((t : Int) + 1) = (t : Int) + 1 := by have := HWl.out.2.2.2.2; rw [IntKind.wrap_u64]; omega
            clear h6 hS6 hft6 hRb6 hs06 hs6
            go_wp2_with (at_builtin; refine wpList_append_sep rfl (.tmp 185) (.tmp 186) 22 rfl w6.heap.size 34 j0 (.agg #[.int .u8 0, .slice none 0 0]) 2 32 Try.underlying22 hj0 hjz hj1 hj2 rfl (by decide) _ 0 [] rfl (own_emptyR w6 w6.heap.size (Nat.le_refl _)) a' m m (rowR bl) rfl (fun h => by have h2 := HRb.out.1.recs.nil h; rw [HRb.out.2.2.1] at h2; exact h2) hrbl (H6.out.2.2.2.1.stepF ((Step.refl [] w6).alloc _) (by simp)).recs.cellsR (rowR_one bl) (by unfold maxLen; omega) (by omega) (by rw [World.size_alloc]; omega) ?_)
            intro v7 w7 hown7 hg7 hf7
            have hs67 : Step [] w6 w7 := ((Step.refl [] w6).alloc _).grown hg7 (fun k hk => .inr (by simp [Value.ownBlock] at hk; omega))
            have H7 := Lib.hid (And.intro hown7 hs67)
            have HTn7 := Lib.hid (HTn6.out w7 hs67)
            obtain ⟨g7, c7, hv7, -⟩ := owns_shape hown7
            try rw [Nat.zero_add] at hv7
            subst hv7
            clear hown7 hg7 hf7 hs67
            go_wp2_with fail
            refine HTn7.out.mono ?_
            rintro e w71 ⟨rfl, rfl⟩
            go_wp2_with fail
            go_roundw
            case rel =>
              obtain ⟨h6, hS6, hft6, hRb6, hs06, hz6⟩ := H6.out
              obtain ⟨hown7, hs67⟩ := H7.out
              try simp only [Nat.zero_add, List.nil_append] at hown7
              rw [← HRb.out.2.2.1] at hown7
              obtain ⟨a7, c7', hv7, hr7, hfa7⟩ := Rcs.ofRow hown7 (fun y hy => by
                obtain ⟨h1, h2⟩ := hRb6.recs.data y hy
                exact ⟨h1.stepA hs67 (by simp), fun hq b off hb => Nat.lt_of_lt_of_le (h2 hq b off hb) hs67.size⟩)
              cases hv7
              refine ⟨i + 1, lb, _, _, bl, [], by omega, rfl, by rw [HRb.out.2.2.1], by go_num, ⟨⟨.slice none 0 0, tv6, S6, [], 1 - h, t + 1, allR bl, allR bl, h6.step hs67 (by simp), hS6, recsR_allR (okR_kinds HRb.out.2.2.2.1), by simp, by simp, by have := HWl.out.2.2.2.2; omega, fun k hk hm => ?_, fun k hk => absurd hk (by simp [foot, Value.ownBlock])⟩, hr7, World.ownsRow_nil _ _ _ _, fun _ => rfl, fun y hy => absurd hy (by simp), fun k hk => absurd hk (by simp [foot, Value.ownBlock]), HRb.out.2.2.2.1, fun y hy => absurd hy (by simp), by rw [HRb.out.2.2.1]; have := HMQ.out.2; simp; omega, hs06.then hs67 (by simp), Nat.le_trans HK.out.low (Nat.le_trans H5.out.2.2.2.2.size (Nat.le_trans hz6 hs67.size)), HZ1.out⟩⟩
              rcases footR_mem.1 hk with ⟨h1, h2⟩ | ⟨y, hy, h1, h2⟩
              · rw [hfa7] at h2
                have h3 := owns_base hown7 k h2
                have h4 := h6.live k hm
                omega
              · have h3 : k ∈ footR a' bl := footR_mem.2 (.inr ⟨y, hy, h1, h2⟩)
                have h4 := HRb.out.2.1 k h3
                have h5 := H5.out.1.recs.live k h4
                have h6' := H5.out.2.2.2.1 k h4
                rcases List.mem_append.1 hm with h7 | h7
                · rcases List.mem_cons.1 h7 with h8 | h8
                  · subst h8
                    exact h6' (by simp [footW, footL])
                  · have := hft6 k h8
                    omega
                · refine h6' (List.mem_append_right _ ?_)
                  simp only [footD, List.mem_cons, List.mem_append] at h7 ⊢
                  rcases h7 with h | h | h
                  · exact .inl h
                  · exact .inr (.inl h)
                  · simp [foot, Value.ownBlock] at h
            case measure => simp [intOf]; omega
          · have A1 : ¬ ((sy.length : Nat) : Int) ≤ (q : Int) := by omega
            have A2 : (q : Int) ≤ ((sy.length : Nat) : Int) := by omega
            obtain ⟨lo, hlo⟩ : ∃ lo : Nat, lo = sy.length - q := ⟨_, rfl⟩
            have e7 : IntKind.i64.wrap (((sy.length : Nat) : Int) - (q : Int)) = (lo : Int) := by rw [wrap_id _ (by omega) (by omega)]; omega
            have e8 : (0 : Int) ≤ (lo : Int) := by omega
            have e9 : (lo : Int) ≤ ((sy.length : Nat) : Int) := by omega
            obtain ⟨a', hcut, hRb, hfb⟩ := H5.out.1.cut (P := Try.prog) 22 34 Try.underlying22 Try.sizeR lo (by rw [H5.out.2.1]; omega)
            rw [H5.out.2.1] at hcut
            obtain ⟨m, hm⟩ : ∃ m, sy.length - lo = m := ⟨_, rfl⟩
            rw [hm] at hcut hRb
            obtain ⟨bl, hbl⟩ : ∃ bl, sy.drop lo = bl := ⟨_, rfl⟩
            have hbll : bl.length = m := by rw [← hbl, List.length_drop, H5.out.2.1, hm]
            have hokb : OkR bl := fun y hy => H5.out.2.2.1 y (by rw [← hbl] at hy; exact List.mem_of_mem_drop hy)
            rw [hbl] at hRb hfb
            have hroomA := H5.out.1.recs.room
            have hmaxA := H5.out.1.max
            rw [H5.out.2.1] at hroomA
            have A3 : ((sy.length : Nat) : Int) ≤ ((sy.length : Nat) : Int) := by omega
            have A4 : ((sy.length : Nat) : Int) ≤ 9223372036854775807 := by unfold maxLen at hmaxA; omega
            have HCt := Lib.hid hcut
            have hcut2 : ∀ W : World, (Instr.slice 22 (.slice sa sy.length sy.length) (some (.int .i64 (lo : Int))) none none).run Try.prog W = .ok (.slice a' m m) W := fun W => by have h := HCt.out W; skip; exact h
            have hwlX := HWl.out.1.step H5.out.2.2.2.2 (by simp)
            have HTn := Lib.hid (wl_turn _ _ _ _ _ _ _ _ _ _ _ _ w5 hwlX)
            have hflo := flens_ok hokb
            have hrw := wl_rewrite _ _ _ _ _ _ _ _ _ _ _ _ a' m bl w5 hwlX hRb (fun k hk => H5.out.2.2.2.1 k (hfb k hk)) (fun y hy => (hokb y hy).1) (fun y hy => by have := (hokb y hy).2; omega) (by omega) (by rw [HWl.out.2.1]; have := HWl.out.2.2.2.1; simp; omega) (by have := HWl.out.2.2.2.2; omega) (Nat.le_trans HK.out.low H5.out.2.2.2.2.size)
            rw [hbll] at hrw
            have HRw := Lib.hid hrw
            have HRb := Lib.hid (And.intro hRb (And.intro hfb (And.intro hbll (And.intro hokb hflo))))
            have HMQ := Lib.hid (show m ≤ 50 ∧ m ≤ i by have := HNI.out; omega)
            have HLoo := Lib.hid hlo
            clear hlo hcut hRb hfb hbl hbll hokb hroomA hmaxA hwlX hflo hrw hm
            go_wp2_with fail
            refine HTn.out.mono ?_
            rintro e w51 ⟨rfl, rfl⟩
            go_wp2_with fail
            refine HRw.out.mono ?_
            rintro e w6 (⟨hf, -, -⟩ | ⟨-, rfl, tv6, S6, h6, hS6, hft6, hs6⟩)
            · exfalso
              rw [allR_len, HWl.out.2.1] at hf
              have h1 := HRb.out.2.2.2.2
              rw [HRb.out.2.2.1] at h1
              have h2 := HMQ.out.1
              omega
            have hRb6 := HRb.out.1.stepF hs6 (fun k hk => H5.out.2.2.2.1 k (HRb.out.2.1 k hk))
            have hs06 : Step [] w w6 := (HK.out.st.then H5.out.2.2.2.2 (by simp)).then hs6 (fun k hk => .inr (Nat.le_trans HZ1.out (HWl.out.1.low k hk)))
            have HTn6 := Lib.hid (fun V (hV : Step [] w6 V) => wl_turn _ _ _ _ _ _ _ _ _ _ _ _ V (h6.step hV (by simp)))
            have H6 := Lib.hid (And.intro h6 (And.intro (hS6.trans HWl.out.2.1) (And.intro hft6 (And.intro hRb6 (And.intro hs06 hs6.size)))))
            have hrbl : (rowR bl).length = m * 2 := by rw [rowR_len, HRb.out.2.2.1]
            have hm50 := HMQ.out.1
            have e10 : IntKind.u64.wrap ((t : Int) + 1) = (t : Int) + 1 := by have := HWl.out.2.2.2.2; rw [IntKind.wrap_u64]; omega
            clear h6 hS6 hft6 hRb6 hs06 hs6
            go_wp2_with (at_builtin; refine wpList_append_sep rfl (.tmp 185) (.tmp 186) 22 rfl w6.heap.size 34 j0 (.agg #[.int .u8 0, .slice none 0 0]) 2 32 Try.underlying22 hj0 hjz hj1 hj2 rfl (by decide) _ 0 [] rfl (own_emptyR w6 w6.heap.size (Nat.le_refl _)) a' m m (rowR bl) rfl (fun h => by have h2 := HRb.out.1.recs.nil h; rw [HRb.out.2.2.1] at h2; exact h2) hrbl (H6.out.2.2.2.1.stepF ((Step.refl [] w6).alloc _) (by simp)).recs.cellsR (rowR_one bl) (by unfold maxLen; omega) (by omega) (by rw [World.size_alloc]; omega) ?_)
            intro v7 w7 hown7 hg7 hf7
            have hs67 : Step [] w6 w7 := ((Step.refl [] w6).alloc _).grown hg7 (fun k hk => .inr (by simp [Value.ownBlock] at hk; omega))
            have H7 := Lib.hid (And.intro hown7 hs67)
            have HTn7 := Lib.hid (HTn6.out w7 hs67)
            obtain ⟨g7, c7, hv7, -⟩ := owns_shape hown7
            try rw [Nat.zero_add] at hv7
            subst hv7
            clear hown7 hg7 hf7 hs67
            go_wp2_with fail
            refine HTn7.out.mono ?_
            rintro e w71 ⟨rfl, rfl⟩
            go_wp2_with fail
            go_roundw
            case rel =>
              obtain ⟨h6, hS6, hft6, hRb6, hs06, hz6⟩ := H6.out
              obtain ⟨hown7, hs67⟩ := H7.out
              try simp only [Nat.zero_add, List.nil_append] at hown7
              rw [← HRb.out.2.2.1] at hown7
              obtain ⟨a7, c7', hv7, hr7, hfa7⟩ := Rcs.ofRow hown7 (fun y hy => by
                obtain ⟨h1, h2⟩ := hRb6.recs.data y hy
                exact ⟨h1.stepA hs67 (by simp), fun hq b off hb => Nat.lt_of_lt_of_le (h2 hq b off hb) hs67.size⟩)
              cases hv7
              refine ⟨i + 1, lb, _, _, bl, [], by omega, rfl, by rw [HRb.out.2.2.1], by go_num, ⟨⟨.slice none 0 0, tv6, S6, [], 1 - h, t + 1, allR bl, allR bl, h6.step hs67 (by simp), hS6, recsR_allR (okR_kinds HRb.out.2.2.2.1), by simp, by simp, by have := HWl.out.2.2.2.2; omega, fun k hk hm => ?_, fun k hk => absurd hk (by simp [foot, Value.ownBlock])⟩, hr7, World.ownsRow_nil _ _ _ _, fun _ => rfl, fun y hy => absurd hy (by simp), fun k hk => absurd hk (by simp [foot, Value.ownBlock]), HRb.out.2.2.2.1, fun y hy => absurd hy (by simp), by rw [HRb.out.2.2.1]; have := HMQ.out.2; simp; omega, hs06.then hs67 (by simp), Nat.le_trans HK.out.low (Nat.le_trans H5.out.2.2.2.2.size (Nat.le_trans hz6 hs67.size)), HZ1.out⟩⟩
              rcases footR_mem.1 hk with ⟨h1, h2⟩ | ⟨y, hy, h1, h2⟩
              · rw [hfa7] at h2
                have h3 := owns_base hown7 k h2
                have h4 := h6.live k hm
                omega
              · have h3 : k ∈ footR a' bl := footR_mem.2 (.inr ⟨y, hy, h1, h2⟩)
                have h4 := HRb.out.2.1 k h3
                have h5 := H5.out.1.recs.live k h4
                have h6' := H5.out.2.2.2.1 k h4
                rcases List.mem_append.1 hm with h7 | h7
                · rcases List.mem_cons.1 h7 with h8 | h8
                  · subst h8
                    exact h6' (by simp [footW, footL])
                  · have := hft6 k h8
                    omega
                · refine h6' (List.mem_append_right _ ?_)
                  simp only [footD, List.mem_cons, List.mem_append] at h7 ⊢
                  rcases h7 with h | h | h
                  · exact .inl h
                  · exact .inr (.inl h)
                  · simp [foot, Value.ownBlock] at h
            case measure => simp [intOf]; omega
        · obtain ⟨gb, cbb, hbv, -⟩ := owns_form HK.out.own hb0
          subst hbv
          obtain ⟨nb, hnb⟩ : ∃ nb, bh.length = nb := ⟨_, rfl⟩
          have HNb := Lib.hid hnb
          have hbm : nb ≤ 50 := by omega
          have hsm : sy.length ≤ 50 := by omega
          have hrbl0 : (rowR bh).length = nb * 2 := by rw [rowR_len, hnb]
          rw [hnb] at hb0 hq5 ⊢
          clear hnb
          go_wp2_with (at_builtin; refine wpList_append_clip rfl (.tmp 162) (.tmp 163) 22 rfl w1.heap.size 34 j0 (.agg #[.int .u8 0, .slice none 0 0]) 2 32 Try.underlying22 hj0 hjz hj1 hj2 rfl (by decide) sa sy.length (rowR sy) rfl (fun h => (HK.out.syr.recs.nil h).1) (rowR_len sy) (HK.out.syr.stepF ((Step.refl [] wr).alloc _) (by simp)).recs.cellsR ⟨gb, 0, none⟩ nb cbb (rowR bh) rfl hb0 hrbl0 (owns_read HK.out.own ((Step.refl [] wr).alloc _)) (rowR_one bh) (by unfold maxLen; omega) (by omega) ?_)
          intro g5 c5 w5 hown5 hs5
          rw [HW.out.1] at hs5
          have z1 := (HW.out.2.2.1.step hs5 (by simp)).cell 1
          simp only [List.getElem?_toArray, List.getElem?_cons_zero, List.getElem?_cons_succ] at z1
          rw [← HNb.out] at hown5
          obtain ⟨a5, c5', hv5, hr5, hf5, hfr5⟩ := rows_joined hs5 (HK.out.st.then HW.out.2.1 (by simp)) HW.out.2.2.2.syr HK.out.dat hown5
          cases hv5
          obtain ⟨na, hna⟩ : ∃ na, sy.length + nb = na := ⟨_, rfl⟩
          have H5 := Lib.hid (show Rcs w5 (some ⟨g5, 0, none⟩) c5 (sy ++ bh) ∧ (sy ++ bh).length = na ∧ OkR (sy ++ bh) ∧ (∀ k, k ∈ footR (some ⟨g5, 0, none⟩) (sy ++ bh) → k ∉ footW lb db lv wv tv) ∧ Step [] wr w5 from by
            refine ⟨hr5, by rw [List.length_append, HNb.out, hna], okR_app HK.out.okS HK.out.okB, fun k hk hm => ?_, HW.out.2.1.then hs5 (by simp)⟩
            rcases hfr5 k hk with h1 | h1 | h1
            · have h2 := owns_base hown5 k h1
              have h3 := HWl.out.1.live k hm
              omega
            · exact HWl.out.2.2.1 k h1 hm
            · have h2 := HWl.out.1.low k hm
              have h3 := HZ1.out
              omega)
          have hna50 : na ≤ 50 := by omega
          have HNI := Lib.hid (show na ≤ i by omega)
          rw [hna]
          clear hown5 hs5 hr5 hf5 hfr5 hrbl0 hna
          by_cases hle : na ≤ q
          · have A1 : ((na : Nat) : Int) ≤ (q : Int) := by omega
            obtain ⟨lo, hlo⟩ : ∃ lo : Nat, lo = 0 := ⟨_, rfl⟩
            obtain ⟨a', hcut, hRb, hfb⟩ := H5.out.1.cut (P := Try.prog) 22 34 Try.underlying22 Try.sizeR lo (by rw [H5.out.2.1]; omega)
            rw [H5.out.2.1] at hcut
            obtain ⟨m, hm⟩ : ∃ m, na - lo = m := ⟨_, rfl⟩
            obtain ⟨cb, hcb⟩ : ∃ cb, c5 - lo = cb := ⟨_, rfl⟩
            rw [hm, hcb] at hcut
            rw [hcb] at hRb
            obtain ⟨bl, hbl⟩ : ∃ bl, (sy ++ bh).drop lo = bl := ⟨_, rfl⟩
            have hbll : bl.length = m := by rw [← hbl, List.length_drop, H5.out.2.1, hm]
            have hokb : OkR bl := fun y hy => H5.out.2.2.1 y (by rw [← hbl] at hy; exact List.mem_of_mem_drop hy)
            rw [hbl] at hRb hfb
            have hroomA := H5.out.1.recs.room
            have hmaxA := H5.out.1.max
            rw [H5.out.2.1] at hroomA
            have A3 : ((na : Nat) : Int) ≤ ((c5 : Nat) : Int) := by omega
            have A4 : ((c5 : Nat) : Int) ≤ 9223372036854775807 := by unfold maxLen at hmaxA; omega
            have HCt := Lib.hid hcut
            have hcut2 : ∀ W : World, (Instr.slice 22 (.slice (some ⟨g5, 0, none⟩) na c5) (some (.int .i64 (0 : Int))) none none).run Try.prog W = .ok (.slice a' m cb) W := fun W => by have h := HCt.out W; rw [hlo] at h; exact h
            have hwlX := HWl.out.1.step H5.out.2.2.2.2 (by simp)
            have HTn := Lib.hid (wl_turn _ _ _ _ _ _ _ _ _ _ _ _ w5 hwlX)
            have hflo := flens_ok hokb
            have hrw := wl_rewrite _ _ _ _ _ _ _ _ _ _ _ _ a' cb bl w5 hwlX hRb (fun k hk => H5.out.2.2.2.1 k (hfb k hk)) (fun y hy => (hokb y hy).1) (fun y hy => by have := (hokb y hy).2; omega) (by omega) (by rw [HWl.out.2.1]; have := HWl.out.2.2.2.1; simp; omega) (by have := HWl.out.2.2.2.2; omega) (Nat.le_trans HK.out.low H5.out.2.2.2.2.size)
            rw [hbll] at hrw
            have HRw := Lib.hid hrw
            have HRb := Lib.hid (And.intro hRb (And.intro hfb (And.intro hbll (And.intro hokb hflo))))
            have HMQ := Lib.hid (show m ≤ 50 ∧ m ≤ i by have := HNI.out; omega)
            have HLoo := Lib.hid hlo
            clear hlo hcut hRb hfb hbl hbll hokb hroomA hmaxA hwlX hflo hrw hm hcb
            go_wp2_with fail
            refine HTn.out.mono ?_
            rintro e w51 ⟨rfl, rfl⟩
            go_wp2_with fail
            refine HRw.out.mono ?_
            rintro e w6 (⟨hf, -, -⟩ | ⟨-, rfl, tv6, S6, h6, hS6, hft6, hs6⟩)
            · exfalso
              rw [allR_len, HWl.out.2.1] at hf
              have h1 := HRb.out.2.2.2.2
              rw [HRb.out.2.2.1] at h1
              have h2 := HMQ.out.1
              omega
            have hRb6 := HRb.out.1.stepF hs6 (fun k hk => H5.out.2.2.2.1 k (HRb.out.2.1 k hk))
            have hs06 : Step [] w w6 := (HK.out.st.then H5.out.2.2.2.2 (by simp)).then hs6 (fun k hk => .inr (Nat.le_trans HZ1.out (HWl.out.1.low k hk)))
            have HTn6 := Lib.hid (fun V (hV : Step [] w6 V) => wl_turn _ _ _ _ _ _ _ _ _ _ _ _ V (h6.step hV (by simp)))
            have H6 := Lib.hid (And.intro h6 (And.intro (hS6.trans HWl.out.2.1) (And.intro hft6 (And.intro hRb6 (And.intro hs06 hs6.size)))))
            have hrbl : (rowR bl).length = m * 2 := by rw [rowR_len, HRb.out.2.2.1]
            have hm50 := HMQ.out.1
            have e10 : IntKind.u64.wrap ((t : Int) + 1) = (t : Int) + 1 := by have := HWl.out.2.2.2.2; rw [IntKind.wrap_u64]; omega
            clear h6 hS6 hft6 hRb6 hs06 hs6
            go_wp2_with (at_builtin; refine wpList_append_sep rfl (.tmp 185) (.tmp 186) 22 rfl w6.heap.size 34 j0 (.agg #[.int .u8 0, .slice none 0 0]) 2 32 Try.underlying22 hj0 hjz hj1 hj2 rfl (by decide) _ 0 [] rfl (own_emptyR w6 w6.heap.size (Nat.le_refl _)) a' m cb (rowR bl) rfl (fun h => by have h2 := HRb.out.1.recs.nil h; rw [HRb.out.2.2.1] at h2; exact h2) hrbl (H6.out.2.2.2.1.stepF ((Step.refl [] w6).alloc _) (by simp)).recs.cellsR (rowR_one bl) (by unfold maxLen; omega) (by omega) (by rw [World.size_alloc]; omega) ?_)
            intro v7 w7 hown7 hg7 hf7
            have hs67 : Step [] w6 w7 := ((Step.refl [] w6).alloc _).grown hg7 (fun k hk => .inr (by simp [Value.ownBlock] at hk; omega))
            have H7 := Lib.hid (And.intro hown7 hs67)
            have HTn7 := Lib.hid (HTn6.out w7 hs67)
            obtain ⟨g7, c7, hv7, -⟩ := owns_shape hown7
            try rw [Nat.zero_add] at hv7
            subst hv7
            clear hown7 hg7 hf7 hs67
            go_wp2_with fail
            refine HTn7.out.mono ?_
            rintro e w71 ⟨rfl, rfl⟩
            go_wp2_with fail
            go_roundw
            case rel =>
              obtain ⟨h6, hS6, hft6, hRb6, hs06, hz6⟩ := H6.out
              obtain ⟨hown7, hs67⟩ := H7.out
              try simp only [Nat.zero_add, List.nil_append] at hown7
              rw [← HRb.out.2.2.1] at hown7
              obtain ⟨a7, c7', hv7, hr7, hfa7⟩ := Rcs.ofRow hown7 (fun y hy => by
                obtain ⟨h1, h2⟩ := hRb6.recs.data y hy
                exact ⟨h1.stepA hs67 (by simp), fun hq b off hb => Nat.lt_of_lt_of_le (h2 hq b off hb) hs67.size⟩)
              cases hv7
              refine ⟨i + 1, lb, _, _, bl, [], by omega, rfl, by rw [HRb.out.2.2.1], by go_num, ⟨⟨.slice none 0 0, tv6, S6, [], 1 - h, t + 1, allR bl, allR bl, h6.step hs67 (by simp), hS6, recsR_allR (okR_kinds HRb.out.2.2.2.1), by simp, by simp, by have := HWl.out.2.2.2.2; omega, fun k hk hm => ?_, fun k hk => absurd hk (by simp [foot, Value.ownBlock])⟩, hr7, World.ownsRow_nil _ _ _ _, fun _ => rfl, fun y hy => absurd hy (by simp), fun k hk => absurd hk (by simp [foot, Value.ownBlock]), HRb.out.2.2.2.1, fun y hy => absurd hy (by simp), by rw [HRb.out.2.2.1]; have := HMQ.out.2; simp; omega, hs06.then hs67 (by simp), Nat.le_trans HK.out.low (Nat.le_trans H5.out.2.2.2.2.size (Nat.le_trans hz6 hs67.size)), HZ1.out⟩⟩
              rcases footR_mem.1 hk with ⟨h1, h2⟩ | ⟨y, hy, h1, h2⟩
              · rw [hfa7] at h2
                have h3 := owns_base hown7 k h2
                have h4 := h6.live k hm
                omega
              · have h3 : k ∈ footR a' bl := footR_mem.2 (.inr ⟨y, hy, h1, h2⟩)
                have h4 := HRb.out.2.1 k h3
                have h5 := H5.out.1.recs.live k h4
                have h6' := H5.out.2.2.2.1 k h4
                rcases List.mem_append.1 hm with h7 | h7
                · rcases List.mem_cons.1 h7 with h8 | h8
                  · subst h8
                    exact h6' (by simp [footW, footL])
                  · have := hft6 k h8
                    omega
                · refine h6' (List.mem_append_right _ ?_)
                  simp only [footD, List.mem_cons, List.mem_append] at h7 ⊢
                  rcases h7 with h | h | h
                  · exact .inl h
                  · exact .inr (.inl h)
                  · simp [foot, Value.ownBlock] at h
            case measure => simp [intOf]; omega
          · have A1 : ¬ ((na : Nat) : Int) ≤ (q : Int) := by omega
            have A2 : (q : Int) ≤ ((na : Nat) : Int) := by omega
            obtain ⟨lo, hlo⟩ : ∃ lo : Nat, lo = na - q := ⟨_, rfl⟩
            have e7 : IntKind.i64.wrap (((na : Nat) : Int) - (q : Int)) = (lo : Int) := by rw [wrap_id _ (by omega) (by omega)]; omega
            have e8 : (0 : Int) ≤ (lo : Int) := by omega
            have e9 : (lo : Int) ≤ ((na : Nat) : Int) := by omega
            obtain ⟨a', hcut, hRb, hfb⟩ := H5.out.1.cut (P := Try.prog) 22 34 Try.underlying22 Try.sizeR lo (by rw [H5.out.2.1]; omega)
            rw [H5.out.2.1] at hcut
            obtain ⟨m, hm⟩ : ∃ m, na - lo = m := ⟨_, rfl⟩
            obtain ⟨cb, hcb⟩ : ∃ cb, c5 - lo = cb := ⟨_, rfl⟩
            rw [hm, hcb] at hcut
            rw [hcb] at hRb
            obtain ⟨bl, hbl⟩ : ∃ bl, (sy ++ bh).drop lo = bl := ⟨_, rfl⟩
            have hbll : bl.length = m := by rw [← hbl, List.length_drop, H5.out.2.1, hm]
            have hokb : OkR bl := fun y hy => H5.out.2.2.1 y (by rw [← hbl] at hy; exact List.mem_of_mem_drop hy)
            rw [hbl] at hRb hfb
            have hroomA := H5.out.1.recs.room
            have hmaxA := H5.out.1.max
            rw [H5.out.2.1] at hroomA
            have A3 : ((na : Nat) : Int) ≤ ((c5 : Nat) : Int) := by omega
            have A4 : ((c5 : Nat) : Int) ≤ 9223372036854775807 := by unfold maxLen at hmaxA; omega
            have HCt := Lib.hid hcut
            have hcut2 : ∀ W : World, (Instr.slice 22 (.slice (some ⟨g5, 0, none⟩) na c5) (some (.int .i64 (lo : Int))) none none).run Try.prog W = .ok (.slice a' m cb) W := fun W => by have h := HCt.out W; skip; exact h
            have hwlX := HWl.out.1.step H5.out.2.2.2.2 (by simp)
            have HTn := Lib.hid (wl_turn _ _ _ _ _ _ _ _ _ _ _ _ w5 hwlX)
            have hflo := flens_ok hokb
            have hrw := wl_rewrite _ _ _ _ _ _ _ _ _ _ _ _ a' cb bl w5 hwlX hRb (fun k hk => H5.out.2.2.2.1 k (hfb k hk)) (fun y hy => (hokb y hy).1) (fun y hy => by have := (hokb y hy).2; omega) (by omega) (by rw [HWl.out.2.1]; have := HWl.out.2.2.2.1; simp; omega) (by have := HWl.out.2.2.2.2; omega) (Nat.le_trans HK.out.low H5.out.2.2.2.2.size)
            rw [hbll] at hrw
            have HRw := Lib.hid hrw
            have HRb := Lib.hid (And.intro hRb (And.intro hfb (And.intro hbll (And.intro hokb hflo))))
            have HMQ := Lib.hid (show m ≤ 50 ∧ m ≤ i by have := HNI.out; omega)
            have HLoo := Lib.hid hlo
            clear hlo hcut hRb hfb hbl hbll hokb hroomA hmaxA hwlX hflo hrw hm hcb
            go_wp2_with fail
            refine HTn.out.mono ?_
            rintro e w51 ⟨rfl, rfl⟩
            go_wp2_with fail
            refine HRw.out.mono ?_
            rintro e w6 (⟨hf, -, -⟩ | ⟨-, rfl, tv6, S6, h6, hS6, hft6, hs6⟩)
            · exfalso
              rw [allR_len, HWl.out.2.1] at hf
              have h1 := HRb.out.2.2.2.2
              rw [HRb.out.2.2.1] at h1
              have h2 := HMQ.out.1
              omega
            have hRb6 := HRb.out.1.stepF hs6 (fun k hk => H5.out.2.2.2.1 k (HRb.out.2.1 k hk))
            have hs06 : Step [] w w6 := (HK.out.st.then H5.out.2.2.2.2 (by simp)).then hs6 (fun k hk => .inr (Nat.le_trans HZ1.out (HWl.out.1.low k hk)))
            have HTn6 := Lib.hid (fun V (hV : Step [] w6 V) => wl_turn _ _ _ _ _ _ _ _ _ _ _ _ V (h6.step hV (by simp)))
            have H6 := Lib.hid (And.intro h6 (And.intro (hS6.trans HWl.out.2.1) (And.intro hft6 (And.intro hRb6 (And.intro hs06 hs6.size)))))
            have hrbl : (rowR bl).length = m * 2 := by rw [rowR_len, HRb.out.2.2.1]
            have hm50 := HMQ.out.1
            have e10 : IntKind.u64.wrap ((t : Int) + 1) = (t : Int) + 1 := by have := HWl.out.2.2.2.2; rw [IntKind.wrap_u64]; omega
            clear h6 hS6 hft6 hRb6 hs06 hs6
            go_wp2_with (at_builtin; refine wpList_append_sep rfl (.tmp 185) (.tmp 186) 22 rfl w6.heap.size 34 j0 (.agg #[.int .u8 0, .slice none 0 0]) 2 32 Try.underlying22 hj0 hjz hj1 hj2 rfl (by decide) _ 0 [] rfl (own_emptyR w6 w6.heap.size (Nat.le_refl _)) a' m cb (rowR bl) rfl (fun h => by have h2 := HRb.out.1.recs.nil h; rw [HRb.out.2.2.1] at h2; exact h2) hrbl (H6.out.2.2.2.1.stepF ((Step.refl [] w6).alloc _) (by simp)).recs.cellsR (rowR_one bl) (by unfold maxLen; omega) (by omega) (by rw [World.size_alloc]; omega) ?_)
            intro v7 w7 hown7 hg7 hf7
            have hs67 : Step [] w6 w7 := ((Step.refl [] w6).alloc _).grown hg7 (fun k hk => .inr (by simp [Value.ownBlock] at hk; omega))
            have H7 := Lib.hid (And.intro hown7 hs67)
            have HTn7 := Lib.hid (HTn6.out w7 hs67)
            obtain ⟨g7, c7, hv7, -⟩ := owns_shape hown7
            try rw [Nat.zero_add] at hv7
            subst hv7
            clear hown7 hg7 hf7 hs67
            go_wp2_with fail
            refine HTn7.out.mono ?_
            rintro e w71 ⟨rfl, rfl⟩
            go_wp2_with fail
            go_roundw
            case rel =>
              obtain ⟨h6, hS6, hft6, hRb6, hs06, hz6⟩ := H6.out
              obtain ⟨hown7, hs67⟩ := H7.out
              try simp only [Nat.zero_add, List.nil_append] at hown7
              rw [← HRb.out.2.2.1] at hown7
              obtain ⟨a7, c7', hv7, hr7, hfa7⟩ := Rcs.ofRow hown7 (fun y hy => by
                obtain ⟨h1, h2⟩ := hRb6.recs.data y hy
                exact ⟨h1.stepA hs67 (by simp), fun hq b off hb => Nat.lt_of_lt_of_le (h2 hq b off hb) hs67.size⟩)
              cases hv7
              refine ⟨i + 1, lb, _, _, bl, [], by omega, rfl, by rw [HRb.out.2.2.1], by go_num, ⟨⟨.slice none 0 0, tv6, S6, [], 1 - h, t + 1, allR bl, allR bl, h6.step hs67 (by simp), hS6, recsR_allR (okR_kinds HRb.out.2.2.2.1), by simp, by simp, by have := HWl.out.2.2.2.2; omega, fun k hk hm => ?_, fun k hk => absurd hk (by simp [foot, Value.ownBlock])⟩, hr7, World.ownsRow_nil _ _ _ _, fun _ => rfl, fun y hy => absurd hy (by simp), fun k hk => absurd hk (by simp [foot, Value.ownBlock]), HRb.out.2.2.2.1, fun y hy => absurd hy (by simp), by rw [HRb.out.2.2.1]; have := HMQ.out.2; simp; omega, hs06.then hs67 (by simp), Nat.le_trans HK.out.low (Nat.le_trans H5.out.2.2.2.2.size (Nat.le_trans hz6 hs67.size)), HZ1.out⟩⟩
              rcases footR_mem.1 hk with ⟨h1, h2⟩ | ⟨y, hy, h1, h2⟩
              · rw [hfa7] at h2
                have h3 := owns_base hown7 k h2
                have h4 := h6.live k hm
                omega
              · have h3 : k ∈ footR a' bl := footR_mem.2 (.inr ⟨y, hy, h1, h2⟩)
                have h4 := HRb.out.2.1 k h3
                have h5 := H5.out.1.recs.live k h4
                have h6' := H5.out.2.2.2.1 k h4
                rcases List.mem_append.1 hm with h7 | h7
                · rcases List.mem_cons.1 h7 with h8 | h8
                  · subst h8
                    exact h6' (by simp [footW, footL])
                  · have := hft6 k h8
                    omega
                · refine h6' (List.mem_append_right _ ?_)
                  simp only [footD, List.mem_cons, List.mem_append] at h7 ⊢
                  rcases h7 with h | h | h
                  · exact .inl h
                  · exact .inr (.inl h)
                  · simp [foot, Value.ownBlock] at h
            case measure => simp [intOf]; omega
      as_aux_lemma =>
        have q0 : (kind == 0) = false := by simp; omega
        have q1 : (kind == 1) = false := by simp; omega
        have q2 : (kind == 2) = false := by simp; omega
        have q3 : (kind == 3) = false := by simp; omega
        have q4 : (kind == 4) = false := by simp; omega
        obtain ⟨wv, tv, S, W0, h, t, rs0, rs, hwl, hS, hrc, hrs, hWl, ht, hsS, hsB⟩ := HK.out.wl
        go_wp2_with fail
        rw [HW.out.1]
        refine (keeps_any keep W).mono ?_
        rintro e w4 ⟨rfl, hw4⟩
        have hs4 : Step [] W w4 := by rw [hw4]; exact (Step.refl [] W).alloc _
        have hs04 : Step [] wr w4 := HW.out.2.1.then hs4 (by simp)
        have hb4 : Blk w4 W.heap.size #[.int .u64 keep] 23 := by rw [hw4]; exact Blk.new W _ _
        have hzW := HW.out.2.1.size
        have HS4 := Lib.hid hs4
        have hkbD : W.heap.size ∉ footD db lv wv := fun hm => by
          have := hwl.dk.live _ hm
          omega
        have HCr := Lib.hid (crash_any w1.heap.size db lv wv S W0 false w4 (hwl.dk.step hs04 (by simp)) 41 #[.pointer (some ⟨W.heap.size, 0, none⟩)] (keepB keep) (fun args w => by rfl) (fun q w' hq hs' => by
          have hc := keep_any W.heap.size keep q w' (((hb4.step hs' hkbD).cell 0).trans rfl)
          simpa using hc))
        have HWl := Lib.hid (And.intro hwl (And.intro hS (And.intro hrc (And.intro hrs (And.intro hsS (And.intro hsB hs04))))))
        have HT := Lib.hid ht
        clear hwl hS hrc hrs hWl ht hsS hsB hs4 hs04 hb4 hkbD hw4
        go_wp2_with fail
        refine HCr.out.mono ?_
        rintro e w5 ⟨rfl, hD5, hs5⟩
        have HD5 := Lib.hid (And.intro hD5 hs5)
        clear hD5 hs5
        go_wp2_with fail
        refine (up_any _ _ _ _ _ _ _ _ HD5.out.1).mono ?_
        rintro e w6 ⟨rfl, hD6, hs6⟩
        obtain ⟨V, hV⟩ : ∃ V, setl (keepB keep) W0 S W0.length = V := ⟨_, rfl⟩
        rw [hV] at hD6
        obtain ⟨hwl, hS, hrc, hrs, hsS, hsB, hs04⟩ := HWl.out
        have hVl : V.length = 200 := by rw [← hV, setl_len, hS]
        have hC := hwl.li.crash (by have := hwl.turn; omega) (keepB keep) W0.length
        rw [hV, hS] at hC
        have hst : Step (footD db lv wv) wr w6 := ((hs04.mono (by simp)).then HD5.out.2 (fun k hk => .inl hk)).then hs6 (fun k hk => .inl (by simp at hk; simp [footD, hk]))
        have hDn : ∀ k, k ∈ footD db lv (.slice none 0 0) → k ∈ footD db lv wv := fun k hk => by
          simp only [footD, List.mem_cons, List.mem_append] at hk ⊢
          rcases hk with h | h | h
          · exact .inl h
          · exact .inr (.inl h)
          · simp [foot, Value.ownBlock] at h
        have hbx : Blk w6 wr.heap.size #[.int .i64 kind, .int .i64 num, .int .u8 (k.toNat : Int), .slice xa DL xc, .int .u64 keep] 56 := by
          refine HW.out.2.2.1.step (((HS4.out.mono (by simp)).then HD5.out.2 (fun k hk => .inl hk)).then hs6 (fun k hk => .inl (by simp at hk; simp [footD, hk]))) (fun hm => ?_)
          have := hwl.dk.live _ hm
          omega
        have z0 := hbx.cell 0
        simp only [List.getElem?_toArray, List.getElem?_cons_zero] at z0
        have HOp := Lib.hid (fun VV (hVV : Step [] w6 VV) => wl_open w1.heap.size db lv _ V [] h t rs0 rs VV (hD6.step hVV (by simp)) (by rw [hVl]; decide) (by rw [syncS_nil, hVl]; exact hC) (by rw [hrs]; exact List.prefix_append _ _) hwl.sealed hwl.data (by have := HT.out; omega) (by rw [hrs, List.length_append, List.length_map, sealed_len hwl.sealed hrc]; have := HK.out.cnt; omega) (by rw [hVl, hrs, List.length_append, List.length_map, sealed_len hwl.sealed hrc]; have := HK.out.cnt; simp; omega) (Nat.le_trans HK.out.low (Nat.le_trans hst.size hVV.size)))
        have H6 := Lib.hid (And.intro hD6 (And.intro (HK.out.syr.stepF hst (fun k hk hm => hsS k hk (List.mem_append_right _ hm))) (And.intro (owns_step HK.out.own hst (fun k hk hm => hsB k hk (List.mem_append_right _ hm))) (And.intro (HK.out.st.then hst (fun k hk => .inr (Nat.le_trans HZ1.out (hwl.dk.base k hk)))) (And.intro (fun k (hk : k ∈ footR sa sy) (hm : k ∈ footD db lv (.slice none 0 0)) => hsS k hk (List.mem_append_right _ (hDn k hm))) (And.intro (fun k (hk : k ∈ foot bv) (hm : k ∈ footD db lv (.slice none 0 0)) => hsB k hk (List.mem_append_right _ (hDn k hm))) (Nat.le_trans HK.out.low hst.size)))))))
        have HP := Lib.hid (And.intro hrc (And.intro hrs (And.intro hwl.sealed hVl)))
        have HC := Lib.hid (And.intro hC hwl.data)
        clear hwl hS hrc hrs hsS hsB hs04 hVl hC hst hDn hD6 hs6 hV hbx
        by_cases hk5 : kind = 5
        · have q5 : (kind != 5) = false := by simp; omega
          go_wp2_with fail
          have hVV : Step [] w6 w6 := Step.refl _ _
          have HVV := Lib.hid hVV.size
          refine (HOp.out w6 hVV).mono ?_
          rintro e w9 ⟨lb9, tv9, S9, ga, gc, gl, kk, rfl, k1, k2, hrp, hgr, h9, hS9, hfr, hfl, hs9⟩
          obtain ⟨hpre, hle1, hle2⟩ := kp_told HP.out.2.2.1 HP.out.1 HP.out.2.1 k1 k2 hrp
          have hs69 := hVV.mono (G := footD db lv (.slice none 0 0)) (by simp) |>.then hs9 (fun k hk => .inl hk)
          have hsy9 := H6.out.2.1.stepF hs69 (fun k hk hm => H6.out.2.2.2.2.1 k hk hm)
          have how9 := owns_step H6.out.2.2.1 hs69 (fun k hk hm => H6.out.2.2.2.2.2.1 k hk hm)
          have hs09 : Step [] w w9 := H6.out.2.2.2.1.then hs69 (fun k hk => .inr (Nat.le_trans HZ1.out (H6.out.1.base k hk)))
          obtain ⟨ba9, bc9, hbv, hbr9, -⟩ := Rcs.ofRow how9 (fun y hy => (HK.out.dat y hy).step hs09)
          have hbg := begins_any ga sa ba9 gc sc bc9 gl sy bh w9 hgr.recs hsy9.recs hbr9.recs hle1 hle2 hpre (by have := HK.out.cnt; omega) (by have := HK.out.cnt; omega)
          rw [← hbv] at hbg
          have HBg := Lib.hid hbg
          have hokg : OkR gl := okR_prefix (l := sy ++ bh) (by rw [List.map_append]; exact hpre) (okR_app HK.out.okS HK.out.okB)
          have H9 := Lib.hid (And.intro h9 (And.intro (hS9.trans HP.out.2.2.2) (And.intro hgr (And.intro hfr (And.intro hs09 (And.intro hokg (And.intro hle2 hs69.size)))))))
          clear h9 hS9 hgr hfr hfl hs9 hs69 hsy9 how9 hs09 hbv hbr9 hbg hokg hpre hle1 k1 k2 hrp hVV
          go_wp2_with fail
          refine HBg.out.mono ?_
          rintro e w10 ⟨rfl, hs10⟩
          have HCp := Lib.hid (copy_any _ _ _ _ _ _ _ w10 (H9.out.1.step hs10 (by simp)).dk)
          have HS10 := Lib.hid hs10
          clear hs10
          go_wp2_with fail
          refine HCp.out.mono ?_
          rintro e w11 ⟨dbc, lvc, wvc, rfl, hDc, hs11⟩
          have hop2 := wl_open w10.heap.size dbc lvc wvc S9 [] (1 - h) (t + 1) (allR gl) (allR gl) w11 hDc H9.out.1.four (by
            rw [syncS_nil]
            exact H9.out.1.li.crash (by have := H9.out.1.turn; omega) (fun _ => false) 0) (List.prefix_refl _) H9.out.1.sealed H9.out.1.data (by have := HT.out; omega) (by have := HK.out.cnt; have := H9.out.2.2.2.2.2.2.1; unfold allR; rw [List.length_append, List.length_map]; simp; omega) (by rw [H9.out.2.1]; have := HK.out.cnt; have := H9.out.2.2.2.2.2.2.1; unfold allR; rw [List.length_append, List.length_map]; simp; omega) hs11.size
          have HOp2 := Lib.hid hop2
          have H11 := Lib.hid (And.intro (HS10.out.then hs11 (by simp)) hDc.base)
          clear hop2 hDc hs11
          go_wp2_with fail
          refine HOp2.out.mono ?_
          rintro e w12 ⟨lb12, tv12, S12, aa, ac, al, k12, rfl, k1, k2, hrp, har, -, -, -, -, hs12⟩
          have hkk : (allR gl).take k12 = allR gl := List.take_of_length_le k1
          rw [hkk, recsR_allR (okR_kinds H9.out.2.2.2.2.2.1)] at hrp
          have hal : al.length = gl.length := by simpa using congrArg List.length hrp
          have hs912 : Step [] w9 w12 := H11.out.1.then hs12 (fun k hk => .inr (by
            have h1 := H11.out.2 k hk
            have h2 := HS10.out.size
            omega))
          have hlk := alike_any aa ga ac gc al gl w12 har.recs (H9.out.2.2.1.stepF hs912 (by simp)).recs hrp (by have := HK.out.cnt; have := H9.out.2.2.2.2.2.2.1; omega)
          have HLk := Lib.hid hlk
          have HS12 := Lib.hid hs912
          clear hlk hs912 hs12 har hrp hkk hal k1 k2
          go_wp2_with fail
          refine HLk.out.mono ?_
          rintro e w13 ⟨rfl, hs13⟩
          have HS13 := Lib.hid (HS12.out.then hs13 (by simp))
          clear hs13
          go_wp2_with fail
          go_roundw
          case rel =>
            obtain ⟨h9, hS9, hgr, hfr, hs09, hokg, hle2, hz9⟩ := H9.out
            refine ⟨i + 1, lb9, ga, gc, gl, [], by omega, rfl, rfl, by go_num, ⟨⟨.slice none 0 0, tv9, S9, [], 1 - h, t + 1, allR gl, allR gl, h9.step HS13.out (by simp), hS9, recsR_allR (okR_kinds hokg), by simp, by simp, by have := HT.out; omega, fun k hk hm => ?_, fun k hk => absurd hk (by simp [foot, Value.ownBlock])⟩, hgr.stepF HS13.out (by simp), World.ownsRow_nil _ _ _ _, fun _ => rfl, fun y hy => absurd hy (by simp), fun k hk => absurd hk (by simp [foot, Value.ownBlock]), hokg, fun y hy => absurd hy (by simp), by have := HK.out.cnt; simp; omega, hs09.then HS13.out (by simp), by have := H6.out.2.2.2.2.2.2; have := HS13.out.size; omega, HZ1.out⟩⟩
            rcases List.mem_append.1 hm with h1 | h1
            · exact (hfr k hk).2 h1
            · have h2 := (hfr k hk).1
              have h3 := H6.out.1.live k h1
              have h4 := HVV.out
              omega
          case measure => simp [intOf]; omega

        · have q5 : (kind != 5) = true := by simp; omega
          have HCp0 := Lib.hid (copy_any _ _ _ _ _ _ _ w6 H6.out.1)
          go_wp2_with fail
          refine HCp0.out.mono ?_
          rintro e w7 ⟨db7, lv7, wv7, rfl, hD7, hs7⟩
          have hop7 := wl_open w6.heap.size db7 lv7 wv7 V [] h t rs0 rs w7 hD7 (by rw [HP.out.2.2.2]; decide) (by rw [syncS_nil, HP.out.2.2.2]; exact HC.out.1) (by rw [HP.out.2.1]; exact List.prefix_append _ _) HP.out.2.2.1 HC.out.2 (by have := HT.out; omega) (by rw [HP.out.2.1, List.length_append, List.length_map, sealed_len HP.out.2.2.1 HP.out.1]; have := HK.out.cnt; omega) (by rw [HP.out.2.2.2, HP.out.2.1, List.length_append, List.length_map, sealed_len HP.out.2.2.1 HP.out.1]; have := HK.out.cnt; simp; omega) hs7.size
          have HOp7 := Lib.hid hop7
          have H7 := Lib.hid (And.intro hs7 hD7.base)
          clear hop7 hD7 hs7
          go_wp2_with fail
          refine HOp7.out.mono ?_
          rintro e w8 ⟨lb8, tv8, S8, ca, cc, cl, k8, rfl, k1, k2, hrp, hcr, -, -, -, -, hs8⟩
          obtain ⟨hpre, hle1, hle2⟩ := kp_told HP.out.2.2.1 HP.out.1 HP.out.2.1 k1 k2 hrp
          have hs68 : Step [] w6 w8 := H7.out.1.then hs8 (fun k hk => .inr (H7.out.2 k hk))
          have hs08 : Step [] w w8 := H6.out.2.2.2.1.then hs68 (by simp)
          obtain ⟨ba8, bc8, hbv, hbr8, -⟩ := Rcs.ofRow (owns_step H6.out.2.2.1 hs68 (by simp)) (fun y hy => (HK.out.dat y hy).step hs08)
          have hbg := begins_any ca sa ba8 cc sc bc8 cl sy bh w8 hcr.recs (H6.out.2.1.stepF hs68 (by simp)).recs hbr8.recs hle1 hle2 hpre (by have := HK.out.cnt; omega) (by have := HK.out.cnt; omega)
          rw [← hbv] at hbg
          have HBg8 := Lib.hid hbg
          have HS68 := Lib.hid hs68
          clear hbg hs68 hs08 hbv hbr8 hcr hpre hle1 hle2 k1 k2 hrp hs8
          go_wp2_with fail
          refine HBg8.out.mono ?_
          rintro e w8b ⟨rfl, hs8b⟩
          have HS8b := Lib.hid (HS68.out.then hs8b (by simp))
          clear hs8b
          go_wp2_with fail
          have hVV : Step [] w6 w8b := HS8b.out
          have HVV := Lib.hid hVV.size
          refine (HOp.out w8b hVV).mono ?_
          rintro e w9 ⟨lb9, tv9, S9, ga, gc, gl, kk, rfl, k1, k2, hrp, hgr, h9, hS9, hfr, hfl, hs9⟩
          obtain ⟨hpre, hle1, hle2⟩ := kp_told HP.out.2.2.1 HP.out.1 HP.out.2.1 k1 k2 hrp
          have hs69 := hVV.mono (G := footD db lv (.slice none 0 0)) (by simp) |>.then hs9 (fun k hk => .inl hk)
          have hsy9 := H6.out.2.1.stepF hs69 (fun k hk hm => H6.out.2.2.2.2.1 k hk hm)
          have how9 := owns_step H6.out.2.2.1 hs69 (fun k hk hm => H6.out.2.2.2.2.2.1 k hk hm)
          have hs09 : Step [] w w9 := H6.out.2.2.2.1.then hs69 (fun k hk => .inr (Nat.le_trans HZ1.out (H6.out.1.base k hk)))
          obtain ⟨ba9, bc9, hbv, hbr9, -⟩ := Rcs.ofRow how9 (fun y hy => (HK.out.dat y hy).step hs09)
          have hbg := begins_any ga sa ba9 gc sc bc9 gl sy bh w9 hgr.recs hsy9.recs hbr9.recs hle1 hle2 hpre (by have := HK.out.cnt; omega) (by have := HK.out.cnt; omega)
          rw [← hbv] at hbg
          have HBg := Lib.hid hbg
          have hokg : OkR gl := okR_prefix (l := sy ++ bh) (by rw [List.map_append]; exact hpre) (okR_app HK.out.okS HK.out.okB)
          have H9 := Lib.hid (And.intro h9 (And.intro (hS9.trans HP.out.2.2.2) (And.intro hgr (And.intro hfr (And.intro hs09 (And.intro hokg (And.intro hle2 hs69.size)))))))
          clear h9 hS9 hgr hfr hfl hs9 hs69 hsy9 how9 hs09 hbv hbr9 hbg hokg hpre hle1 k1 k2 hrp hVV
          go_wp2_with fail
          refine HBg.out.mono ?_
          rintro e w10 ⟨rfl, hs10⟩
          have HCp := Lib.hid (copy_any _ _ _ _ _ _ _ w10 (H9.out.1.step hs10 (by simp)).dk)
          have HS10 := Lib.hid hs10
          clear hs10
          go_wp2_with fail
          refine HCp.out.mono ?_
          rintro e w11 ⟨dbc, lvc, wvc, rfl, hDc, hs11⟩
          have hop2 := wl_open w10.heap.size dbc lvc wvc S9 [] (1 - h) (t + 1) (allR gl) (allR gl) w11 hDc H9.out.1.four (by
            rw [syncS_nil]
            exact H9.out.1.li.crash (by have := H9.out.1.turn; omega) (fun _ => false) 0) (List.prefix_refl _) H9.out.1.sealed H9.out.1.data (by have := HT.out; omega) (by have := HK.out.cnt; have := H9.out.2.2.2.2.2.2.1; unfold allR; rw [List.length_append, List.length_map]; simp; omega) (by rw [H9.out.2.1]; have := HK.out.cnt; have := H9.out.2.2.2.2.2.2.1; unfold allR; rw [List.length_append, List.length_map]; simp; omega) hs11.size
          have HOp2 := Lib.hid hop2
          have H11 := Lib.hid (And.intro (HS10.out.then hs11 (by simp)) hDc.base)
          clear hop2 hDc hs11
          go_wp2_with fail
          refine HOp2.out.mono ?_
          rintro e w12 ⟨lb12, tv12, S12, aa, ac, al, k12, rfl, k1, k2, hrp, har, -, -, -, -, hs12⟩
          have hkk : (allR gl).take k12 = allR gl := List.take_of_length_le k1
          rw [hkk, recsR_allR (okR_kinds H9.out.2.2.2.2.2.1)] at hrp
          have hal : al.length = gl.length := by simpa using congrArg List.length hrp
          have hs912 : Step [] w9 w12 := H11.out.1.then hs12 (fun k hk => .inr (by
            have h1 := H11.out.2 k hk
            have h2 := HS10.out.size
            omega))
          have hlk := alike_any aa ga ac gc al gl w12 har.recs (H9.out.2.2.1.stepF hs912 (by simp)).recs hrp (by have := HK.out.cnt; have := H9.out.2.2.2.2.2.2.1; omega)
          have HLk := Lib.hid hlk
          have HS12 := Lib.hid hs912
          clear hlk hs912 hs12 har hrp hkk hal k1 k2
          go_wp2_with fail
          refine HLk.out.mono ?_
          rintro e w13 ⟨rfl, hs13⟩
          have HS13 := Lib.hid (HS12.out.then hs13 (by simp))
          clear hs13
          go_wp2_with fail
          go_roundw
          case rel =>
            obtain ⟨h9, hS9, hgr, hfr, hs09, hokg, hle2, hz9⟩ := H9.out
            refine ⟨i + 1, lb9, ga, gc, gl, [], by omega, rfl, rfl, by go_num, ⟨⟨.slice none 0 0, tv9, S9, [], 1 - h, t + 1, allR gl, allR gl, h9.step HS13.out (by simp), hS9, recsR_allR (okR_kinds hokg), by simp, by simp, by have := HT.out; omega, fun k hk hm => ?_, fun k hk => absurd hk (by simp [foot, Value.ownBlock])⟩, hgr.stepF HS13.out (by simp), World.ownsRow_nil _ _ _ _, fun _ => rfl, fun y hy => absurd hy (by simp), fun k hk => absurd hk (by simp [foot, Value.ownBlock]), hokg, fun y hy => absurd hy (by simp), by have := HK.out.cnt; simp; omega, hs09.then HS13.out (by simp), by have := H6.out.2.2.2.2.2.2; have := HS13.out.size; omega, HZ1.out⟩⟩
            rcases List.mem_append.1 hm with h1 | h1
            · exact (hfr k hk).2 h1
            · have h2 := (hfr k hk).1
              have h3 := H6.out.1.live k h1
              have h4 := HVV.out
              omega
          case measure => simp [intOf]; omega
    · obtain rfl : i = n := by omega
      have p3 : ¬ (i : Int) < (i : Int) := by omega
      go_wp2_with fail
      go_ret
      exact ⟨rfl, HK.out.st⟩
end Go.Proofs.Ytdmnhkmpfnhmdaa
end
