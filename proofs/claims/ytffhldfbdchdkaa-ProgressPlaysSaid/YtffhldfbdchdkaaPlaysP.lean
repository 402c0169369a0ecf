/- a track that isn't there; rows of acts. -/
import Derived.Test.YtffhldfbdchdkaaTrackD
import Derived.Test.YtffhldfbdchdkaaOpen
import Derived.Deep.SlicePairs
namespace Go.Proofs.Ytffhldfbdchdkaa
set_option linter.unusedVariables false
open Go.RowKit Go.Maps

theorem follow_nil (a : Option Addr) (cap len : Nat) (last : Int) (w : World) : Calls Try.prog 10 #[.pointer none, .slice a len cap, .int .u64 last] w fun e w' => e = .returned (.tuple #[]) ∧ w = w' := by
  go_enter Try.func10, Try.ntmps10
  go_wp2
  refine bodyPost_ret (results_none rfl _ _ _) rfl ?_
  exact ⟨rfl, rfl⟩
theorem has_nil (x : Int) (w : World) : Calls Try.prog 11 #[.pointer none, .int .i64 x] w fun e w' => e = .returned (.bool false) ∧ w = w' := by
  go_enter Try.func11, Try.ntmps11
  go_wp2
  go_ret
  exact ⟨rfl, rfl⟩
theorem match_nil (x : Int) (w : World) : Calls Try.prog 12 #[.pointer none, .int .i64 x] w fun e w' => e = .returned (.int .u64 0) ∧ w = w' := by
  go_enter Try.func12, Try.ntmps12
  go_wp2
  go_ret
  exact ⟨rfl, rfl⟩
theorem next_nil (x : Int) (w : World) : Calls Try.prog 13 #[.pointer none, .int .i64 x] w fun e w' => e = .returned (.int .u64 0) ∧ w = w' := by
  go_enter Try.func13, Try.ntmps13
  go_wp2
  go_ret
  exact ⟨rfl, rfl⟩
theorem yes_nil (x i : Int) (w : World) : Calls Try.prog 8 #[.pointer none, .int .i64 x, .int .u64 i] w fun e w' => e = .returned (.bool false) ∧ w = w' := by
  go_enter Try.func8, Try.ntmps8
  go_wp2_with fail
  refine (has_nil x w).mono ?_
  rintro e w1 ⟨rfl, rfl⟩
  go_wp2_with fail
  go_ret
  exact ⟨rfl, rfl⟩
theorem no_nil (x i : Int) (w : World) : Calls Try.prog 9 #[.pointer none, .int .i64 x, .int .u64 i] w fun e w' => e = .returned (.bool false) ∧ w = w' := by
  go_enter Try.func9, Try.ntmps9
  go_wp2_with fail
  refine (has_nil x w).mono ?_
  rintro e w1 ⟨rfl, rfl⟩
  go_wp2_with fail
  go_ret
  exact ⟨rfl, rfl⟩

theorem IsRow.ints25 {w : World} {a : Option Addr} {len cap : Nat} {z : List Int} (h : IsRow .i64 w a len cap z) :
    ∃ l : List Int, l.length = len ∧ Ints w a l ∧ (∀ x ∈ l, IsI x) := by
  rcases h with ⟨rfl, rfl, rfl, rfl⟩ | ⟨x, rfl, hl, hm, hz, hcell, hw⟩
  · exact ⟨[], rfl, fun i hi => by simp at hi, fun x hx => by simp at hx⟩
  · refine ⟨z.take len, by simp; omega, fun i hi => ?_, fun y hy => hw y (List.mem_of_mem_take hy)⟩
    have hi2 : i < len := by simp at hi; omega
    have hc := hcell i (by omega)
    obtain ⟨b, off, spot⟩ := x
    have hspot : spot = none := by simpa [Addr.add] using World.cell?_spot (hcell 0 (by omega))
    subst hspot
    rw [getD_take _ _ _ _ hi2]
    have hc' : w.cell? ⟨b, off + i, none⟩ = some (.int .i64 (z.getD i 0)) := by rw [← add_plain]; exact hc
    exact ⟨b, off, rfl, World.block_lt_of_cell? w _ hc', hc'⟩

/-- an act, as it was handed in -/
structure ActV where
  kind : Int
  node : Int
  index : Int
  a : Option Addr
  cap : Nat
  l : List Int

def act0 : ActV := ⟨0, 0, 0, none, 0, []⟩

/-- what is known of it -/
structure ActOk (w : World) (x : ActV) : Prop where
  node : IsI x.node
  index : 0 ≤ x.index
  row : Ints w x.a x.l
  each : ∀ y ∈ x.l, IsI y

/-- a row of acts that is only read -/
def Acts (w : World) (a : Option Addr) (l : List ActV) : Prop :=
  ∀ i, i < l.length → ∃ b off, a = some ⟨b, off, none⟩ ∧ b < w.heap.size ∧ w.cell? ⟨b, off + i * 4, none⟩ = some (.int .i64 (l.getD i act0).kind) ∧ w.cell? ⟨b, off + i * 4 + 1, none⟩ = some (.int .i64 (l.getD i act0).node)
    ∧ w.cell? ⟨b, off + i * 4 + 2, none⟩ = some (.int .u64 (l.getD i act0).index) ∧ w.cell? ⟨b, off + i * 4 + 3, none⟩ = some (.slice (l.getD i act0).a (l.getD i act0).l.length (l.getD i act0).cap)
theorem Acts.step {w w' : World} {a : Option Addr} {l : List ActV} (h : Acts w a l) (hs : Step [] w w') : Acts w' a l := fun i hi => by
  obtain ⟨b, off, ha, hlt, h0, h1, h2, h3⟩ := h i hi
  refine ⟨b, off, ha, Nat.lt_of_lt_of_le hlt hs.size, ?_, ?_, ?_, ?_⟩
  all_goals (rw [hs.cell hlt (by simp)]; assumption)

open Go.ChangeShapes Go.WideShapes Go.Deep in
theorem open_acts {H : Type} {enc : TypeId × Value → H} {w : World} {base : Nat} {v : Value} {d : DataW H} {p : List MemPlace} (ho : Value.okWide Try.prog w .any base 24 v) (h : DataW.Trod enc Try.prog w 0 (fun _ => true) true 24 v d p) :
    ∃ (a : Option Addr) (cap : Nat) (vs : List ActV), v = .slice a vs.length cap ∧ Acts w a vs ∧ ∀ x ∈ vs, ActOk w x := by
  obtain ⟨a, len, cap, rfl⟩ := okWide_slice Try.underlying24 ho
  obtain ⟨fuel, hf⟩ := h
  rcases open_slice Try.underlying24 hf with ⟨hcs, _⟩ | ⟨x, l, c, m, n, D, Pl, hcs, _, hl, hm, hmm, _, hi⟩
  · simp [Value.cells] at hcs
    obtain ⟨rfl, rfl, rfl⟩ := hcs
    exact ⟨none, 0, [], rfl, fun i hi => by simp at hi, fun x hx => (nomatch hx)⟩
  · simp [Value.cells] at hcs
    obtain ⟨rfl, rfl, rfl⟩ := hcs
    have hmc : m = cap := by simpa using hmm
    subst hmc
    have hce : Try.prog.cellsOf 32 = 4 := by kernel_rfl
    have each : ∀ i, i < len → ∃ q : ActV, w.cell? (x.add (i * 4)) = some (.int .i64 q.kind) ∧ w.cell? (x.add (i * 4 + 1)) = some (.int .i64 q.node) ∧ w.cell? (x.add (i * 4 + 2)) = some (.int .u64 q.index) ∧ w.cell? (x.add (i * 4 + 3)) = some (.slice q.a q.l.length q.cap) ∧ ActOk w q := fun i hil => by
      obtain ⟨cs', h1, h2⟩ := hi i (by omega)
      rw [hce] at h1
      obtain ⟨_, hlen, hcell⟩ := World.cells?_some h1
      obtain ⟨xs, k, hk, hxy, _, hxl, hf⟩ := DataW.trod_struct Try.underlying32 h2
      match xs, hxl, cs', hlen with
      | [y0, y1, y2, y3], _, [v0, v1, v2, v3], _ =>
        have g0 := hf 0 _ rfl
        have g1 := hf 1 _ rfl
        have g2 := hf 2 _ rfl
        have g3 := hf 3 _ rfl
        have k3 : Try.prog.cellsOf 3 = 1 := by kernel_rfl
        have k4 : Try.prog.cellsOf 23 = 1 := by kernel_rfl
        have k5 : Try.prog.cellsOf 22 = 1 := by kernel_rfl
        simp [k3, k4, k5] at g0 g1 g2 g3
        obtain ⟨z0, rfl, _⟩ := int_field Try.underlying3 g0
        obtain ⟨z1, rfl, hw1⟩ := int_field Try.underlying3 g1
        obtain ⟨z2, rfl, hw2⟩ := int_field Try.underlying23 g2
        have e0 := hcell 0 (by omega)
        have e1 := hcell 1 (by omega)
        have e2 := hcell 2 (by omega)
        have e3 := hcell 3 (by omega)
        rw [add_add] at e0 e1 e2 e3
        simp at e0 e1 e2 e3
        have hu : 0 ≤ z2 := by
          simp [Lit.wf, IntKind.min, IntKind.max, IntKind.bits, IntKind.signed] at hw2
          omega
        rcases open_ints Try.underlying22 Try.underlying3 (by kernel_rfl) g3 with ⟨hcs, _⟩ | ⟨s, sl, sc, zs, hcs, _, hsl, hsm, hz, _, hcell3, hwz⟩
        · simp at hcs
          subst hcs
          exact ⟨⟨z0, z1, z2, none, 0, []⟩, e0, e1, e2, e3, ⟨hw1, hu, fun i hi => by simp at hi, fun y hy => (nomatch hy)⟩⟩
        · simp at hcs
          subst hcs
          have hrow : IsRow .i64 w (some s) sl sc zs := .inr ⟨s, rfl, hsl, hsm, by simpa using hz, hcell3, hwz⟩
          obtain ⟨l, rfl, hI, hii⟩ := IsRow.ints25 hrow
          exact ⟨⟨z0, z1, z2, some s, sc, l⟩, e0, e1, e2, e3, ⟨hw1, hu, hI, hii⟩⟩
    haveI : Inhabited ActV := ⟨act0⟩
    obtain ⟨q, hq⟩ := choose_lt each
    refine ⟨some x, m, (List.range len).map q, by simp, fun i hil => ?_, fun y hy => ?_⟩
    · have hil' : i < len := by simpa using hil
      obtain ⟨h0, h1, h2, h3, _⟩ := hq i hil'
      obtain ⟨b, off, spot⟩ := x
      have hspot : spot = none := by simpa [Addr.add] using World.cell?_spot (hq 0 (by omega)).1
      subst hspot
      rw [Go.Proofs.Ytffhldfbdchdkaa.add_plain] at h0 h1 h2 h3
      have hg : ((List.range len).map q).getD i act0 = q i := by simp [List.getD, hil']
      rw [hg]
      exact ⟨b, off, rfl, World.block_lt_of_cell? w _ h0, h0, by rw [Nat.add_assoc]; exact h1, by rw [Nat.add_assoc]; exact h2, by rw [Nat.add_assoc]; exact h3⟩
    · obtain ⟨i, hil, rfl⟩ := List.mem_map.1 hy
      exact (hq i (by simpa using hil)).2.2.2.2
end Go.Proofs.Ytffhldfbdchdkaa
