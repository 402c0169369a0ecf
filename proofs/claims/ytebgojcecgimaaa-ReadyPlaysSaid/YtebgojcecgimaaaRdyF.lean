/- Ready: Next. -/
import Derived.Test.YtebgojcecgimaaaRdyE
import Derived.Test.YtebgojcecgimaaaRangeSepV
namespace Go.Proofs.Ytebgojcecgimaaa
set_option linter.unusedVariables false
set_option linter.unusedSimpArgs false
open Go.RowKit Go.Shelf
attribute [local go_sem] Oper.semAt_some
namespace Rd
/-- who is next -/
def hdA : List It → ByteArray × Bool
  | [] => (ByteArray.empty, false)
  | x :: _ => (x.1, true)
theorem hdA_pre {p s : List It} {x : It} (h : p = [x]) (hp : p <+: s) : hdA s = (x.1, true) := by
  subst h
  obtain ⟨t, rfl⟩ := hp
  rfl
/-- what the range keeps: nothing was told yet; or one was -/
def NxI (R : List Nat) (w : World) (s : ByteArray) (t : Bool) (A : World) (C : List Nat) : Prop :=
  C = offR R (w.heap.size + 2) ∧ Step R w A ∧ Blk A w.heap.size #[.string s] 9 ∧ Blk A (w.heap.size + 1) #[.bool t] 4
theorem NxI.step {R : List Nat} {w : World} {s : ByteArray} {t : Bool} {A B : World} {C H : List Nat} (h : NxI R w s t A C) (hR : ∀ k, k ∈ R → k < w.heap.size) (hs : Step H A B) (hd : Dj C H) : NxI R w s t B C := by
  obtain ⟨rfl, h1, h2, h3⟩ := h
  have m : ∀ k, w.heap.size ≤ k → k < w.heap.size + 2 → k ∉ H := fun k h1 h2 => hd k (mem_offR.2 ⟨h2, fun hm => by have := hR k hm; omega⟩)
  exact ⟨rfl, h1.off hs hd (by omega), h2.step hs (m _ (by omega) (by omega)), h3.step hs (m _ (by omega) (by omega))⟩
theorem NxI.live {R : List Nat} {w : World} {s : ByteArray} {t : Bool} {A : World} {C : List Nat} (h : NxI R w s t A C) : Live A C := by
  obtain ⟨rfl, h1, h2, h3⟩ := h
  intro k hk
  have := (mem_offR.1 hk).1
  have := h3.lt
  omega
theorem NxI.dj {R : List Nat} {w : World} {s : ByteArray} {t : Bool} {A : World} {C : List Nat} (h : NxI R w s t A C) : Dj R C := by rw [h.1]; exact offR_dj
/-- it leaves with what was told -/
theorem NxI.leave {R : List Nat} {w B : World} {s : ByteArray} {t : Bool} {C : List Nat} {D : Nat} {tmps : Array Value} {Q : Ending → World → Prop} (h : NxI R w s t B C) (hR : ∀ k, k ∈ R → k < w.heap.size) (hk : ∀ k, k ∈ R → B.heap[k]? = w.heap[k]?) (hD : w.heap.size + 2 ≤ D) (hm : B.heap[D]? = some (.deferred (some [])))
    (h2 : tmps[2]?.getD undef = .pointer (some ⟨w.heap.size, 0, none⟩)) (h3 : tmps[3]?.getD undef = .pointer (some ⟨w.heap.size + 1, 0, none⟩)) (hQ : ∀ w', Step [] w w' → Q (.returned (.tuple #[.string s, .bool t])) w') :
    LeavesInM Fence.wide 3 Try.prog Try.f18 tmps Q [{ target := .collected D, args := #[] }] .returning B := by
  obtain ⟨rfl, h4, h5, h6⟩ := h
  refine leaves_marks [D] B ⟨by simp, fun k hk => by simp at hk; subst hk; exact hm⟩ (fun w' hs => ?_)
  have c0 := (h5.step hs (by simp; omega)).cell 0
  have c1 := (h6.step hs (by simp; omega)).cell 0
  simp only [List.getElem?_toArray, List.getElem?_cons_zero] at c0 c1
  refine ⟨.tuple #[.string s, .bool t], ?_, hQ w' ?_⟩
  · simp [results, Try.f18, go_sem, c0, c1, h2, h3]
  · have hw : Step R w w' := h4.then hs (fun k hk => by simp at hk; subst hk; exact .inr (by omega))
    exact hw.undo (fun k hk' => (hs.block k (Nat.lt_of_lt_of_le (hR k hk') h4.size) (by have := hR k hk'; simp; omega)).trans (hk k hk'))
set_option maxRecDepth 20000 in
set_option maxHeartbeats 1000000 in
theorem next_any {w : World} {base rb : Nat} {hb : Nat → Nat} {S : Nat → List It} {F : Nat → List Nat} (h : Rw w base rb hb S F) :
    Calls Try.prog 18 #[.pointer (some ⟨rb, 0, none⟩)] w fun e w' => e = .returned (.tuple #[.string (hdA (allS S)).1, .bool (hdA (allS S)).2]) ∧ Step [] w w' := by
  have hlive : ∀ k, k ∈ footR rb F → k < w.heap.size := fun k hk => by
    rcases mem_footR.1 hk with rfl | ⟨i, hi, hk⟩
    · exact h.blk.lt
    · exact (h.hs i hi).live k hk
  have HH := Lib.hid h
  have HL := Lib.hid hlive
  clear h hlive
  refine calls_of_wp_marks Try.func18 rfl ?_
  simp only [Try.ntmps18, List.size_toArray, List.length_cons, List.length_nil, Nat.reduceAdd, Nat.reduceSub, Array.replicate_succ, Array.replicate_zero, List.push_toArray, List.append_toArray, List.nil_append, List.cons_append]
  go_wp2_with fail
  refine (all_box _ _).mono ?_
  rintro e w2 ⟨rfl, hw2⟩
  have hbx : ((w.alloc (.cells #[.string { data := #[] }] 9)).alloc (.cells #[.bool false] 4)).heap.size = w.heap.size + 2 := by rw [World.size_alloc, World.size_alloc]
  have b0 : Blk w2 w.heap.size #[.string { data := #[] }] 9 := by rw [hw2]; exact ((Blk.new w #[.string { data := #[] }] 9).alloc _).alloc _
  have b1 : Blk w2 (w.heap.size + 1) #[.bool false] 4 := by
    rw [hw2]
    have := Blk.new (w.alloc (.cells #[.string { data := #[] }] 9)) #[.bool false] 4
    rw [World.size_alloc] at this
    exact this.alloc _
  have hc := (Blk.new ((w.alloc (.cells #[.string { data := #[] }] 9)).alloc (.cells #[.bool false] 4)) #[.pointer (some ⟨rb, 0, none⟩)] 24).cell 0
  rw [show (#[Value.pointer (some ⟨rb, 0, none⟩)] : Array Value)[0]? = some (.pointer (some ⟨rb, 0, none⟩)) from rfl] at hc
  have hs2 : Step [] w w2 := by rw [hw2]; exact (((Step.refl [] w).alloc _).alloc _).alloc _
  have hsz : w2.heap.size = w.heap.size + 3 := by rw [hw2, World.size_alloc, hbx]
  rw [← hw2] at hc
  rw [hbx] at hc ⊢
  have HB := Lib.hid (And.intro b0 (And.intro b1 (And.intro hs2 (And.intro hsz hc))))
  clear hw2 hbx b0 b1 hs2 hsz hc
  go_wp2_with fail
  refine (wpIn_wide (n := 6)).1 ?_
  refine wpIn_range_sepVX (gf := 26) (lb := #[.pointer (some ⟨w.heap.size + 2, 0, none⟩)]) rfl (by omega) rfl trivial (enters_of Try.func26 (by kernel_rfl) rfl)
    (all1_sep 5 (by omega) (w.heap.size + 2) base rb hb S F).toV (fun X hs => ⟨(hs.cell (by rw [HB.out.2.2.2.1]; omega) (by simp)).trans HB.out.2.2.2.2, (HH.out.step0 HB.out.2.2.1).step0 hs⟩) (fun _ => rfl) (fun k hk => Nat.lt_of_lt_of_le (HL.out k hk) HB.out.2.2.1.size)
    (fun xs A C => xs = [] ∧ NxI (footR rb F) w { data := #[] } false A C) (fun c xs A C => c = .ret ∧ ∃ x, xs = [x] ∧ NxI (footR rb F) w x.1 true A C)
    (fun s A B C H h hs hd => ⟨h.1, h.2.step HL.out hs hd⟩) (fun s A C h => h.2.live) (fun s A C h => h.2.dj)
    (fun c s A B C H h hs hd => by obtain ⟨h1, x, h2, h3⟩ := h; exact ⟨h1, x, h2, h3.step HL.out hs hd⟩) (fun c s A C h => by obtain ⟨h1, x, h2, h3⟩ := h; exact h3.live)
    (offR (footR rb F) (w.heap.size + 2)) (footR rb F) (fun k hk => Nat.lt_of_lt_of_le (HL.out k hk) HB.out.2.2.1.size) offR_dj ⟨rfl, rfl, HB.out.2.2.1.mono (by simp), HB.out.1, HB.out.2.1⟩
    (fun pre x a' A C => a' = { tmps := #[.pointer (some ⟨rb, 0, none⟩), undef, .pointer (some ⟨w.heap.size, 0, none⟩), .pointer (some ⟨w.heap.size + 1, 0, none⟩), .string x.1, .pointer (some ⟨rb, 0, none⟩), .func (.func 26) #[] #[.pointer (some ⟨w.heap.size + 2, 0, none⟩)], .string x.1, undef], defers := [] }) (fun _ _ _ _ _ _ _ _ h _ _ _ _ => h) ?assign ?body ?done ?stop
  case assign =>
    rintro l pre ⟨xk, xr⟩ A C K hI hV _ _ _ hK
    gi_wp2
    exact hK _ _ (Step.refl _ _) rfl
  case body =>
    rintro l pre ⟨xk, xr⟩ a' A C hrec hlC hlx hlv hdx hdr ⟨rfl, hI⟩ rfl
    obtain ⟨rfl, h1, h2, h3⟩ := hI
    have c0 := h2.cell 0
    have c1 := h3.cell 0
    have g0 := h2.free 0
    have g1 := h3.free 0
    simp only [List.getElem?_toArray, List.getElem?_cons_zero] at c0 c1
    have HI := Lib.hid (And.intro h1 (And.intro h2 h3))
    clear h1 h2 h3 hrec
    gi_wp2
    obtain ⟨h1, h2, h3⟩ := HI.out
    have hne : w.heap.size + 1 ≠ w.heap.size := by omega
    have m0 := (h2.set 0 (.string xk)).set_ne (w.heap.size + 1) 0 (.bool true) (by omega)
    have m1 := (h3.set_ne w.heap.size 0 (.string xk) hne).set 0 (.bool true)
    have in0 : w.heap.size ∈ offR (footR rb F) (w.heap.size + 2) := mem_offR.2 ⟨by omega, fun hm => by have := HL.out _ hm; omega⟩
    have in1 : w.heap.size + 1 ∈ offR (footR rb F) (w.heap.size + 2) := mem_offR.2 ⟨by omega, fun hm => by have := HL.out _ hm; omega⟩
    refine ⟨_, ⟨rfl, (xk, xr), rfl, rfl, (h1.setCell (.inr (by omega)) 0 _).setCell (.inr (by omega)) 0 _, m0, m1⟩, ((Step.refl _ A).setCell (.inl (List.mem_append_left _ in0)) 0 _).setCell (.inl (List.mem_append_left _ in1)) 0 _, fun k hk => .inl (List.mem_append_left _ hk)⟩
  case done =>
    rintro D xs B C hD hDC rfl ⟨hx, hI⟩ hm hk
    have hI2 := hI
    obtain ⟨rfl, h1, h2, h3⟩ := hI2
    have c0 := h2.cell 0
    have c1 := h3.cell 0
    have g0 := h2.free 0
    have g1 := h3.free 0
    simp only [List.getElem?_toArray, List.getElem?_cons_zero] at c0 c1
    have HI := Lib.hid (And.intro h1 (And.intro h2 (And.intro h3 (And.intro hD (And.intro hm (And.intro hk hx))))))
    clear h1 h2 h3 hI hm hk hD hDC hx
    go_wp2_with fail
    obtain ⟨h1, h2, h3, hD, hm, hk, hx⟩ := HI.out
    have hne : w.heap.size + 1 ≠ w.heap.size := by omega
    have m0 := (h2.set 0 (.string { data := #[] })).set_ne (w.heap.size + 1) 0 (.bool false) (by omega)
    have m1 := (h3.set_ne w.heap.size 0 (.string { data := #[] }) hne).set 0 (.bool false)
    have sB := ((Step.refl [w.heap.size, w.heap.size + 1] B).setCell (b := w.heap.size) (.inl (by simp)) 0 (.string { data := #[] })).setCell (b := w.heap.size + 1) (.inl (by simp)) 0 (.bool false)
    have hsz := HB.out.2.2.2.1
    have hDB : D < B.heap.size := (Array.getElem?_eq_some_iff.1 hm).1
    have hB1 := h1.size
    refine NxI.leave (R := footR rb F) (w := w) (s := { data := #[] }) (t := false) (C := _) ⟨rfl, (h1.setCell (.inr (by omega)) 0 _).setCell (.inr (by omega)) 0 _, m0, m1⟩ HL.out (fun k hk' => ?_) (by omega) ((sB.block D hDB (by simp; omega)).trans hm) rfl rfl (fun w' hs => ⟨by rw [hx]; rfl, hs⟩)
    have hlt := HL.out k hk'
    exact ((sB.block k (by omega) (by simp; omega)).trans (hk k hk')).trans (HB.out.2.2.1.block k hlt (by simp))
  case stop =>
    rintro D c xs B C hD hDC hp ⟨rfl, x, hx, hI⟩ hm hk
    have HI := Lib.hid (And.intro hI (And.intro hD (And.intro hm (And.intro hk (And.intro hx hp)))))
    clear hI hD hDC hp hx hm hk
    gi_wp2
    obtain ⟨hI, hD, hm, hk, hx, hp⟩ := HI.out
    have hsz := HB.out.2.2.2.1
    exact hI.leave HL.out (fun k hk' => (hk k hk').trans (HB.out.2.2.1.block k (HL.out k hk') (by simp))) (by omega) hm rfl rfl (fun w' hs => ⟨by rw [hdA_pre hx hp], hs⟩)
end Rd
end Go.Proofs.Ytebgojcecgimaaa
