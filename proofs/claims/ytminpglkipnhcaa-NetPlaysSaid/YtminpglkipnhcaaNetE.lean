/- net: a net in memory; New, of, Walled, has, Len. -/
import Derived.Test.YtminpglkipnhcaaNetD
namespace Go.Proofs.Ytminpglkipnhcaa
set_option linter.unusedVariables false
open Go.RowKit
attribute [local go_sem ↓] exec_load_m exec_store_m
attribute [local go_sem] Try.load_m row_drew Try.store_m

/-- a net: its messages, its walls -/
structure Nt (w : World) (base nb mb : Nat) (lv : Value) (L : List Ms) (n : Nat) (f : PK → Option Bool) : Prop where
  blk : Blk w nb #[lv, .map (some mb)] 61
  own : w.ownsRow base 31 11 lv L.length (flatM L)
  walls : MapF pairKey boolEl w mb n f
  low1 : base ≤ nb
  low2 : base ≤ mb
  ap1 : nb ∉ foot lv
  ap2 : mb ∉ foot lv
  ap3 : nb ≠ mb
  few : L.length ≤ 65
  fewn : n ≤ 1000
def footN (nb mb : Nat) (lv : Value) : List Nat := nb :: mb :: foot lv
theorem Nt.step {F : List Nat} {w w' : World} {base nb mb : Nat} {lv : Value} {L : List Ms} {n : Nat} {f : PK → Option Bool} (h : Nt w base nb mb lv L n f) (hs : Step F w w') (hn : Dj (footN nb mb lv) F) : Nt w' base nb mb lv L n f :=
  ⟨h.blk.step hs (hn nb (by simp [footN])), owns_step h.own hs (fun k hk => hn k (by simp [footN, hk])), h.walls.step hs (hn mb (by simp [footN])), h.low1, h.low2, h.ap1, h.ap2, h.ap3, h.few, h.fewn⟩
theorem Nt.step0 {w w' : World} {base nb mb : Nat} {lv : Value} {L : List Ms} {n : Nat} {f : PK → Option Bool} (h : Nt w base nb mb lv L n f) (hs : Step [] w w') : Nt w' base nb mb lv L n f := h.step hs (fun k _ => by simp)
theorem Nt.live {w : World} {base nb mb : Nat} {lv : Value} {L : List Ms} {n : Nat} {f : PK → Option Bool} (h : Nt w base nb mb lv L n f) : ∀ k, k ∈ footN nb mb lv → base ≤ k ∧ k < w.heap.size := by
  intro k hk
  simp only [footN, List.mem_cons] at hk
  rcases hk with rfl | rfl | hk
  · exact ⟨h.low1, h.blk.lt⟩
  · exact ⟨h.low2, h.walls.lt⟩
  · exact foot_lt h.own k hk

/-- two nodes as a key, the lesser one first -/
def pk (a b : Int) (ha : (Lit.int .i64 a).wf = true) (hb : (Lit.int .i64 b).wf = true) : PK :=
  ⟨min a b, max a b, by rcases Int.le_total a b with h | h <;> simp [Int.min_eq_left, Int.min_eq_right, h, ha, hb], by rcases Int.le_total a b with h | h <;> simp [Int.max_eq_left, Int.max_eq_right, h, ha, hb]⟩
/-- is there a wall? -/
def wld (f : PK → Option Bool) (p : PK) : Bool := (f p).getD false

theorem new_any (w : World) : Calls Try.prog 7 #[] w fun e w' => ∃ nb mb, e = .returned (.pointer (some ⟨nb, 0, none⟩)) ∧ Nt w' w.heap.size nb mb (.slice none 0 0) [] 0 (fun _ => none) ∧ Step [] w w' := by
  have hmm := @run_makeMap Try.prog
  go_enter Try.func7, Try.ntmps7
  go_wp2_with fail
  go_ret
  have hm := MapF.made (P := Try.prog) pairKey boolEl w
  have hb := Blk.new (w.alloc (.map #[] 0)) #[.slice none 0 0, .map (some w.heap.size)] 61
  rw [World.size_alloc] at hb
  refine ⟨w.heap.size + 1, w.heap.size, rfl, ⟨hb, World.ownsRow_nil _ _ _ _, hm.step ((Step.refl [] _).alloc _) (by simp), by omega, by omega, by simp [foot, Value.ownBlock], by simp [foot, Value.ownBlock], by omega, by simp, by omega⟩, ((Step.refl [] w).alloc _).alloc _⟩

def OfPost (a b : Int) (w : World) (e : Ending) (w' : World) : Prop := e = .returned (.agg #[.int .i64 (min a b), .int .i64 (max a b)]) ∧ Step [] w w'
theorem of_any (a b : Int) (w : World) : Calls Try.prog 31 #[.int .i64 a, .int .i64 b] w (OfPost a b w) := by
  have key : ∀ (x y : Int) (W : World), W = w → Calls Try.prog 31 #[.int .i64 a, .int .i64 b] W (OfPost a b w) → Calls Try.prog 31 #[.int .i64 a, .int .i64 b] w (OfPost a b w) := fun x y W e h => e ▸ h
  rcases Int.lt_trichotomy a b with h | h | h
  · have e1 : min a b = a := by omega
    have e2 : max a b = b := by omega
    have h1 : ¬ b < a := by omega
    have h2 : ¬ b ≤ a := by omega
    have hp : OfPost a b w = fun e w' => e = .returned (.agg #[.int .i64 a, .int .i64 b]) ∧ Step [] w w' := by unfold OfPost; rw [e1, e2]
    rw [hp]
    clear hp e1 e2 key
    go_enter Try.func31, Try.ntmps31
    go_wp2_with fail
    exact bodyPost_ret (v := .agg #[.int .i64 a, .int .i64 b]) (by simp [results, Try.results31, go_sem]) rfl ⟨rfl, (Step.refl [] w).alloc _⟩
  · subst h
    have hp : OfPost a a w = fun e w' => e = .returned (.agg #[.int .i64 a, .int .i64 a]) ∧ Step [] w w' := by unfold OfPost; simp
    rw [hp]
    clear hp key
    go_enter Try.func31, Try.ntmps31
    go_wp2_with fail
    exact bodyPost_ret (v := .agg #[.int .i64 a, .int .i64 a]) (by simp [results, Try.results31, go_sem]) rfl ⟨rfl, (Step.refl [] w).alloc _⟩
  · have e1 : min a b = b := by omega
    have e2 : max a b = a := by omega
    have h1 : ¬ a < b := by omega
    have h2 : ¬ a ≤ b := by omega
    have hp : OfPost a b w = fun e w' => e = .returned (.agg #[.int .i64 b, .int .i64 a]) ∧ Step [] w w' := by unfold OfPost; rw [e1, e2]
    rw [hp]
    clear hp e1 e2 key
    go_enter Try.func31, Try.ntmps31
    go_wp2_with fail
    exact bodyPost_ret (v := .agg #[.int .i64 b, .int .i64 a]) (by simp [results, Try.results31, go_sem]) rfl ⟨rfl, (Step.refl [] w).alloc _⟩

def SpOf (a b : Int) (_ : FuncId) (_ : Array Value) (v : Value) (_ : World) : Prop := v = .agg #[.int .i64 (min a b), .int .i64 (max a b)]
theorem spOf_law (a b : Int) : RelLaw (Step []) (SpOf a b) where
  refl := fun w => Step.refl [] w
  trans := fun w w' w'' h h' => h.then h' (by simp)
  stable := fun f args v w w' h hs => h
theorem walled_nil (a b : Int) (w : World) : Calls Try.prog 21 #[.pointer none, .int .i64 a, .int .i64 b] w fun e w' => e = .returned (.bool false) ∧ Step [] w w' := by
  go_enter Try.func21, Try.ntmps21
  go_wp2_with fail
  have hne : Nonempty (ClsW (Step [] w.drew)) := ⟨⟨_, Step.refl _ _⟩⟩
  refine region_cls (G := Step [] w.drew) (by kernel_rfl) (by kernel_rfl) (Step.refl _ _) ?_
  repeat (go_big_quiet_step (fail))
  refine wpQuiet_nil ?_
  rintro _ ⟨⟨w2, hw2⟩, rfl⟩
  have HS := Lib.hid ((Step.refl [] w).drew.then hw2 (by simp))
  clear hne hw2
  go_wp2_with fail
  go_ret
  exact ⟨rfl, HS.out⟩

theorem walled_any (base nb mb : Nat) (lv : Value) (L : List Ms) (n : Nat) (f : PK → Option Bool) (a b : Int) (ha : (Lit.int .i64 a).wf = true) (hb : (Lit.int .i64 b).wf = true) (w : World) (h : Nt w base nb mb lv L n f) :
    Calls Try.prog 21 #[.pointer (some ⟨nb, 0, none⟩), .int .i64 a, .int .i64 b] w fun e w' => e = .returned (.bool (wld f (pk a b ha hb))) ∧ Step [] w w' := by
  have HN := Lib.hid h
  have c1 := h.blk.cell 1
  simp only [List.getElem?_toArray, List.getElem?_cons_zero, List.getElem?_cons_succ] at c1
  have hlt := h.blk.lt
  have HL := Lib.hid (fun (w' : World) (hs : Step [] w.drew w') => (h.step0 ((Step.refl [] w).drew.then hs (by simp))).walls.run Try.underlying59 false (by kernel_rfl) (pk a b ha hb) trivial)
  have HW : wld f (pk a b ha hb) = (f (pk a b ha hb)).getD false := rfl
  obtain ⟨r, hr⟩ : ∃ r, wld f (pk a b ha hb) = r := ⟨_, rfl⟩
  rw [hr] at HW ⊢
  rw [← HW] at HL
  clear h hr HW
  go_enter Try.func21, Try.ntmps21
  go_wp2_with fail
  have hne : Nonempty (ClsW (Step [] w.drew)) := ⟨⟨_, Step.refl _ _⟩⟩
  have d1 : ∀ y : ClsW (Step [] w.drew), y.val.cell? ⟨nb, 1, none⟩ = some (.map (some mb)) := fun y => (y.ok.cell hlt (by simp)).trans c1
  have d2 : ∀ y : ClsW (Step [] w.drew), (Instr.lookup 59 (.map (some mb)) (.agg #[.int .i64 (min a b), .int .i64 (max a b)]) false).run Try.prog y.val = .ok (.bool r) y.val := fun y => HL.out y.val y.ok
  refine wp_region_rel (spOf_law a b) (by kernel_rfl) (by kernel_rfl) ?_
  refine wpR_pre (spOf_law a b) anti_norm 9 _ _ _ ?_ rfl
  simp only [List.take_succ_cons, List.take_zero, List.drop_succ_cons, List.drop_zero]
  repeat (go_big_quiet_step (fail))
  refine wpQuiet_nil ?_
  refine wpR_callF 31 _ _ rfl (by rfl) Try.func31 (by kernel_rfl) (by kernel_rfl) #[.int .i64 a, .int .i64 b] (by simp [Act.eval]) (fun w1 hg => (of_any a b w1).mono (fun e w'' h => ⟨_, h.1, rfl, h.2⟩)) ?_
  rintro v ⟨_, _, hv⟩
  unfold SpOf at hv
  subst hv
  refine wpR_pre (spOf_law a b) anti_norm 3 _ _ _ ?_ rfl
  simp only [List.take_succ_cons, List.take_zero, List.drop_succ_cons, List.drop_zero]
  go_simp
  repeat (go_big_quiet_step (fail))
  refine wpQuiet_nil ?_
  unfold wpR
  intro w7 hs7 hF7
  have HS := Lib.hid ((Step.refl [] w).drew.then hs7 (by simp))
  clear hne hs7 hF7 d1 d2 HL
  go_wp2_with fail
  go_ret
  exact ⟨rfl, HS.out⟩

theorem len_any (base nb mb : Nat) (lv : Value) (L : List Ms) (n : Nat) (f : PK → Option Bool) (w : World) (h : Nt w base nb mb lv L n f) :
    Calls Try.prog 9 #[.pointer (some ⟨nb, 0, none⟩)] w fun e w' => e = .returned (.int .i64 (L.length : Int)) ∧ Step [] w w' := by
  have c0 := h.blk.cell 0
  simp only [List.getElem?_toArray, List.getElem?_cons_zero] at c0
  obtain ⟨ao, c, rfl⟩ : ∃ ao c, lv = .slice ao L.length c := by
    rcases h.own.2 with ⟨h1, h2⟩ | ⟨g, c, cur, h1, _⟩
    · exact ⟨_, _, by rw [h1, h2]⟩
    · exact ⟨_, _, h1⟩
  have hf := h.few
  clear h
  go_enter Try.func9, Try.ntmps9
  go_wp2_with fail
  go_ret
  exact ⟨rfl, Step.refl _ _⟩
theorem len_nil (w : World) : Calls Try.prog 9 #[.pointer none] w fun e w' => e = .returned (.int .i64 0) ∧ Step [] w w' := by
  go_enter Try.func9, Try.ntmps9
  go_wp2_with fail
  go_ret
  exact ⟨rfl, Step.refl _ _⟩

/-- is there an i-th one? -/
def hasI (i : Int) (n : Nat) : Bool := decide (0 ≤ i) && decide (i < n)
theorem has_any (base nb mb : Nat) (lv : Value) (L : List Ms) (n : Nat) (f : PK → Option Bool) (i : Int) (w : World) (h : Nt w base nb mb lv L n f) :
    Calls Try.prog 24 #[.pointer (some ⟨nb, 0, none⟩), .int .i64 i] w fun e w' => e = .returned (.bool (hasI i L.length)) ∧ w = w' := by
  have c0 := h.blk.cell 0
  simp only [List.getElem?_toArray, List.getElem?_cons_zero] at c0
  obtain ⟨ao, c, rfl⟩ : ∃ ao c, lv = .slice ao L.length c := by
    rcases h.own.2 with ⟨h1, h2⟩ | ⟨g, c, cur, h1, _⟩
    · exact ⟨_, _, by rw [h1, h2]⟩
    · exact ⟨_, _, h1⟩
  have hf := h.few
  clear h
  generalize L.length = m at *
  by_cases h0 : 0 ≤ i
  · have e1 : hasI i m = decide (i < (m : Int)) := by simp [hasI, h0]
    rw [e1]
    clear e1
    have p1 : decide ((0 : Int) ≤ i) = true := by simpa using h0
    go_enter Try.func24, Try.ntmps24
    go_wp2_with fail
    go_ret
    exact ⟨rfl, rfl⟩
  · have e1 : hasI i m = false := by simp [hasI, h0]
    rw [e1]
    clear e1
    have p1 : decide ((0 : Int) ≤ i) = false := by simpa using h0
    go_enter Try.func24, Try.ntmps24
    go_wp2_with fail
    go_ret
    exact ⟨rfl, rfl⟩
theorem has_nil (i : Int) (w : World) : Calls Try.prog 24 #[.pointer none, .int .i64 i] w fun e w' => e = .returned (.bool false) ∧ w = w' := by
  go_enter Try.func24, Try.ntmps24
  go_wp2_with fail
  go_ret
  exact ⟨rfl, rfl⟩
end Go.Proofs.Ytminpglkipnhcaa
