/- three heaps side by side. -/
import Derived.Test.YtdbhldlgfchjpaaHpJA
namespace Go.Proofs.Ytdbhldlgfchjpaa
set_option linter.unusedVariables false
open Go.RowKit
def Dj (F G : List Nat) : Prop := ∀ k, k ∈ F → k ∉ G
theorem Dj.symm {F G : List Nat} (h : Dj F G) : Dj G F := fun k hg hf => h k hf hg
theorem Dj.fresh {F G G' : List Nat} {w : World} (h : Dj F G) (hl : ∀ k, k ∈ F → k < w.heap.size) (hf : Fresh w G G') : Dj F G' := fun k hk hg =>
  (hf k hg).elim (h k hk) (fun h2 => by have := hl k hk; omega)
namespace HpA
def lenAt (w : World) (hb : Nat) : Nat := match w.cell? ⟨hb, 0, none⟩ with | some (.slice _ n _) => n | _ => 0
theorem Hs.lenAt {w : World} {base hb : Nat} {s : List It} {F : List Nat} (h : Hs w base hb s F) : lenAt w hb = s.length := by
  obtain ⟨lv, mb, l, f, rfl, h1, h2, h3, h4⟩ := h
  obtain ⟨ao, cap, rfl⟩ : ∃ ao cap, lv = .slice ao l.length cap := by
    rcases h1.own.2 with ⟨hv, h0⟩ | ⟨g, cap, cur, hv, _⟩
    · exact ⟨none, 0, by rw [hv, h0]⟩
    · exact ⟨_, cap, hv⟩
  have c0 : w.cell? ⟨hb, 0, none⟩ = some (.slice ao l.length cap) := h1.blk.cell 0
  unfold HpA.lenAt
  rw [c0]
  exact h3.length_eq
/-- three heaps, each in blocks of its own that are new since w0 -/
def Tri (w0 w : World) (hx : Nat) (X : List It) (hy : Nat) (Y : List It) (hz : Nat) (Z : List It) : Prop :=
  ∃ bx by' bz Fx Fy Fz, Hs w bx hx X Fx ∧ Hs w by' hy Y Fy ∧ Hs w bz hz Z Fz ∧ Dj Fx Fy ∧ Dj Fx Fz ∧ Dj Fy Fz ∧ w0.heap.size ≤ bx ∧ w0.heap.size ≤ by' ∧ w0.heap.size ≤ bz ∧ Step [] w0 w
variable {w0 w w' : World} {hx hy hz : Nat} {X Y Z : List It}
theorem Tri.xy (h : Tri w0 w hx X hy Y hz Z) : Tri w0 w hy Y hx X hz Z := by
  obtain ⟨bx, by', bz, Fx, Fy, Fz, h1, h2, h3, d1, d2, d3, l1, l2, l3, hs⟩ := h
  exact ⟨by', bx, bz, Fy, Fx, Fz, h2, h1, h3, d1.symm, d3, d2, l2, l1, l3, hs⟩
theorem Tri.xz (h : Tri w0 w hx X hy Y hz Z) : Tri w0 w hz Z hy Y hx X := by
  obtain ⟨bx, by', bz, Fx, Fy, Fz, h1, h2, h3, d1, d2, d3, l1, l2, l3, hs⟩ := h
  exact ⟨bz, by', bx, Fz, Fy, Fx, h3, h2, h1, d3.symm, d2.symm, d1.symm, l3, l2, l1, hs⟩
theorem Tri.st (h : Tri w0 w hx X hy Y hz Z) : Step [] w0 w := by
  obtain ⟨bx, by', bz, Fx, Fy, Fz, h1, h2, h3, d1, d2, d3, l1, l2, l3, hs⟩ := h
  exact hs
theorem Tri.step (h : Tri w0 w hx X hy Y hz Z) (hs : Step [] w w') : Tri w0 w' hx X hy Y hz Z := by
  obtain ⟨bx, by', bz, Fx, Fy, Fz, h1, h2, h3, d1, d2, d3, l1, l2, l3, hs0⟩ := h
  exact ⟨bx, by', bz, Fx, Fy, Fz, h1.step hs (by simp), h2.step hs (by simp), h3.step hs (by simp), d1, d2, d3, l1, l2, l3, hs0.then hs (by simp)⟩
theorem Tri.put (h : Tri w0 w hx X hy Y hz Z) (k r : Int) (hg : good k) (hfew : X.length < 1000) :
    Calls Try.prog 8 #[.pointer (some ⟨hx, 0, none⟩), .int .u16 k, .int .u16 r] w fun e w' => (∃ b, e = .returned (.bool b)) ∧ Tri w0 w' hx (Hp.ins lt (k, r) (Hp.wok k X)) hy Y hz Z := by
  obtain ⟨bx, by', bz, Fx, Fy, Fz, h1, h2, h3, d1, d2, d3, l1, l2, l3, hs0⟩ := h
  refine (put_hs h1 k r hg hfew).mono ?_
  rintro e w' ⟨Fx', rfl, h4, h5, h6⟩
  exact ⟨⟨_, rfl⟩, bx, by', bz, Fx', Fy, Fz, h4, h2.step h5 d1.symm, h3.step h5 d2.symm, (d1.symm.fresh h2.live h6).symm, (d2.symm.fresh h3.live h6).symm, d3, l1, l2, l3,
    hs0.then h5 (fun k hk => .inr (Nat.le_trans l1 (h1.low k hk)))⟩
theorem Tri.pop (h : Tri w0 w hx X hy Y hz Z) :
    Calls Try.prog 10 #[.pointer (some ⟨hx, 0, none⟩)] w fun e w' => e = .returned (.tuple #[.agg #[.int .u16 (hdS X).1.1, .int .u16 (hdS X).1.2], .bool (hdS X).2]) ∧ Tri w0 w' hx X.tail hy Y hz Z := by
  obtain ⟨bx, by', bz, Fx, Fy, Fz, h1, h2, h3, d1, d2, d3, l1, l2, l3, hs0⟩ := h
  refine (pop_hs h1).mono ?_
  rintro e w' ⟨Fx', rfl, h4, h5, h6⟩
  exact ⟨rfl, bx, by', bz, Fx', Fy, Fz, h4, h2.step h5 d1.symm, h3.step h5 d2.symm, (d1.symm.fresh h2.live h6).symm, (d2.symm.fresh h3.live h6).symm, d3, l1, l2, l3,
    hs0.then h5 (fun k hk => .inr (Nat.le_trans l1 (h1.low k hk)))⟩
theorem Tri.pop_keep {W : World} (h : Tri w0 w hx X hy Y hz Z) (hW : Step [] w W) :
    Calls Try.prog 10 #[.pointer (some ⟨hx, 0, none⟩)] W fun e w' => e = .returned (.tuple #[.agg #[.int .u16 (hdS X).1.1, .int .u16 (hdS X).1.2], .bool (hdS X).2]) ∧ Tri w0 w' hx X.tail hy Y hz Z ∧
      ∀ b C T, w.heap.size ≤ b → Blk W b C T → Blk w' b C T := by
  have hh := h.step hW
  obtain ⟨bx, by', bz, Fx, Fy, Fz, h1, h2, h3, d1, d2, d3, l1, l2, l3, hs0⟩ := h
  have hliv := h1.live
  have g1 := h1.step hW (by simp)
  have g2 := h2.step hW (by simp)
  have g3 := h3.step hW (by simp)
  refine (pop_hs g1).mono ?_
  rintro e w' ⟨Fx', rfl, h4, h5, h6⟩
  exact ⟨rfl, ⟨bx, by', bz, Fx', Fy, Fz, h4, g2.step h5 d1.symm, g3.step h5 d2.symm, (d1.symm.fresh g2.live h6).symm, (d2.symm.fresh g3.live h6).symm, d3, l1, l2, l3,
    (hs0.then hW (by simp)).then h5 (fun k hk => .inr (Nat.le_trans l1 (h1.low k hk)))⟩, fun b C T hb hB => hB.step h5 (fun hm => by have := hliv b hm; omega)⟩
theorem Tri.len (h : Tri w0 w hx X hy Y hz Z) :
    Calls Try.prog 9 #[.pointer (some ⟨hx, 0, none⟩)] w fun e w' => e = .returned (.int .i64 (X.length : Int)) ∧ w = w' := by
  obtain ⟨bx, by', bz, Fx, Fy, Fz, h1, h2, h3, d1, d2, d3, l1, l2, l3, hs0⟩ := h
  exact len_hs h1
theorem Tri.lenAt (h : Tri w0 w hx X hy Y hz Z) : lenAt w hx = X.length := by
  obtain ⟨bx, by', bz, Fx, Fy, Fz, h1, h2, h3, d1, d2, d3, l1, l2, l3, hs0⟩ := h
  exact h1.lenAt
theorem Tri.srt (h : Tri w0 w hx X hy Y hz Z) : Hp.Srt lt X := by
  obtain ⟨bx, by', bz, Fx, Fy, Fz, h1, h2, h3, d1, d2, d3, l1, l2, l3, hs0⟩ := h
  exact h1.srt
theorem Tri.good (h : Tri w0 w hx X hy Y hz Z) : ∀ x ∈ X, HpA.good x.1 := by
  obtain ⟨bx, by', bz, Fx, Fy, Fz, h1, h2, h3, d1, d2, d3, l1, l2, l3, hs0⟩ := h
  exact h1.good
theorem Tri.keys (h : Tri w0 w hx X hy Y hz Z) : (X.map (fun x => x.1)).Nodup := by
  obtain ⟨bx, by', bz, Fx, Fy, Fz, h1, h2, h3, d1, d2, d3, l1, l2, l3, hs0⟩ := h
  exact h1.keys
/-- three that were just made -/
theorem Tri.made {w1 w2 w3 : World} {F1 F2 F3 : List Nat} (h1 : Hs w1 w0.heap.size hx [] F1) (s1 : Step [] w0 w1) (h2 : Hs w2 w1.heap.size hy [] F2) (s2 : Step [] w1 w2) (h3 : Hs w3 w2.heap.size hz [] F3) (s3 : Step [] w2 w3) : Tri w0 w3 hx [] hy [] hz [] := by
  refine ⟨_, _, _, F1, F2, F3, (h1.step s2 (by simp)).step s3 (by simp), h2.step s3 (by simp), h3, ?_, ?_, ?_, Nat.le_refl _, s1.size, Nat.le_trans s1.size s2.size, (s1.then s2 (by simp)).then s3 (by simp)⟩
  · intro k hk hm
    have := h1.live k hk
    have := h2.low k hm
    omega
  · intro k hk hm
    have := h1.live k hk
    have := h3.low k hm
    have := s2.size
    omega
  · intro k hk hm
    have := h2.live k hk
    have := h3.low k hm
    omega

/-! what is in them -/
/-- just the keys for which A is so, each with its rank -/
def Gr (rk : Int → Int) (s : List It) (A : Int → Prop) : Prop := ∀ x, x ∈ s ↔ A x.1 ∧ x.2 = rk x.1
variable {rk : Int → Int} {s t : List It} {A B : Int → Prop}
theorem gr_nil : Gr rk [] (fun _ => False) := fun x => by simp
theorem gr_put (h : Gr rk s A) (k : Int) : Gr rk (Hp.ins lt (k, rk k) (Hp.wok k s)) (fun y => y = k ∨ A y) := by
  intro x
  rw [Hp.mem_ins, Hp.mem_wok, h x]
  obtain ⟨a, b⟩ := x
  dsimp only
  constructor
  · rintro (h1 | ⟨⟨h1, h2⟩, h3⟩)
    · injection h1 with h1 h2
      subst h1
      exact ⟨.inl rfl, h2⟩
    · exact ⟨.inr h1, h2⟩
  · rintro ⟨h1 | h1, h2⟩
    · subst h1
      left
      rw [h2]
    · by_cases e : a = k
      · subst e
        left
        rw [h2]
      · exact .inr ⟨⟨h1, h2⟩, e⟩
theorem gr_tail {x : It} (h : Gr rk (x :: s) A) (hk : ((x :: s).map (fun y => y.1)).Nodup) : Gr rk s (fun y => A y ∧ y ≠ x.1) := by
  intro y
  have h1 := Hp.wok_head hk
  have h2 : y ∈ s ↔ y ∈ x :: s ∧ y.1 ≠ x.1 := by
    rw [← Hp.mem_wok, h1]
  rw [h2, h y]
  exact and_right_comm
theorem gr_iff (h : Gr rk s A) (hab : ∀ y, A y ↔ B y) : Gr rk s B := fun x => by rw [h x, hab]
theorem gr_eq (h1 : Gr rk s A) (h2 : Gr rk t A) (s1 : Hp.Srt lt s) (s2 : Hp.Srt lt t) : s = t := Hp.srt_ext olt s1 s2 fun x => by rw [h1 x, h2 x]
end HpA
end Go.Proofs.Ytdbhldlgfchjpaa
