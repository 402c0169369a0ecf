/- wheel.step. -/
import Derived.Test.YtmfplcmncipojaaWhC
namespace Go.Proofs.Ytmfplcmncipojaa
set_option linter.unusedVariables false
set_option linter.unusedSimpArgs false
open Go.RowKit Go.Maps

/-- everything where it belongs -/
def PI (now : Int) (T : ByteArray → Option Int) : ByteArray → Int × Int := fun x => fnd now ((T x).getD 0)
/-- what has come down so far -/
def CC (t : Int) (i : Int) (q : Int × Int) : Prop :=
  (q = (4, 0) ∧ t % 16777216 = 0) ∨ (i < 3 ∧ q = (3, t / 262144 % 64) ∧ t % 262144 = 0) ∨ (i < 2 ∧ q = (2, t / 4096 % 64) ∧ t % 4096 = 0) ∨ (i < 1 ∧ q = (1, t / 64 % 64) ∧ t % 64 = 0)
/-- each timer is where it belongs now, or where it belonged, and that did not come down -/
def Inv (now t : Int) (T : ByteArray → Option Int) (π : ByteArray → Int × Int) (C : Int × Int → Prop) : Prop :=
  ∀ x : ByteArray, x.size ≤ maxLen → ∀ a, T x = some a → π x = fnd t a ∨ (π x = fnd now a ∧ ¬ C (fnd now a))
theorem Inv.start (now t : Int) (T : ByteArray → Option Int) : Inv now t T (PI now T) (fun _ => False) := fun x _ a ha => by
  right
  unfold PI
  rw [ha]
  exact ⟨rfl, fun h => h⟩
theorem Inv.same {now t : Int} {T : ByteArray → Option Int} {π : ByteArray → Int × Int} {C D : Int × Int → Prop} (h : Inv now t T π C) (hd : ∀ q, D q → C q) : Inv now t T π D := fun x hx a ha => by
  rcases h x hx a ha with h | ⟨h1, h2⟩
  · exact .inl h
  · exact .inr ⟨h1, fun h => h2 (hd _ h)⟩
theorem Inv.casc {now t : Int} {T : ByteArray → Option Int} {π : ByteArray → Int × Int} {C D : Int × Int → Prop} {p : Int × Int} (h : Inv now t T π C) (hp : okP p) (hd : ∀ q, D q → C q ∨ q = p) : Inv now t T (piL t T π (slt p) fun _ => false) D := fun x hx a ha => by
  unfold piL
  by_cases hs : slt (π x) = slt p
  · left
    rw [if_pos ⟨hs, rfl⟩, ha]
    rfl
  · rw [if_neg (fun h => hs h.1)]
    rcases h x hx a ha with h | ⟨h1, h2⟩
    · exact .inl h
    · refine .inr ⟨h1, fun h => ?_⟩
      rcases hd _ h with h | h
      · exact h2 h
      · rw [← h1] at h
        exact hs (by rw [h])
theorem Inv.done {now t : Int} {T : ByteArray → Option Int} {π : ByteArray → Int × Int} (h : Inv now t T π (comes t)) (h0 : 0 ≤ now) (h1 : now < t) (h2 : (t - 1) / 64 = now / 64) (h3 : ∀ x : ByteArray, x.size ≤ maxLen → ∀ a, T x = some a → a ≤ now ∨ t ≤ a) :
    (∀ x : ByteArray, x.size ≤ maxLen → WL T π x = WL T (PI t T) x) ∧ ∀ s, ∀ x : ByteArray, x.size ≤ maxLen → SL T π s x = SL T (PI t T) s x := by
  have key : ∀ x : ByteArray, x.size ≤ maxLen → ∀ a, T x = some a → π x = fnd t a := fun x hx a ha => by
    rcases h x hx a ha with h | ⟨h4, h5⟩
    · exact h
    · rcases step_place h0 h1 h2 (h3 x hx a ha) with h6 | h6
      · rw [h4, h6]
      · exact absurd h6 h5
  constructor
  · intro x hx
    unfold WL PI
    cases ha : T x with
    | none => rfl
    | some a => simp [key x hx a ha]
  · intro s x hx
    unfold SL PI
    cases ha : T x with
    | none => simp
    | some a => simp [key x hx a ha]

theorem Wh.setNow {w : World} {wb : Nat} {mb : Nat → Nat} {hb : Nat} {now most : Int} {n : Nat} {W : ByteArray → Option (Int × Int)} {S : Nat → ByteArray → Option Int} (h : Wh w wb mb hb now most n W S) (t : Int) : Wh (w.setCell ⟨wb, 0, none⟩ (.int .i64 t)) wb mb hb t most n W S := by
  have hs := (Step.refl [wb] w).setCell (b := wb) (.inl (by simp)) 0 (.int .i64 t)
  exact ⟨h.blk.set 0 (.int .i64 t), fun s hl => (h.mp s hl).step hs (by have := h.dw s hl; simpa using this), h.wh.step hs (by have := h.dx; simpa using this), h.dj, h.dh, h.dw, h.dx⟩
/-- how many timers a slot has -/
def cntS (T : ByteArray → Option Int) (π : ByteArray → Int × Int) (ks : List ByteArray) (s : Nat) : Nat := (ks.filter fun x => (SL T π s x).isSome).length
theorem Wh.slen {w : World} {wb : Nat} {mb : Nat → Nat} {hb : Nat} {now most : Int} {n : Nat} {T : ByteArray → Option Int} {π : ByteArray → Int × Int} {ks : List ByteArray} (h : Wh w wb mb hb now most n (WL T π) (SL T π)) (ht : Tim T ks) {s : Nat} (hs : s < 258) (ty : TypeId) :
    (Builtin.len_ #[62] ty #[.map (some (mb s))]).run Try.prog w = .ok (.int .i64 (cntS T π ks s)) w :=
  (h.mp s hs).len (ks.filter fun x => (SL T π s x).isSome) (ht.nd.filter _) (fun x hx => by
    rw [List.mem_filter]
    constructor
    · intro h2
      refine ⟨(ht.mem x hx).1 (fun h3 => ?_), by simpa [Option.isSome_iff_ne_none] using h2⟩
      unfold SL at h2
      rw [h3] at h2
      simp at h2
    · rintro ⟨_, h2⟩
      simpa [Option.isSome_iff_ne_none] using h2) (fun x hx => ht.good x (List.mem_filter.1 hx).1) Try.underlying62 ty
theorem cnt_zero {T : ByteArray → Option Int} {π : ByteArray → Int × Int} {ks : List ByteArray} {s : Nat} (ht : Tim T ks) (h : cntS T π ks s = 0) : ∀ x : ByteArray, x.size ≤ maxLen → T x ≠ none → slt (π x) ≠ s := by
  intro x hx hT he
  unfold cntS at h
  have h1 := List.eq_nil_of_length_eq_zero h
  have h2 : x ∈ ks.filter fun x => (SL T π s x).isSome := List.mem_filter.2 ⟨(ht.mem x hx).1 hT, by
    unfold SL
    rw [if_pos he]
    simpa [Option.isSome_iff_ne_none] using hT⟩
  rw [h1] at h2
  cases h2
/-- what step leaves -/
def Stepped (wb : Nat) (mb : Nat → Nat) (hb : Nat) (now last most : Int) (T : ByteArray → Option Int) (ks : List ByteArray) (w : World) (e : Ending) (w' : World) : Prop :=
  e = .returned (.tuple #[]) ∧ ∃ t, now < t ∧ t ≤ last ∧ Wh w' wb mb hb t most ks.length (WL T (PI t T)) (SL T (PI t T)) ∧ Step (wb :: mapsF mb hb) w w'
/-- a tick to go on from -/
structure Tk (now last t : Int) (T : ByteArray → Option Int) : Prop where
  lo : now < t
  hi : t ≤ last
  bl : (t - 1) / 64 = now / 64
  no : ∀ x : ByteArray, x.size ≤ maxLen → ∀ a, T x = some a → a ≤ now ∨ t ≤ a
theorem Tk.next {now last t : Int} {T : ByteArray → Option Int} {ks : List ByteArray} (h : Tk now last t T) (ht : Tim T ks) (h0 : 0 ≤ now) (h1 : t < last) (h2 : ¬ t % 64 = 0) (h3 : cntS T (PI now T) ks (t % 64).toNat = 0) : Tk now last (t + 1) T where
  lo := by have := h.lo; omega
  hi := by omega
  bl := by have := h.bl; omega
  no := fun x hx a ha => by
    rcases h.no x hx a ha with h4 | h4
    · exact .inl h4
    · right
      by_cases he : a = t
      · exfalso
        have hne : T x ≠ none := by rw [ha]; simp
        refine cnt_zero ht h3 x hx hne ?_
        unfold PI
        rw [ha]
        show slt (fnd now a) = _
        rw [near_place (t := t + 1) (by have := h.lo; omega) (by omega) (by have := h.bl; omega), he]
        unfold slt
        simp only
        rw [if_neg (by omega), if_neg (by omega)]
        omega
      · omega

/-- a step goes to a first tick -/
structure St (now last t : Int) (T : ByteArray → Option Int) (ks : List ByteArray) : Prop where
  tk : Tk now last t T
  go : ∀ u, now < u → u < t → u < last ∧ ¬ u % 64 = 0 ∧ cntS T (PI now T) ks (u % 64).toNat = 0
theorem st_first (now last : Int) (T : ByteArray → Option Int) (ks : List ByteArray) (ht : Tim T ks) (h0 : 0 ≤ now) : ∀ (n : Nat) (t : Int), (last - t).toNat ≤ n → St now last t T ks → ∃ t, St now last t T ks ∧ (¬ t < last ∨ (t < last ∧ t % 64 = 0) ∨ (t < last ∧ ¬ t % 64 = 0 ∧ ¬ cntS T (PI now T) ks (t % 64).toNat = 0))
  | 0, t, hn, h => ⟨t, h, .inl (by have := h.tk.hi; omega)⟩
  | n + 1, t, hn, h => by
    by_cases h1 : t < last
    · by_cases h2 : t % 64 = 0
      · exact ⟨t, h, .inr (.inl ⟨h1, h2⟩)⟩
      · by_cases h3 : cntS T (PI now T) ks (t % 64).toNat = 0
        · refine st_first now last T ks ht h0 n (t + 1) (by omega) ⟨h.tk.next ht h0 h1 h2 h3, fun u hu1 hu2 => ?_⟩
          by_cases h4 : u = t
          · subst h4
            exact ⟨h1, h2, h3⟩
          · exact h.go u hu1 (by omega)
        · exact ⟨t, h, .inr (.inr ⟨h1, h2, h3⟩)⟩
    · exact ⟨t, h, .inl h1⟩
end Go.Proofs.Ytmfplcmncipojaa
