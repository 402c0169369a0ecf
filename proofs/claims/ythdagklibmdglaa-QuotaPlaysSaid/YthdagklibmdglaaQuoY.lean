/- QuotaPlays: how many have some; what the range over a ledger keeps. -/
import Derived.Test.YthdagklibmdglaaQuoS
import Derived.Test.YthdagklibmdglaaQuoK
import Derived.Test.YthdagklibmdglaaRangeSepV
namespace Go.Proofs.Ythdagklibmdglaa
set_option linter.unusedVariables false
set_option linter.unusedSimpArgs false
open Go.RowKit Go.Maps
/-- how many of these are no longer to come -/
def cq (left : ByteArray → Bool) (ks : List (List UInt8)) : Nat := (ks.filter (fun x => !left ⟨x.toArray⟩)).length
theorem bs_of (x : ByteArray) : (⟨x.data.toList.toArray⟩ : ByteArray) = x := by simp
theorem cq_le (left : ByteArray → Bool) (ks : List (List UInt8)) : cq left ks ≤ ks.length := List.length_filter_le _ _
theorem cq_start {left : ByteArray → Bool} {ks : List (List UInt8)} (h : ∀ x ∈ ks, left ⟨x.toArray⟩ = true) : cq left ks = 0 := by
  unfold cq
  rw [List.filter_eq_nil_iff.2 (fun x hx => by simp [h x hx])]
  rfl
theorem cq_end {left : ByteArray → Bool} {ks : List (List UInt8)} (h : ∀ x ∈ ks, left ⟨x.toArray⟩ = false) : cq left ks = ks.length := by
  unfold cq
  rw [List.filter_eq_self.2 (fun x hx => by simp [h x hx])]
theorem cq_skip (left : ByteArray → Bool) (x : ByteArray) {ks : List (List UInt8)} (hx : x.data.toList ∉ ks) : cq (fun y => left y && !decide (y = x)) ks = cq left ks := by
  unfold cq
  congr 1
  refine List.filter_congr (fun y hy => ?_)
  have : (⟨y.toArray⟩ : ByteArray) ≠ x := fun e => hx (by rw [← e]; simpa using hy)
  simp [this]
theorem cq_pop (left : ByteArray → Bool) (x : ByteArray) (hl : left x = true) : ∀ {ks : List (List UInt8)}, ks.Nodup → x.data.toList ∈ ks → cq (fun y => left y && !decide (y = x)) ks = cq left ks + 1
  | [], _, h => by cases h
  | y :: ks, hn, h => by
    obtain ⟨h1, h2⟩ := List.nodup_cons.1 hn
    by_cases hy : y = x.data.toList
    · subst hy
      have h3 := cq_skip left x h1
      unfold cq at h3 ⊢
      rw [List.filter_cons, List.filter_cons]
      simp only [bs_of, hl, decide_true, Bool.not_true, Bool.and_false, Bool.not_false, if_true, List.length_cons]
      simp at h3 ⊢
      exact h3
    · have hm : x.data.toList ∈ ks := by
        rcases List.mem_cons.1 h with h | h
        · exact absurd h.symm hy
        · exact h
      have h3 := cq_pop left x hl h2 hm
      have hne : (⟨y.toArray⟩ : ByteArray) ≠ x := fun e => hy (by rw [← e])
      unfold cq at h3 ⊢
      rw [List.filter_cons, List.filter_cons]
      simp only [hne, decide_false, Bool.not_false, Bool.and_true]
      by_cases hlf : left ⟨y.toArray⟩ = true
      · simp only [hlf, Bool.not_true, Bool.false_eq_true, if_false]
        exact h3
      · have : left ⟨y.toArray⟩ = false := by simpa using hlf
        simp only [this, Bool.not_false, if_true, List.length_cons]
        exact congrArg (· + 1) h3
/-- who has some -/
theorem ks_pos {i : Nat} {f fm g : ByteArray → Option Int} {L : List ByteArray} {ks : List (List UInt8)} (hI : Inv i f fm g L) (hk : Ks f ks) (x : ByteArray) (hx : x.size ≤ maxLen) : x.data.toList ∈ ks ↔ 0 < hasV fm x := by
  rw [hk.mem _ (by rw [Array.length_toList]; exact hx), bs_of, ← hI.same x]
  unfold hasV
  cases e : f x with
  | none => simp
  | some z => have := hI.pos x z e; simp; omega
theorem ks_has {i : Nat} {f fm g : ByteArray → Option Int} {L : List ByteArray} {ks : List (List UInt8)} (hI : Inv i f fm g L) (hk : Ks f ks) (x : List UInt8) (hx : x ∈ ks) : 0 < hasV fm ⟨x.toArray⟩ ∧ (⟨x.toArray⟩ : ByteArray).size ≤ maxLen := by
  have hs : (⟨x.toArray⟩ : ByteArray).size ≤ maxLen := by have := hk.small x hx; show x.toArray.size ≤ maxLen; rw [List.size_toArray]; exact this
  exact ⟨(ks_pos hI hk ⟨x.toArray⟩ hs).1 (by simpa using hx), hs⟩
theorem len_le {n : Nat} {w : World} {tb hb mb : Nat} {each : Int} {f g : ByteArray → Option Int} {ks : List (List UInt8)} (h : Lg w tb hb mb n each f g) (hk : Ks f ks) : ks.length ≤ n := by
  obtain ⟨D, ks', h1, h2, h3⟩ := h.has.keys
  obtain rfl := h2.one hk
  have h4 := h3 (strKeys D) (List.Perm.refl _)
  have h5 : ks'.length = (strKeys D).length := by rw [← h4, List.length_mergeSort]
  obtain ⟨es, hes⟩ := h1.isMap
  have h6 := h1.size_le
  rw [hes] at h5 h6
  simp [strKeys] at h5
  simp [Maps.size] at h6
  omega
/-- they come in order -/
theorem lt_last {ks pre : List (List UInt8)} {x y : List UInt8} {f : ByteArray → Option Int} (hk : Ks f ks) (h : pre ++ [x] <+: ks) (p : List (List UInt8)) (hp : pre = p ++ [y]) : (Op.bytesLess x y || x == y) = false := by
  obtain ⟨t, rfl⟩ := h
  subst hp
  have hpw := hk.pw
  simp only [List.append_assoc, List.cons_append, List.nil_append] at hpw
  have hyx : y < x := by
    have h1 := (List.pairwise_append.1 hpw).2.1
    exact (List.pairwise_cons.1 h1).1 x (by simp)
  have h2 : ¬ x < y := fun h => absurd (List.lt_trans hyx h) (List.lt_irrefl _)
  have h3 : x ≠ y := fun e => by subst e; exact List.lt_irrefl _ hyx
  rw [less_lt]
  simp [h2, h3]
/-- what the range over a ledger keeps -/
def QI (R : List Nat) (lb cb : Nat) (Wb : World) (s : List (List UInt8)) (A : World) (C : List Nat) : Prop :=
  C = offR R Wb.heap.size ∧ Step (lb :: cb :: R) Wb A ∧ (lb < Wb.heap.size ∧ cb < Wb.heap.size ∧ lb ∉ R ∧ cb ∉ R ∧ lb ≠ cb) ∧ Blk A cb #[.int .i64 (s.length : Int)] 3 ∧ ∃ last : List UInt8, Blk A lb #[.string ⟨last.toArray⟩] 9 ∧ ∀ p y, s = p ++ [y] → last = y
theorem QK.apart {w0 w : World} {B : Bx} {each : Int} {n : Nat} {f g fm gm : ByteArray → Option Int} {L : List ByteArray} {v : Value} {XO : List (Nat × Obj)} (h : QK w0 B each n f g fm gm L v XO w) :
    B.xb ∉ [B.tb, B.hb, B.mb] ∧ B.rb ∉ [B.tb, B.hb, B.mb] ∧ B.hx ∉ [B.tb, B.hb, B.mb] := by
  obtain ⟨F, ⟨A', B', rfl, ⟨rfl, h1⟩, h2, hd⟩, hF, _, hdj, _, _⟩ := h
  refine ⟨fun hm => hdj B.xb (by simp [boxO]) (List.mem_append_left _ hm), fun hm => hdj B.rb (by simp [boxO]) (List.mem_append_left _ hm), fun hm => hd B.hx hm (by rw [h2.foot]; simp)⟩
section
variable {R : List Nat} {lb cb : Nat} {Wb A B : World} {s : List (List UInt8)} {C H : List Nat}
theorem QI.step (h : QI R lb cb Wb s A C) (hs : Step H A B) (hd : Dj C H) : QI R lb cb Wb s B C := by
  obtain ⟨rfl, h1, h2, h3, last, h4, h5⟩ := h
  refine ⟨rfl, h1.then hs (fun k hk => ?_), h2, h3.step hs (hd cb (mem_offR.2 ⟨h2.2.1, h2.2.2.2.1⟩)), last, h4.step hs (hd lb (mem_offR.2 ⟨h2.1, h2.2.2.1⟩)), h5⟩
  by_cases hR : k ∈ R
  · exact .inl (by simp [hR])
  · rcases Nat.lt_or_ge k Wb.heap.size with hlt | hge
    · exact absurd hk (hd k (mem_offR.2 ⟨hlt, hR⟩))
    · exact .inr hge
theorem QI.live (h : QI R lb cb Wb s A C) : Live A C := by
  obtain ⟨rfl, h1, _⟩ := h
  exact fun k hk => Nat.lt_of_lt_of_le (mem_offR.1 hk).1 h1.size
theorem QI.dj (h : QI R lb cb Wb s A C) : Dj R C := by rw [h.1]; exact offR_dj
/-- one more -/
theorem QI.next (h : QI R lb cb Wb s A C) (x : List UInt8) : QI R lb cb Wb (s ++ [x]) ((A.setCell ⟨lb, 0, none⟩ (.string ⟨x.toArray⟩)).setCell ⟨cb, 0, none⟩ (.int .i64 ((s.length : Int) + 1))) C ∧ Step C A ((A.setCell ⟨lb, 0, none⟩ (.string ⟨x.toArray⟩)).setCell ⟨cb, 0, none⟩ (.int .i64 ((s.length : Int) + 1))) := by
  obtain ⟨rfl, h1, h2, h3, last, h4, h5⟩ := h
  have sA : Step [lb] A (A.setCell ⟨lb, 0, none⟩ (.string ⟨x.toArray⟩)) := (Step.refl _ A).setCell (.inl (by simp)) 0 _
  have bA : Blk (A.setCell ⟨lb, 0, none⟩ (.string ⟨x.toArray⟩)) lb #[.string ⟨x.toArray⟩] 9 := h4.set 0 _
  have cA := h3.step sA (by simpa using fun e => h2.2.2.2.2 e.symm)
  obtain ⟨A1, hA1⟩ : ∃ W, A.setCell ⟨lb, 0, none⟩ (.string ⟨x.toArray⟩) = W := ⟨_, rfl⟩
  rw [hA1] at sA bA cA ⊢
  have sB : Step [cb] A1 (A1.setCell ⟨cb, 0, none⟩ (.int .i64 ((s.length : Int) + 1))) := (Step.refl _ A1).setCell (.inl (by simp)) 0 _
  have cB : Blk (A1.setCell ⟨cb, 0, none⟩ (.int .i64 ((s.length : Int) + 1))) cb #[.int .i64 ((s.length : Int) + 1)] 3 := cA.set 0 _
  have bB := bA.step sB (by simpa using h2.2.2.2.2)
  have s2 : Step [lb, cb] A (A1.setCell ⟨cb, 0, none⟩ (.int .i64 ((s.length : Int) + 1))) := (sA.mono (by simp)).then sB (fun k hk => .inl (by simp at hk; simp [hk]))
  refine ⟨⟨rfl, h1.then s2 (fun k hk => .inl ?_), h2, by simpa using cB, x, bB, fun p y he => ?_⟩, s2.mono (fun k hk => ?_)⟩
  · simp at hk ⊢
    rcases hk with h | h <;> simp [h]
  · have := List.append_inj' he rfl
    simpa using this.2
  · simp at hk
    rcases hk with rfl | rfl
    · exact mem_offR.2 ⟨h2.1, h2.2.2.1⟩
    · exact mem_offR.2 ⟨h2.2.1, h2.2.2.2.1⟩
end
/-- a range over a function, where a round's slots hang on what is handed over alone -/
theorem wpIn_range_sepG {F : Fence} {n : Nat} {P : Program} {α : Type} {g : Operand} {ps : Array Tmp} {assign body : Code} {Q : Exit → Act → World → Prop} {a : Act} {w : World}
    (hro : F.round = none) (h1 : 1 ≤ n) {gf : Nat} {lb : Array Value} (hg : a.eval g = .func (.func gf) #[] lb) (hFg : F.fn gf) (eg : ∀ args w, (callFunc gf args).run P w = .ok (.enter gf args) w)
    {encs : α → Array Value} {R : List Nat} {V S Sp : List α → Prop} {Pre : World → Prop} (hseq : SeqSep F (n - 1) P gf lb encs R V S Sp Pre) (hPre : ∀ W, Step [] w W → Pre W) (hps : ∀ x, (encs x).size = ps.size) (hR : Live w R)
    (I : List α → World → List Nat → Prop) (Ix : Code → List α → World → List Nat → Prop)
    (hIs : ∀ s A B C H, I s A C → Step H A B → Dj C H → I s B C) (hIl : ∀ s A C, I s A C → Live A C) (hIR : ∀ s A C, I s A C → Dj R C)
    (hXs : ∀ c s A B C H, Ix c s A C → Step H A B → Dj C H → Ix c s B C) (hXl : ∀ c s A C, Ix c s A C → Live A C)
    (C0 : List Nat) (h0 : I [] w C0) (gA : α → Act)
    (hassign : ∀ (l : Nat) (pre : List α) (x : α) (A : World) (C : List Nat) (K : Act → World → Prop), I pre A C → (∀ A', Step [] A A' → K (gA x) A') →
      assign.wpIn (F.inRound l) (n - 1 - 1) P (Exit.then K (fun _ _ _ => False)) { tmps := (ps.zip (encs x)).foldl (fun t (p, v) => t.setIfInBounds p v) a.tmps, defers := [] } A)
    (hbody : ∀ (l : Nat) (pre : List α) (x : α) (A : World) (C : List Nat), (∃ r, A.heap[l]? = some (.loop r)) → l ∉ C → V (pre ++ [x]) → I pre A C → body.wpIn (F.inRound l) (n - 1 - 1) P (postSep I Ix (pre ++ [x]) A C) (gA x) A)
    (hdone : ∀ (D : Nat) (xs : List α) (B : World) (C : List Nat), w.heap.size ≤ D → D ∉ C → S xs → I xs B C → B.heap[D]? = some (.deferred (some [])) → Q .normal { a with defers := { target := .collected D, args := #[] } :: a.defers } B)
    (hstop : ∀ (D : Nat) (c : Code) (pre : List α) (B : World) (C : List Nat), w.heap.size ≤ D → D ∉ C → Sp pre → Ix c pre B C → B.heap[D]? = some (.deferred (some [])) → c.wpIn F n P Q { a with defers := { target := .collected D, args := #[] } :: a.defers } B) :
    (Code.rangeFunc g ps assign body).wpIn F n P Q a w :=
  wpIn_range_sep hro h1 hg hFg eg hseq hPre hps hR I Ix hIs hIl hIR hXs hXl C0 h0 (fun x a' _ => a' = gA x) (fun _ _ _ _ _ _ h _ _ => h)
    (fun l pre x A C K hI hK => hassign l pre x A C K hI (fun A' hs => hK _ A' hs rfl))
    (fun l pre x a' A C hr hl hv hi ha => by subst ha; exact hbody l pre x A C hr hl hv hi) hdone hstop
/-- how the range starts, and what it may lean on -/
theorem qi_start {w wr : World} {B : Bx} {each : Int} {n : Nat} {f g fm gm : ByteArray → Option Int} {L : List ByteArray} {v : Value} (h : QK w B each n f g fm gm L v [] wr) :
    ∃ lb w4, wr.heap.size = lb ∧ ((wr.alloc (.cells #[.string { data := #[] }] 9)).alloc (.cells #[.int .i64 0] 3)).alloc (.cells #[.pointer (some ⟨B.tb, 0, none⟩)] 24) = w4 ∧
      (∀ W, Step [] w4 W → Blk W (lb + 2) #[.pointer (some ⟨B.tb, 0, none⟩)] 24 ∧ Lg W B.tb B.hb B.mb n each f g) ∧ Live w4 [lb + 2, B.tb, B.hb, B.mb] ∧
      QI [lb + 2, B.tb, B.hb, B.mb] lb (lb + 1) w4 [] w4 (offR [lb + 2, B.tb, B.hb, B.mb] w4.heap.size) ∧ Step [] w w4 ∧ B.rb < w4.heap.size ∧
      ∀ s A C, QI [lb + 2, B.tb, B.hb, B.mb] lb (lb + 1) w4 s A C → A.cell? ⟨B.xb, 0, none⟩ = some (.map (some B.hx)) ∧
        (∀ x : ByteArray, x.size ≤ maxLen → (Instr.lookup 34 (.map (some B.hx)) (.string x) false).run Try.prog A = .ok (.int .i64 (hasV fm x)) A) ∧ Blk A B.rb #[.bool false] 4 ∧ Step [] w A := by
  obtain ⟨lb, hlb⟩ : ∃ lb, wr.heap.size = lb := ⟨_, rfl⟩
  have b1 := Blk.new wr #[.string { data := #[] }] 9
  have s1 := (Step.refl [] wr).alloc (.cells #[.string { data := #[] }] 9)
  obtain ⟨C1, h1⟩ : ∃ C, wr.alloc (.cells #[.string { data := #[] }] 9) = C := ⟨_, rfl⟩
  have z1 : C1.heap.size = lb + 1 := by rw [← h1, World.size_alloc, hlb]
  have b2 := Blk.new C1 #[.int .i64 0] 3
  have s2 := (Step.refl [] C1).alloc (.cells #[.int .i64 0] 3)
  obtain ⟨C2, h2⟩ : ∃ C, C1.alloc (.cells #[.int .i64 0] 3) = C := ⟨_, rfl⟩
  have z2 : C2.heap.size = lb + 2 := by rw [← h2, World.size_alloc, z1]
  have b3 := Blk.new C2 #[.pointer (some ⟨B.tb, 0, none⟩)] 24
  have s3 := (Step.refl [] C2).alloc (.cells #[.pointer (some ⟨B.tb, 0, none⟩)] 24)
  obtain ⟨C3, h3⟩ : ∃ C, C2.alloc (.cells #[.pointer (some ⟨B.tb, 0, none⟩)] 24) = C := ⟨_, rfl⟩
  have z3 : C3.heap.size = lb + 3 := by rw [← h3, World.size_alloc, z2]
  rw [h1] at b1 s1
  rw [h2, z1] at b2
  rw [h2] at s2
  rw [h3, z2] at b3
  rw [h3] at s3
  rw [hlb] at b1
  have sw := (s1.then s2 (by simp)).then s3 (by simp)
  have hQ4 := h.step sw
  have hl := h.lg.live
  have hap := h.apart
  have lx := h.xbox.lt
  have lr := h.rbox.lt
  obtain ⟨F, hM⟩ := h.mo
  have lh := hM.has.lt
  refine ⟨lb, C3, hlb, by rw [h1, h2, h3], fun W hs => ⟨b3.step hs (by simp), (hQ4.lg).step0 hs⟩, ?_, ⟨rfl, Step.refl _ _, ⟨by omega, by omega, ?_, ?_, by omega⟩, b2.step s3 (by simp), [], (b1.step s2 (by simp)).step s3 (by simp), fun p y e => by simp at e⟩, hQ4.st, by omega, ?_⟩
  · intro k hk
    rcases List.mem_cons.1 hk with rfl | hk
    · omega
    · have := hl k hk
      omega
  · intro hm
    rcases List.mem_cons.1 hm with hm | hm
    · omega
    · have := hl _ hm
      omega
  · intro hm
    rcases List.mem_cons.1 hm with hm | hm
    · omega
    · have := hl _ hm
      omega
  · rintro s A C ⟨_, hst, _, _, _⟩
    have no : ∀ k, k < lb → k ∉ [B.tb, B.hb, B.mb] → k ∉ lb :: (lb + 1) :: [lb + 2, B.tb, B.hb, B.mb] := fun k h1 h2 hm => by
      rcases List.mem_cons.1 hm with hm | hm
      · omega
      · rcases List.mem_cons.1 hm with hm | hm
        · omega
        · rcases List.mem_cons.1 hm with hm | hm
          · omega
          · exact h2 hm
    refine ⟨(hQ4.xbox.step hst (no _ (by omega) hap.1)).cell 0, fun x hx => ?_, hQ4.rbox.step hst (no _ (by omega) hap.2.1), ?_⟩
    · obtain ⟨F4, hM4⟩ := hQ4.mo
      exact (hM4.has.step hst (no _ (by omega) hap.2.2)).run Try.underlying34 0 (zeroN _) x hx
    · have hsw := h.st.size
      refine hQ4.st.then hst (fun k hk => .inr ?_)
      obtain ⟨F', ⟨A', B', rfl, ⟨rfl, h1⟩, h2, hd⟩, hF, _, hdj, _, _⟩ := h
      rcases List.mem_cons.1 hk with hk | hk
      · omega
      · rcases List.mem_cons.1 hk with hk | hk
        · omega
        · rcases List.mem_cons.1 hk with hk | hk
          · omega
          · exact (hF k (List.mem_append_left _ hk)).1
end Go.Proofs.Ythdagklibmdglaa
