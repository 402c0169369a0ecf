/- QuotaPlays: what a ledger and its model keep; the acts that come in. -/
import Derived.Test.YthdagklibmdglaaQuoM
import Derived.Test.YthdagklibmdglaaOpen
import Derived.Test.YthdagklibmdglaaLoopM
namespace Go.Proofs.Ythdagklibmdglaa
set_option linter.unusedVariables false
set_option linter.unusedSimpArgs false
open Go.RowKit Go.Maps
/-- what the two say of each other, after i acts -/
structure Inv (i : Nat) (f fm g : ByteArray → Option Int) (L : List ByteArray) : Prop where
  told : Told g L
  l16 : L.length ≤ 16
  same : ∀ s, hasV f s = hasV fm s
  pos : ∀ s z, f s = some z → 0 < z
  bd : ∀ s, hasV fm s ≤ (i : Int)
section
variable {i : Nat} {f fm g : ByteArray → Option Int} {L : List ByteArray}
theorem hasV_upd_ne (f : ByteArray → Option Int) (s t : ByteArray) (v : Option Int) (h : t ≠ s) : hasV (upd f s v) t = hasV f t := by simp [hasV, upd, h]
theorem Inv.start : Inv 0 (fun _ => none) (fun _ => none) (fun _ => none) [] :=
  ⟨⟨List.nodup_nil, fun s => by simp, fun s h => by simp at h⟩, by simp, fun _ => rfl, fun s z h => by simp at h, fun s => by simp [hasV]⟩
theorem Inv.mono (h : Inv i f fm g L) {j : Nat} (hj : i ≤ j) : Inv j f fm g L := ⟨h.told, h.l16, h.same, h.pos, fun s => by have := h.bd s; omega⟩
theorem Inv.nn (h : Inv i f fm g L) (s : ByteArray) : 0 ≤ hasV fm s := by
  rw [← h.same s]
  unfold hasV
  cases e : f s with
  | none => simp
  | some z => have := h.pos s z e; simp; omega
theorem Inv.set (h : Inv i f fm g L) {s : ByteArray} (x : Int) (hs : s ∈ L) : Inv i f fm (upd g s (some x)) L :=
  ⟨⟨h.told.nd, fun t => by
      by_cases hts : t = s
      · subst hts
        simp [upd, hs]
      · simp only [upd, if_neg hts]
        exact h.told.mem t, h.told.good⟩, h.l16, h.same, h.pos, h.bd⟩
theorem Inv.tell (h : Inv i f fm g L) {s : ByteArray} (x : Int) (hs : s ∉ L) (hg : s.size ≤ maxLen) (hl : L.length < 16) : Inv i f fm (upd g s (some x)) (L ++ [s]) :=
  ⟨⟨List.nodup_append.2 ⟨h.told.nd, by simp, fun a ha b hb => by simp at hb; subst hb; exact fun e => hs (e ▸ ha)⟩, fun t => by
      by_cases hts : t = s
      · subst hts
        simp [upd]
      · simp only [upd, if_neg hts, List.mem_append, List.mem_singleton, hts, or_false]
        exact h.told.mem t, fun t ht => by
      rcases List.mem_append.1 ht with ht | ht
      · exact h.told.good t ht
      · simp at ht
        subst ht
        exact hg⟩, by simp; omega, h.same, h.pos, h.bd⟩
theorem Inv.take (h : Inv i f fm g L) (s : ByteArray) : Inv (i + 1) (upd f s (some (hasV f s + 1))) (upd fm s (some (hasV fm s + 1))) g L :=
  ⟨h.told, h.l16, fun t => by
      by_cases hts : t = s
      · subst hts
        rw [hasV_upd, hasV_upd, h.same]
      · rw [hasV_upd_ne _ _ _ _ hts, hasV_upd_ne _ _ _ _ hts, h.same], fun t z hz => by
      by_cases hts : t = s
      · subst hts
        simp [upd] at hz
        have := h.nn t
        have := h.same t
        omega
      · simp only [upd, if_neg hts] at hz
        exact h.pos t z hz, fun t => by
      have := h.bd t
      by_cases hts : t = s
      · subst hts
        rw [hasV_upd]
        omega
      · rw [hasV_upd_ne _ _ _ _ hts]
        omega⟩
theorem Inv.give (h : Inv i f fm g L) (s : ByteArray) (hs : hasV fm s ≠ 0) : Inv i (giveF f s) (upd fm s (some (hasV fm s - 1))) g L :=
  ⟨h.told, h.l16, fun t => by
      have hse := h.same s
      by_cases hts : t = s
      · subst hts
        rw [hasV_upd]
        unfold giveF
        split
        · simp [hasV, upd] at *
          omega
        · rw [hasV_upd]
          omega
      · rw [hasV_upd_ne _ _ _ _ hts]
        unfold giveF
        split
        · rw [hasV_upd_ne _ _ _ _ hts, hasV_upd_ne _ _ _ _ hts, h.same]
        · rw [hasV_upd_ne _ _ _ _ hts, h.same], fun t z hz => by
      have hse := h.same s
      have hnn := h.nn s
      unfold giveF at hz
      by_cases hts : t = s
      · subst hts
        split at hz
        · simp [upd] at hz
        · simp [upd] at hz
          omega
      · split at hz
        · simp only [upd, if_neg hts] at hz
          exact h.pos t z hz
        · simp only [upd, if_neg hts] at hz
          exact h.pos t z hz, fun t => by
      have := h.bd t
      by_cases hts : t = s
      · subst hts
        rw [hasV_upd]
        omega
      · rw [hasV_upd_ne _ _ _ _ hts]
        omega⟩
end
/-- the blocks' names -/
structure Bx where
  tb : Nat
  hb : Nat
  mb : Nat
  hx : Nat
  my : Nat
  kb : Nat
  xb : Nat
  yb : Nat
  eb : Nat
  rb : Nat
def boxO (B : Bx) (v : Value) (each : Int) : List (Nat × Obj) :=
  [(B.kb, .cells #[v] 33 (0, 0)), (B.xb, .cells #[.map (some B.hx)] 34 (0, 0)), (B.yb, .cells #[.map (some B.my)] 34 (0, 0)), (B.eb, .cells #[.int .i64 each] 3 (0, 0)), (B.rb, .cells #[.bool false] 4 (0, 0))]
def LedF (B : Bx) (n : Nat) (each : Int) (f g : ByteArray → Option Int) (w : World) (F : List Nat) : Prop := F = [B.tb, B.hb, B.mb] ∧ Lg w B.tb B.hb B.mb n each f g
def MoF (base : Nat) (B : Bx) (v : Value) (n : Nat) (L : List ByteArray) (fm gm : ByteArray → Option Int) (w : World) (F : List Nat) : Prop := Mo w F base v B.hx B.my n L fm gm
theorem ledF_stb (B : Bx) (n : Nat) (each : Int) (f g : ByteArray → Option Int) : Stb (LedF B n each f g) := by
  rintro w w' F H ⟨rfl, h⟩ hs hd
  exact ⟨rfl, h.step hs hd⟩
theorem moF_stb (base : Nat) (B : Bx) (v : Value) (n : Nat) (L : List ByteArray) (fm gm : ByteArray → Option Int) : Stb (MoF base B v n L fm gm) := fun w w' F H h hs hd => Mo.step h hs hd
/-- the state -/
def QK (w0 : World) (B : Bx) (each : Int) (n : Nat) (f g fm gm : ByteArray → Option Int) (L : List ByteArray) (v : Value) (XO : List (Nat × Obj)) (w : World) : Prop :=
  Kept w0 (Both (LedF B n each f g) (MoF w0.heap.size B v n L fm gm)) (boxO B v each ++ XO) w
section
variable {w0 w w' : World} {B : Bx} {each : Int} {n : Nat} {f g fm gm f' g' fm' gm' : ByteArray → Option Int} {L : List ByteArray} {v : Value} {XO : List (Nat × Obj)}
theorem QK.lg (h : QK w0 B each n f g fm gm L v XO w) : Lg w B.tb B.hb B.mb n each f g := by
  obtain ⟨A, ⟨_, h1⟩, _⟩ := Kept.left h (moF_stb _ _ _ _ _ _ _)
  exact h1
theorem QK.mo (h : QK w0 B each n f g fm gm L v XO w) : ∃ F, Mo w F w0.heap.size v B.hx B.my n L fm gm := by
  obtain ⟨A, h1, _⟩ := Kept.right h (ledF_stb _ _ _ _ _)
  exact ⟨A, h1⟩
theorem QK.st (h : QK w0 B each n f g fm gm L v XO w) : Step [] w0 w := Kept.st h
theorem QK.kbox (h : QK w0 B each n f g fm gm L v XO w) : Blk w B.kb #[v] 33 := Kept.blk h (by simp [boxO])
theorem QK.xbox (h : QK w0 B each n f g fm gm L v XO w) : Blk w B.xb #[.map (some B.hx)] 34 := Kept.blk h (by simp [boxO])
theorem QK.ybox (h : QK w0 B each n f g fm gm L v XO w) : Blk w B.yb #[.map (some B.my)] 34 := Kept.blk h (by simp [boxO])
theorem QK.ebox (h : QK w0 B each n f g fm gm L v XO w) : Blk w B.eb #[.int .i64 each] 3 := Kept.blk h (by simp [boxO])
theorem QK.rbox (h : QK w0 B each n f g fm gm L v XO w) : Blk w B.rb #[.bool false] 4 := Kept.blk h (by simp [boxO])
theorem both_stb' : Stb (Both (LedF B n each f g) (MoF w0.heap.size B v n L fm gm)) := both_stb (ledF_stb _ _ _ _ _) (moF_stb _ _ _ _ _ _ _)
theorem QK.step (h : QK w0 B each n f g fm gm L v XO w) (hs : Step [] w w') : QK w0 B each n f g fm gm L v XO w' := Kept.step h both_stb' hs
theorem QK.add (h : QK w0 B each n f g fm gm L v [] w) (hs : Step [] w w') {b : Nat} {o : Obj} (hb : w.heap.size ≤ b) (ho : w'.heap[b]? = some o) : QK w0 B each n f g fm gm L v [(b, o)] w' := by
  have := Kept.add h both_stb' hs [(b, o)] (fun x hx => by simp at hx; subst hx; exact ⟨hb, ho⟩)
  refine Kept.mono this (fun x hx => ?_)
  rcases List.mem_append.1 hx with h | h
  · exact List.mem_append_right _ (List.mem_append_left _ h)
  · exact List.mem_append_left _ h
theorem QK.drop (h : QK w0 B each n f g fm gm L v XO w) : QK w0 B each n f g fm gm L v [] w := Kept.mono h (fun x hx => by simp at hx; simp [hx])
theorem QK.abox (h : QK w0 B each n f g fm gm L v XO w) {b : Nat} {C : Array Value} {T : TypeId} (hb : (b, Obj.cells C T (0, 0)) ∈ XO) : Blk w b C T := Kept.blk h (by simp [hb])
theorem QK.mono (h : QK w0 B each n f g fm gm L v XO w) {m : Nat} (hm : n ≤ m) : QK w0 B each m f g fm gm L v XO w := by
  refine Kept.imp h (fun F ⟨A, C, e, ⟨h1, h2⟩, h3, h4⟩ => ⟨A, C, e, ⟨h1, h2.mono hm⟩, Mo.mono h3 hm, h4⟩)
/-- an act of the ledger -/
theorem QK.led (h : QK w0 B each n f g fm gm L v XO w) {F : List Nat} (hF : ∀ k, k ∈ F → k ∈ [B.tb, B.hb, B.mb]) (hs : Step F w w') {m : Nat} (hm : n ≤ m) (hL : Lg w' B.tb B.hb B.mb m each f' g') : QK w0 B each m f' g' fm gm L v XO w' := by
  obtain ⟨A, ⟨rfl, h1⟩, h2, h3⟩ := Kept.left (QK.mono h hm) (moF_stb _ _ _ _ _ _ _)
  exact h3 w' _ (LedF B m each f' g') (hs.mono hF) (fun k hk => .inl hk) hL.live ⟨rfl, hL⟩
theorem QK.hasStored (h : QK w0 B each n f g fm gm L v XO w) {m : Nat} (hm : n ≤ m) (hM : MapF sK elN w' B.hx m fm') (hs : Step [B.hx] w w') : QK w0 B each m f g fm' gm L v XO w' := by
  obtain ⟨A, h1, h2, h3⟩ := Kept.right (QK.mono h hm) (ledF_stb _ _ _ _ _)
  obtain ⟨rfl, i1, i2, i3, i4, i5, i6⟩ := h1
  have hMo : Mo w' (B.hx :: B.my :: foot v) w0.heap.size v B.hx B.my m L fm' gm := ⟨rfl, hM, i2.step hs (by simpa using fun e => i4 e.symm), owns_step i3 hs (fun k hk => by simp; intro e; subst e; exact i5 hk), i4, i5, i6⟩
  exact h3 w' _ _ (hs.mono (by simp)) (fun k hk => .inl hk) hMo.live hMo
theorem QK.mostStored (h : QK w0 B each n f g fm gm L v XO w) {m : Nat} (hm : n ≤ m) (hM : MapF sK elN w' B.my m gm') (hs : Step [B.my] w w') : QK w0 B each m f g fm gm' L v XO w' := by
  obtain ⟨A, h1, h2, h3⟩ := Kept.right (QK.mono h hm) (ledF_stb _ _ _ _ _)
  obtain ⟨rfl, i1, i2, i3, i4, i5, i6⟩ := h1
  have hMo : Mo w' (B.hx :: B.my :: foot v) w0.heap.size v B.hx B.my m L fm gm' := ⟨rfl, i1.step hs (by simpa using i4), hM, owns_step i3 hs (fun k hk => by simp; intro e; subst e; exact i6 hk), i4, i5, i6⟩
  exact h3 w' _ _ (hs.mono (by simp)) (fun k hk => .inl hk) hMo.live hMo
/-- one more is told -/
theorem QK.grow (h : QK w0 B each n f g fm gm L v XO w) (hnd : B.kb ∉ B.xb :: B.yb :: B.eb :: B.rb :: XO.map Prod.fst) {w6 w7 : World} {v' : Value} {s : ByteArray} (h6 : Step [] w w6) (ho : w7.ownsRow w0.heap.size 9 1 v' (L.length + 1) (L.map Value.string ++ [.string s]))
    (hg : w6.grownBy w7 v.ownBlock) (hf : Fresh w6 (foot v) (foot v')) : Blk w7 B.kb #[v] 33 ∧ QK w0 B each n f g fm gm (L ++ [s]) v' XO (w7.setCell ⟨B.kb, 0, none⟩ v') := by
  obtain ⟨A, h1, h2, h3⟩ := Kept.right h (ledF_stb _ _ _ _ _)
  obtain ⟨rfl, i1, i2, i3, i4, i5, i6⟩ := h1
  have hS : Step (foot v) w w7 := (h6.mono (by simp)).grown hg (fun j hj => .inl (mem_foot.2 hj))
  have hz6 := h6.size
  have hn1 : ∀ k, k ∉ foot v → k < w.heap.size → k ∉ foot v' := fun k h1 h2 hk => by
    rcases hf k hk with h3 | h3
    · exact h1 h3
    · omega
  have hMo : Mo w7 (B.hx :: B.my :: foot v') w0.heap.size v' B.hx B.my n (L ++ [s]) fm gm :=
    ⟨rfl, i1.step hS i5, i2.step hS i6, by simpa using ho, i4, hn1 _ i5 i1.lt, hn1 _ i6 i2.lt⟩
  have h7 := h3 w7 (B.hx :: B.my :: foot v') (MoF w0.heap.size B v' n (L ++ [s]) fm gm) (hS.mono (by intro k hk; simp [hk])) (fun k hk => by
    simp only [List.mem_cons] at hk ⊢
    rcases hk with h | h | h
    · exact .inl (.inl h)
    · exact .inl (.inr (.inl h))
    · rcases hf k h with h | h
      · exact .inl (.inr (.inr h))
      · exact .inr (by omega)) hMo.live hMo
  have hkb : Blk w7 B.kb #[v] 33 := Kept.blk h7 (by simp [boxO])
  refine ⟨hkb, Kept.set h7 both_stb' (((Step.refl _ w7).setCell (.inl (by simp [boxO])) 0 _) : Step ((boxO B v each ++ XO).map Prod.fst) w7 (w7.setCell ⟨B.kb, 0, none⟩ v')) (fun x hx => ?_)⟩
  have hkb2 : Blk (w7.setCell ⟨B.kb, 0, none⟩ v') B.kb #[v'] 33 := hkb.set 0 _
  have hsk : Step [B.kb] w7 (w7.setCell ⟨B.kb, 0, none⟩ v') := (Step.refl _ w7).setCell (.inl (by simp)) 0 _
  have hx2 : x = (B.kb, .cells #[v'] 33 (0, 0)) ∨ (x ∈ boxO B v each ++ XO ∧ x.1 ≠ B.kb) := by
    simp only [boxO, List.cons_append, List.nil_append, List.mem_cons] at hx
    rcases hx with rfl | hx
    · exact .inl rfl
    · refine .inr ⟨?_, fun e => hnd ?_⟩
      · simp only [boxO, List.cons_append, List.nil_append, List.mem_cons]
        exact .inr hx
      · rw [← e]
        simp only [List.mem_cons]
        rcases hx with rfl | rfl | rfl | rfl | hx
        · exact .inl rfl
        · exact .inr (.inl rfl)
        · exact .inr (.inr (.inl rfl))
        · exact .inr (.inr (.inr (.inl rfl)))
        · exact .inr (.inr (.inr (.inr (List.mem_map_of_mem hx))))
  rcases hx2 with rfl | ⟨h8, h9⟩
  · exact ⟨.inl (by simp [boxO]), hkb2⟩
  · exact ⟨.inl (List.mem_map_of_mem h8), (hsk.block x.1 (Kept.lt h7 h8).2 (by simpa using h9)).trans (Kept.get h7 h8)⟩
theorem QK.cells {kind num : Int} {name : ByteArray} {ab : Nat} (h : QK w0 B each n f g fm gm L v [(ab, .cells #[.int .i64 kind, .int .i64 num, .string name] 36 (0, 0))] w) :
    w.cell? ⟨B.kb, 0, none⟩ = some v ∧ w.cell? ⟨B.xb, 0, none⟩ = some (.map (some B.hx)) ∧ w.cell? ⟨B.yb, 0, none⟩ = some (.map (some B.my)) ∧ w.cell? ⟨ab, 0, none⟩ = some (.int .i64 kind) ∧ w.cell? ⟨ab, 1, none⟩ = some (.int .i64 num) ∧ w.cell? ⟨ab, 2, none⟩ = some (.string name) := by
  have z0 := (h.abox List.mem_cons_self).cell 0
  have z1 := (h.abox List.mem_cons_self).cell 1
  have z2 := (h.abox List.mem_cons_self).cell 2
  have k0 := h.kbox.cell 0
  have x0 := h.xbox.cell 0
  have y0 := h.ybox.cell 0
  simp only [List.getElem?_toArray, List.getElem?_cons_zero, List.getElem?_cons_succ] at z0 z1 z2 k0 x0 y0
  exact ⟨k0, x0, y0, z0, z1, z2⟩
theorem QK.cls (h : QK w0 B each n f g fm gm L v XO w) (y : ClsW (Step [] w.drew)) : QK w0 B each n f g fm gm L v XO y.val := h.step ((Step.refl [] w).drew.then y.ok (by simp))
theorem QK.clsne (h : QK w0 B each n f g fm gm L v XO w) : Nonempty (ClsW (Step [] w.drew)) := ⟨⟨_, Step.refl _ _⟩⟩
theorem QK.at48 {kind num : Int} {name : ByteArray} {ab i : Nat} (h : QK w0 B each n f g fm g L v [(ab, .cells #[.int .i64 kind, .int .i64 num, .string name] 36 (0, 0))] w) (hI : Inv i f fm g L) (hs : name.size ≤ maxLen) (y : ClsW (Step [] w.drew)) :
    y.val.cell? ⟨B.xb, 0, none⟩ = some (.map (some B.hx)) ∧ y.val.cell? ⟨ab, 2, none⟩ = some (.string name) ∧ (Instr.lookup 34 (.map (some B.hx)) (.string name) false).run Try.prog y.val = .ok (.int .i64 (hasV fm name)) y.val ∧
      Calls Try.prog 9 #[.pointer (some ⟨B.tb, 0, none⟩), .string name] y.val (fun e w' => e = .returned (.int .i64 (hasV fm name)) ∧ ∃ x : ClsW (Step [] w.drew), w' = x.val) ∧
      Calls Try.prog 15 #[.pointer (some ⟨B.tb, 0, none⟩), .string name] y.val (fun e w' => e = .returned (.int .i64 (mayV each g name)) ∧ ∃ x : ClsW (Step [] w.drew), w' = x.val) ∧
      Calls Try.prog 12 #[.string name, .pointer (some ⟨B.kb, 0, none⟩), .pointer (some ⟨B.yb, 0, none⟩), .pointer (some ⟨B.eb, 0, none⟩)] y.val (fun e w' => e = .returned (.int .i64 (mayV each g name)) ∧ ∃ x : ClsW (Step [] w.drew), w' = x.val) := by
  have hq := h.cls y
  obtain ⟨F, hM⟩ := hq.mo
  refine ⟨hq.cells.2.1, hq.cells.2.2.2.2.2, hM.look name hs, ?_, ?_, ?_⟩
  · have := lhas_any name y.val hq.lg hs
    rw [hI.same] at this
    exact cls_call (this.mono fun e w3 h => ⟨h.1, h.2 ▸ y.ok⟩)
  · exact cls_call ((lmay_any name y.val hq.lg hs).mono fun e w3 h => ⟨h.1, h.2 ▸ y.ok⟩)
  · exact cls_call ((may_any name y.val B.kb B.yb B.eb each hq.kbox hq.ybox hq.ebox hM hI.told hI.l16 hs).mono fun e w3 h => ⟨h.1, h.2 ▸ y.ok⟩)
end
/-- an act -/
structure Ac where
  kind : Int
  n : Int
  name : ByteArray
def ac0 : Ac := ⟨0, 0, ByteArray.empty⟩
/-- acts that are only read -/
def Acts (w : World) (a : Option Addr) (l : List Ac) : Prop :=
  ∀ i, i < l.length → ∃ b off, a = some ⟨b, off, none⟩ ∧ b < w.heap.size ∧ w.cell? ⟨b, off + i * 3, none⟩ = some (.int .i64 (l.getD i ac0).kind) ∧ w.cell? ⟨b, off + i * 3 + 1, none⟩ = some (.int .i64 (l.getD i ac0).n)
    ∧ w.cell? ⟨b, off + i * 3 + 2, none⟩ = some (.string (l.getD i ac0).name) ∧ (l.getD i ac0).name.size ≤ maxLen
theorem choose_ltA {p : Nat → Ac → Prop} {n : Nat} (h : ∀ i, i < n → ∃ x, p i x) : ∃ f : Nat → Ac, ∀ i, i < n → p i (f i) := by
  refine ⟨fun i => if h' : i < n then (h i h').choose else ac0, fun i hi => ?_⟩
  simp only [hi, dite_true]
  exact (h i hi).choose_spec
open Go.ChangeShapes Go.WideShapes Go.Deep in
theorem str_field {H : Type} {enc : TypeId × Value → H} {P : Program} {w : World} {base : Nat} {spare : Nat → Bool} {held : Bool} {t : TypeId} {n : Nat} {u : Value} {y : DataW H × List MemPlace} (ht : P.underlying t = some .string) (h : DataW.trod enc P w base spare held n t [u] = some y) : ∃ x : ByteArray, u = .string x ∧ x.size ≤ maxLen := by
  obtain ⟨x, h1, h2⟩ := DataW.trod_string ht h
  exact ⟨x, by simpa using h1, by first | exact h2 | exact h2.2⟩
set_option maxRecDepth 20000 in
open Go.ChangeShapes Go.WideShapes Go.Deep in
theorem open_acts {H : Type} {enc : TypeId × Value → H} {w : World} {base : Nat} {v : Value} {d : DataW H} {p : List MemPlace} (ho : Value.okWide Try.prog w .any base 32 v) (h : DataW.Trod enc Try.prog w 0 (fun _ => true) true 32 v d p) :
    ∃ (a : Option Addr) (cap : Nat) (vs : List Ac), v = .slice a vs.length cap ∧ Acts w a vs := by
  obtain ⟨a, len, cap, rfl⟩ := okWide_slice Try.underlying32 ho
  obtain ⟨fuel, hf⟩ := h
  rcases open_slice Try.underlying32 hf with ⟨hcs, _⟩ | ⟨x, l, c, m, n, D, Pl, hcs, _, hl, hm, hmm, _, hi⟩
  · simp [Value.cells] at hcs
    obtain ⟨rfl, rfl, rfl⟩ := hcs
    exact ⟨none, 0, [], rfl, fun i hi => by simp at hi⟩
  · simp [Value.cells] at hcs
    obtain ⟨rfl, rfl, rfl⟩ := hcs
    have hmc : m = cap := by simpa using hmm
    subst hmc
    have hce : Try.prog.cellsOf 36 = 3 := by kernel_rfl
    have each : ∀ i, i < len → ∃ q : Ac, w.cell? (x.add (i * 3)) = some (.int .i64 q.kind) ∧ w.cell? (x.add (i * 3 + 1)) = some (.int .i64 q.n) ∧ w.cell? (x.add (i * 3 + 2)) = some (.string q.name) ∧ q.name.size ≤ maxLen := fun i hil => by
      obtain ⟨cs', h1, h2⟩ := hi i (by omega)
      rw [hce] at h1
      obtain ⟨_, hlen, hcell⟩ := World.cells?_some h1
      obtain ⟨xs, k, hk, hxy, _, hxl, hf⟩ := DataW.trod_struct Try.underlying36 h2
      match xs, hxl, cs', hlen with
      | [y0, y1, y2], _, [v0, v1, v2], _ =>
        have g0 := hf 0 _ rfl
        have g1 := hf 1 _ rfl
        have g2 := hf 2 _ rfl
        have k3 : Try.prog.cellsOf 3 = 1 := by kernel_rfl
        have k4 : Try.prog.cellsOf 9 = 1 := by kernel_rfl
        simp [k3, k4] at g0 g1 g2
        obtain ⟨z0, rfl, hw0⟩ := int_field Try.underlying3 g0
        obtain ⟨z1, rfl, hw1⟩ := int_field Try.underlying3 g1
        obtain ⟨z2, rfl, hw2⟩ := str_field Try.underlying9 g2
        have e0 := hcell 0 (by omega)
        have e1 := hcell 1 (by omega)
        have e2 := hcell 2 (by omega)
        rw [add_add] at e0 e1 e2
        simp at e0 e1 e2
        exact ⟨⟨z0, z1, z2⟩, e0, e1, e2, hw2⟩
    obtain ⟨q, hq⟩ := choose_ltA each
    refine ⟨some x, m, (List.range len).map q, by simp, fun i hil => ?_⟩
    have hil' : i < len := by simpa using hil
    obtain ⟨h0, h1, h2, h3⟩ := hq i hil'
    obtain ⟨b, off, spot⟩ := x
    have hspot : spot = none := by simpa [Addr.add] using World.cell?_spot (hq 0 (by omega)).1
    subst hspot
    rw [Go.Proofs.Ythdagklibmdglaa.add_plain] at h0 h1 h2
    have hg : ((List.range len).map q).getD i ac0 = q i := by simp [List.getD, hil']
    rw [hg]
    exact ⟨b, off, rfl, World.block_lt_of_cell? w _ h0, h0, by rw [Nat.add_assoc]; exact h1, by rw [Nat.add_assoc]; exact h2, h3⟩
end Go.Proofs.Ythdagklibmdglaa
