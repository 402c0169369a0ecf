/- quota.Ledger, whatever was said: what its functions do. -/
import Derived.Test.YthdagklibmdglaaQuotaA
import Derived.Test.YthdagklibmdglaaMapLen
import Derived.Test.YthdagklibmdglaaKept
import Derived.Shelf.SlMaps.Clone
import Derived.Test.YthdagklibmdglaaRelV
namespace Go.Proofs.Ythdagklibmdglaa
set_option linter.unusedVariables false
set_option linter.unusedSimpArgs false
open Go.RowKit Go.Maps
/-- a ledger: its block, its maps' blocks, who has how many, who may have how many -/
structure Lg (w : World) (tb hb mb n : Nat) (each : Int) (f g : ByteArray → Option Int) : Prop where
  blk : Blk w tb #[.int .i64 each, .map (some hb), .map (some mb)] 46
  has : MapF (strKey Try.underlying9) elN w hb n f
  most : MapF (strKey Try.underlying9) elN w mb n g
  ne1 : hb ≠ tb
  ne2 : mb ≠ tb
  ne3 : hb ≠ mb
section
variable {w w' : World} {tb hb mb n : Nat} {each : Int} {f g : ByteArray → Option Int}
theorem Lg.step {F : List Nat} (h : Lg w tb hb mb n each f g) (hs : Step F w w') (hd : Dj [tb, hb, mb] F) : Lg w' tb hb mb n each f g :=
  ⟨h.blk.step hs (hd tb (by simp)), h.has.step hs (hd hb (by simp)), h.most.step hs (hd mb (by simp)), h.ne1, h.ne2, h.ne3⟩
theorem Lg.step0 (h : Lg w tb hb mb n each f g) (hs : Step [] w w') : Lg w' tb hb mb n each f g := h.step hs (fun k _ => List.not_mem_nil)
theorem Lg.mono (h : Lg w tb hb mb n each f g) {m : Nat} (hm : n ≤ m) : Lg w tb hb mb m each f g := ⟨h.blk, h.has.mono hm, h.most.mono hm, h.ne1, h.ne2, h.ne3⟩
theorem Lg.live (h : Lg w tb hb mb n each f g) : ∀ k, k ∈ [tb, hb, mb] → k < w.heap.size := by
  intro k hk
  simp only [List.mem_cons, List.not_mem_nil, or_false] at hk
  rcases hk with rfl | rfl | rfl
  · exact h.blk.lt
  · exact h.has.lt
  · exact h.most.lt
theorem Lg.storedH {m : Nat} {f' : ByteArray → Option Int} (h : Lg w tb hb mb n each f g) (hm : MapF (strKey Try.underlying9) elN w' hb m f') (hs : Step [hb] w w') (hn : n ≤ m) : Lg w' tb hb mb m each f' g :=
  ⟨h.blk.step hs (by simpa using fun e => h.ne1 e.symm), hm, (h.most.step hs (by simpa using fun e => h.ne3 e.symm)).mono hn, h.ne1, h.ne2, h.ne3⟩
theorem Lg.storedM {m : Nat} {g' : ByteArray → Option Int} (h : Lg w tb hb mb n each f g) (hm : MapF (strKey Try.underlying9) elN w' mb m g') (hs : Step [mb] w w') (hn : n ≤ m) : Lg w' tb hb mb m each f g' :=
  ⟨h.blk.step hs (by simpa using fun e => h.ne2 e.symm), (h.has.step hs (by simpa using h.ne3)).mono hn, hm, h.ne1, h.ne2, h.ne3⟩
/-- how many one may have -/
def mayV (each : Int) (g : ByteArray → Option Int) (s : ByteArray) : Int := (g s).getD each
theorem Lg.look (h : Lg w tb hb mb n each f g) (s : ByteArray) (hs : s.size ≤ maxLen) : (Instr.lookup 34 (.map (some hb)) (.string s) false).run Try.prog w = .ok (.int .i64 (hasV f s)) w :=
  h.has.run Try.underlying34 0 (zeroN _) s hs
theorem Lg.look_most (h : Lg w tb hb mb n each f g) (s : ByteArray) (hs : s.size ≤ maxLen) : (Instr.lookup 34 (.map (some mb)) (.string s) true).run Try.prog w = .ok (.tuple #[.int .i64 ((g s).getD 0), .bool (g s).isSome]) w :=
  h.most.run_ok Try.underlying34 0 (zeroN _) s hs
theorem Lg.cell1 (h : Lg w tb hb mb n each f g) : w.cell? ⟨tb, 1, none⟩ = some (.map (some hb)) := (h.blk.cell 1).trans rfl
theorem Lg.cell2 (h : Lg w tb hb mb n each f g) : w.cell? ⟨tb, 2, none⟩ = some (.map (some mb)) := (h.blk.cell 2).trans rfl
theorem Lg.cell0 (h : Lg w tb hb mb n each f g) : w.cell? ⟨tb, 0, none⟩ = some (.int .i64 each) := (h.blk.cell 0).trans rfl

theorem lhas_any (s : ByteArray) (w : World) (hT : Lg w tb hb mb n each f g) (hs : s.size ≤ maxLen) :
    Calls Try.prog 9 #[.pointer (some ⟨tb, 0, none⟩), .string s] w fun e w' => e = .returned (.int .i64 (hasV f s)) ∧ w = w' := by
  have hc1 := hT.cell1
  have hk := hT.look s hs
  clear hT
  go_enter Try.func9, Try.ntmps9
  go_wp2_with fail
  go_ret
  exact ⟨rfl, rfl⟩
theorem lmay_any (s : ByteArray) (w : World) (hT : Lg w tb hb mb n each f g) (hs : s.size ≤ maxLen) :
    Calls Try.prog 15 #[.pointer (some ⟨tb, 0, none⟩), .string s] w fun e w' => e = .returned (.int .i64 (mayV each g s)) ∧ w = w' := by
  have hc2 := hT.cell2
  have hc0 := hT.cell0
  have hk := hT.look_most s hs
  clear hT
  unfold mayV
  cases h : g s with
  | none =>
    rw [h] at hk
    simp only [Option.getD_none, Option.isSome_none] at hk ⊢
    clear h
    go_enter Try.func15, Try.ntmps15
    go_wp2_with fail
    go_ret
    exact ⟨rfl, rfl⟩
  | some v =>
    rw [h] at hk
    simp only [Option.getD_some, Option.isSome_some] at hk ⊢
    clear h
    go_enter Try.func15, Try.ntmps15
    go_wp2_with fail
    go_ret
    exact ⟨rfl, rfl⟩
theorem right_no (x : Int) (w : World) (h : ¬ (0 ≤ x ∧ x ≤ 128)) : Calls Try.prog 17 #[.int .i64 x] w fun e w' => e = .returned (.bool false) ∧ w = w' := by
  by_cases h0 : 0 ≤ x
  · have d0 : decide (0 ≤ x) = true := by simpa using h0
    have d1 : decide (x ≤ 128) = false := by simp; omega
    clear h
    go_enter Try.func17, Try.ntmps17
    go_wp2
    go_ret
    exact ⟨rfl, rfl⟩
  · have d0 : decide (0 ≤ x) = false := by simpa using h0
    clear h
    go_enter Try.func17, Try.ntmps17
    go_wp2
    go_ret
    exact ⟨rfl, rfl⟩
theorem new_no (x : Int) (w : World) (h : ¬ (0 ≤ x ∧ x ≤ 128)) : Calls Try.prog 7 #[.int .i64 x] w fun e w' => e = .returned (.tuple #[.pointer none, .int .i64 1]) ∧ w = w' := by
  have HR := Lib.hid (right_no x w h)
  clear h
  go_enter Try.func7, Try.ntmps7
  go_wp2_with fail
  refine HR.out.mono ?_
  rintro e w1 ⟨rfl, rfl⟩
  go_wp2_with fail
  go_ret2
  exact ⟨rfl, rfl⟩
/-- what New leaves -/
def NewG (each : Int) (w : World) (e : Ending) (w' : World) : Prop :=
  ∃ tb hb mb, e = .returned (.tuple #[.pointer (some ⟨tb, 0, none⟩), .int .i64 0]) ∧ Lg w' tb hb mb 0 each (fun _ => none) (fun _ => none) ∧ Step [] w w' ∧ w.heap.size ≤ tb ∧ w.heap.size ≤ hb ∧ w.heap.size ≤ mb
theorem new_yes (x : Int) (w : World) (h0 : 0 ≤ x) (h1 : x ≤ 128) : Calls Try.prog 7 #[.int .i64 x] w (NewG x w) :=
  (qnew_any x w h0 h1).mono fun e w' ⟨tb, hb, mb, h1, h2, h3, h4, h5, h6⟩ => ⟨tb, hb, mb, h1, ⟨h2.blk, h2.has, h2.most, h2.ne1, h2.ne2, h2.ne3⟩, h3, h4, h5, h6⟩
theorem lset_bad (s : ByteArray) (x : Int) (w : World) (h : ¬ (0 ≤ x ∧ x ≤ 128)) :
    Calls Try.prog 13 #[.pointer (some ⟨tb, 0, none⟩), .string s, .int .i64 x] w fun e w' => e = .returned (.int .i64 1) ∧ w = w' := by
  have HR := Lib.hid (right_no x w h)
  clear h
  go_enter Try.func13, Try.ntmps13
  go_wp2_with fail
  refine HR.out.mono ?_
  rintro e w1 ⟨rfl, rfl⟩
  go_wp2_with fail
  go_ret
  exact ⟨rfl, rfl⟩
/-- the names of which something was said -/
structure Told (g : ByteArray → Option Int) (L : List ByteArray) : Prop where
  nd : L.Nodup
  mem : ∀ s, g s ≠ none ↔ s ∈ L
  good : ∀ s, s ∈ L → s.size ≤ maxLen
theorem Lg.len (h : Lg w tb hb mb n each f g) {L : List ByteArray} (hL : Told g L) (ty : TypeId) : (Builtin.len_ #[34] ty #[.map (some mb)]).run Try.prog w = .ok (.int .i64 (L.length : Int)) w :=
  h.most.len L hL.nd (fun x _ => hL.mem x) hL.good Try.underlying34 ty
theorem lset_full (s : ByteArray) (x : Int) (L : List ByteArray) (w : World) (hT : Lg w tb hb mb n each f g) (hL : Told g L) (hs : s.size ≤ maxLen) (h0 : 0 ≤ x) (h1 : x ≤ 128) (hg : g s = none) (hf : 16 ≤ L.length) :
    Calls Try.prog 13 #[.pointer (some ⟨tb, 0, none⟩), .string s, .int .i64 x] w fun e w' => e = .returned (.int .i64 6) ∧ w = w' := by
  have HR := Lib.hid (qright_any x w h0 h1)
  have hk := hT.look_most s hs
  rw [hg] at hk
  simp only [Option.getD_none, Option.isSome_none] at hk
  have hln := fun ty => hT.len hL ty
  have hc2 := hT.cell2
  obtain ⟨N, hN⟩ : ∃ N, L.length = N := ⟨_, rfl⟩
  rw [hN] at hln hf
  have p1 : (16 : Int) ≤ (N : Int) := by omega
  clear hT hL hg hN h0 h1
  go_enter Try.func13, Try.ntmps13
  go_wp2_with fail
  refine HR.out.mono ?_
  rintro e w1 ⟨rfl, rfl⟩
  go_wp2_with fail
  go_ret
  exact ⟨rfl, rfl⟩
theorem lset_any (s : ByteArray) (x : Int) (L : List ByteArray) (w : World) (hT : Lg w tb hb mb n each f g) (hL : Told g L) (hs : s.size ≤ maxLen) (h0 : 0 ≤ x) (h1 : x ≤ 128) (hf : g s = none → L.length < 16) (hn : n < 1000000) :
    Calls Try.prog 13 #[.pointer (some ⟨tb, 0, none⟩), .string s, .int .i64 x] w fun e w' => e = .returned (.int .i64 0) ∧ Lg w' tb hb mb (n + 1) each f (upd g s (some x)) ∧ Step [mb] w w' := by
  have HR := Lib.hid (qright_any x w h0 h1)
  have hk := hT.look_most s hs
  have hln := fun ty => hT.len hL ty
  have hc2 := hT.cell2
  have HT := Lib.hid hT
  obtain ⟨N, hN⟩ : ∃ N, L.length = N := ⟨_, rfl⟩
  rw [hN] at hln hf
  clear hT hL hN h0 h1
  cases h : g s with
  | none =>
    have hf2 := hf h
    have p1 : ¬ (16 : Int) ≤ (N : Int) := by omega
    rw [h] at hk
    simp only [Option.getD_none, Option.isSome_none] at hk
    clear h hf
    go_enter Try.func13, Try.ntmps13
    go_wp2_with fail
    refine HR.out.mono ?_
    rintro e w1 ⟨rfl, rfl⟩
    go_wp2_with (at_mapUpdate; refine wpList_store (strKey Try.underlying9) elN rfl _ _ _ 34 3 rfl Try.underlying34 rfl HT.out.most (by unfold maxLen; omega) s rfl hs x rfl ?_; intro w4 hm4 hs4)
    have HT4 := Lib.hid (HT.out.storedM hm4 hs4 (by omega))
    go_ret
    exact ⟨rfl, HT4.out, hs4⟩
  | some v =>
    rw [h] at hk
    simp only [Option.getD_some, Option.isSome_some] at hk
    clear h hf
    go_enter Try.func13, Try.ntmps13
    go_wp2_with fail
    refine HR.out.mono ?_
    rintro e w1 ⟨rfl, rfl⟩
    go_wp2_with (at_mapUpdate; refine wpList_store (strKey Try.underlying9) elN rfl _ _ _ 34 3 rfl Try.underlying34 rfl HT.out.most (by unfold maxLen; omega) s rfl hs x rfl ?_; intro w4 hm4 hs4)
    have HT4 := Lib.hid (HT.out.storedM hm4 hs4 (by omega))
    go_ret
    exact ⟨rfl, HT4.out, hs4⟩
theorem ltake_no (s : ByteArray) (w : World) (hT : Lg w tb hb mb n each f g) (hs : s.size ≤ maxLen) (h : ¬ hasV f s < mayV each g s) :
    Calls Try.prog 10 #[.pointer (some ⟨tb, 0, none⟩), .string s] w fun e w' => e = .returned (.int .i64 14) ∧ w = w' := by
  have HA := Lib.hid (lhas_any s w hT hs)
  have HM := Lib.hid (lmay_any s w hT hs)
  obtain ⟨x, hx⟩ : ∃ x, hasV f s = x := ⟨_, rfl⟩
  obtain ⟨y, hy⟩ : ∃ y, mayV each g s = y := ⟨_, rfl⟩
  rw [hx] at HA h
  rw [hy] at HM h
  clear hT hx hy
  go_enter Try.func10, Try.ntmps10
  go_wp2_with (first
    | (go_at_call 9; refine HA.out.mono ?_; rintro e w7 ⟨rfl, rfl⟩)
    | (go_at_call 15; refine HM.out.mono ?_; rintro e w7 ⟨rfl, rfl⟩))
  go_ret
  exact ⟨rfl, rfl⟩
theorem ltake_any (s : ByteArray) (w : World) (hT : Lg w tb hb mb n each f g) (hs : s.size ≤ maxLen) (hn : n < 1000000) (h0 : 0 ≤ hasV f s) (he : hasV f s < 1000000) (h : hasV f s < mayV each g s) :
    Calls Try.prog 10 #[.pointer (some ⟨tb, 0, none⟩), .string s] w fun e w' => e = .returned (.int .i64 0) ∧ Lg w' tb hb mb (n + 1) each (upd f s (some (hasV f s + 1))) g ∧ Step [hb] w w' := by
  have hc1 := hT.cell1
  have hk := hT.look s hs
  have HA := Lib.hid (lhas_any s w hT hs)
  have HM := Lib.hid (lmay_any s w hT hs)
  have HT := Lib.hid hT
  obtain ⟨x, hx⟩ : ∃ x, hasV f s = x := ⟨_, rfl⟩
  obtain ⟨y, hy⟩ : ∃ y, mayV each g s = y := ⟨_, rfl⟩
  rw [hx] at HA h hk h0 he ⊢
  rw [hy] at HM h
  have h2 : ¬ y ≤ x := by omega
  clear hT hx hy
  go_enter Try.func10, Try.ntmps10
  go_wp2_with (first
    | (go_at_call 9; refine HA.out.mono ?_; rintro e w7 ⟨rfl, rfl⟩)
    | (go_at_call 15; refine HM.out.mono ?_; rintro e w7 ⟨rfl, rfl⟩)
    | (at_mapUpdate; refine wpList_store (strKey Try.underlying9) elN rfl _ _ _ 34 3 rfl Try.underlying34 rfl HT.out.has (by unfold maxLen; omega) s rfl hs (x + 1) rfl ?_; intro w4 hm4 hs4))
  have HT4 := Lib.hid (HT.out.storedH hm4 hs4 (by omega))
  go_ret
  exact ⟨rfl, HT4.out, hs4⟩
theorem lgive_no (s : ByteArray) (w : World) (hT : Lg w tb hb mb n each f g) (hs : s.size ≤ maxLen) (h : hasV f s = 0) :
    Calls Try.prog 11 #[.pointer (some ⟨tb, 0, none⟩), .string s] w fun e w' => e = .returned (.int .i64 7) ∧ w = w' := by
  have HA := Lib.hid (lhas_any s w hT hs)
  rw [h] at HA
  clear hT h
  go_enter Try.func11, Try.ntmps11
  go_wp2_with (go_at_call 9; refine HA.out.mono ?_; rintro e w7 ⟨rfl, rfl⟩)
  go_ret
  exact ⟨rfl, rfl⟩
set_option maxHeartbeats 1000000 in
theorem lgive_any (s : ByteArray) (w : World) (hT : Lg w tb hb mb n each f g) (hs : s.size ≤ maxLen) (hn : n < 1000000) (h0 : 0 < hasV f s) (he : hasV f s < 1000000) :
    Calls Try.prog 11 #[.pointer (some ⟨tb, 0, none⟩), .string s] w fun e w' => e = .returned (.int .i64 0) ∧ Lg w' tb hb mb (n + 1) each (giveF f s) g ∧ Step [hb] w w' := by
  have hc1 := hT.cell1
  have hk := hT.look s hs
  have HA := Lib.hid (lhas_any s w hT hs)
  have HT := Lib.hid hT
  clear hT
  unfold giveF
  by_cases h1 : hasV f s = 1
  · rw [if_pos h1]
    rw [h1] at hk HA
    go_enter Try.func11, Try.ntmps11
    go_wp2_with (first
      | (go_at_call 9; refine HA.out.mono ?_; rintro e w7 ⟨rfl, rfl⟩)
      | (at_mapUpdate; refine wpList_store (strKey Try.underlying9) elN rfl _ _ _ 34 3 rfl Try.underlying34 rfl HT.out.has (by unfold maxLen; omega) s rfl hs 0 rfl ?_; intro w4 hm4 hs4; have HT4 := Lib.hid (HT.out.storedH hm4 hs4 (by omega)); have hc4 := HT4.out.cell1; have hk4 := HT4.out.look s hs; rw [hasV_upd] at hk4)
      | (at_delete; refine wpList_del (strKey Try.underlying9) elN rfl _ _ 34 3 rfl Try.underlying34 rfl HT4.out.has s rfl hs ?_; intro w5 hm5 hs5; go_frame))
    have HT5 := Lib.hid (HT4.out.storedH hm5 hs5 (by omega))
    go_wp2
    go_ret
    exact ⟨rfl, HT5.out, hs4.then hs5 (fun k hk => .inl hk)⟩
  · rw [if_neg h1]
    obtain ⟨x, hx⟩ : ∃ x, hasV f s = x := ⟨_, rfl⟩
    rw [hx] at HA hk h0 he h1 ⊢
    have hb0 : (x == 0) = false := by simp; omega
    have hb1 : (x - 1 == 0) = false := by simp; omega
    clear hx h1
    go_enter Try.func11, Try.ntmps11
    go_wp2_with (first
      | (go_at_call 9; refine HA.out.mono ?_; rintro e w7 ⟨rfl, rfl⟩)
      | (at_mapUpdate; refine wpList_store (strKey Try.underlying9) elN rfl _ _ _ 34 3 rfl Try.underlying34 rfl HT.out.has (by unfold maxLen; omega) s rfl hs (x - 1) rfl ?_; intro w4 hm4 hs4; have HT4 := Lib.hid (HT.out.storedH hm4 hs4 (by omega)); have hc4 := HT4.out.cell1; have hk4 := HT4.out.look s hs; rw [hasV_upd] at hk4))
    go_ret
    exact ⟨rfl, HT4.out, hs4⟩
end
end Go.Proofs.Ythdagklibmdglaa
