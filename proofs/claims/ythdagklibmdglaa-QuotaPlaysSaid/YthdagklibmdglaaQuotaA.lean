/- quota.Ledger: what its functions do. -/
import Derived.Test.YthdagklibmdglaaMaps
namespace Go.Proofs.Ythdagklibmdglaa
set_option linter.unusedVariables false
open Go.RowKit Go.Maps

abbrev elN : ElT Int := intEl .i64
theorem zeroN (w : World) : (zeroValue 3).run Try.prog w = .ok (elN.val 0) w := by kernel_rfl

/-- a ledger: its block, its maps' blocks, what stands there; nothing was said of anybody -/
structure Led (w : World) (tb hb mb n : Nat) (each : Int) (f : ByteArray → Option Int) : Prop where
  blk : Blk w tb #[.int .i64 each, .map (some hb), .map (some mb)] 46
  has : MapF (strKey Try.underlying9) elN w hb n f
  most : MapF (strKey Try.underlying9) elN w mb 0 (fun _ => none)
  ne1 : hb ≠ tb
  ne2 : mb ≠ tb
  ne3 : hb ≠ mb

theorem Led.step {F : List Nat} {w w' : World} {tb hb mb n : Nat} {each : Int} {f : ByteArray → Option Int} (h : Led w tb hb mb n each f) (hs : Step F w w') (h1 : tb ∉ F) (h2 : hb ∉ F) (h3 : mb ∉ F) : Led w' tb hb mb n each f :=
  ⟨h.blk.step hs h1, h.has.step hs h2, h.most.step hs h3, h.ne1, h.ne2, h.ne3⟩
theorem Led.mono {w : World} {tb hb mb n m : Nat} {each : Int} {f : ByteArray → Option Int} (h : Led w tb hb mb n each f) (hm : n ≤ m) : Led w tb hb mb m each f :=
  ⟨h.blk, h.has.mono hm, h.most, h.ne1, h.ne2, h.ne3⟩
theorem Led.stored {w w' : World} {tb hb mb n m : Nat} {each : Int} {f g : ByteArray → Option Int} (h : Led w tb hb mb n each f) (hm : MapF (strKey Try.underlying9) elN w' hb m g) (hs : Step [hb] w w') : Led w' tb hb mb m each g :=
  ⟨h.blk.step hs (by simpa using fun e => h.ne1 e.symm), hm, h.most.step hs (by simpa using fun e => h.ne3 e.symm), h.ne1, h.ne2, h.ne3⟩

def hasV (f : ByteArray → Option Int) (s : ByteArray) : Int := (f s).getD 0

theorem Led.look {w : World} {tb hb mb n : Nat} {each : Int} {f : ByteArray → Option Int} (h : Led w tb hb mb n each f) (s : ByteArray) (hs : s.size ≤ maxLen) :
    (Instr.lookup 34 (.map (some hb)) (.string s) false).run Try.prog w = .ok (.int .i64 (hasV f s)) w :=
  h.has.run Try.underlying34 0 (zeroN _) s hs
theorem Led.look_most {w : World} {tb hb mb n : Nat} {each : Int} {f : ByteArray → Option Int} (h : Led w tb hb mb n each f) (s : ByteArray) (hs : s.size ≤ maxLen) :
    (Instr.lookup 34 (.map (some mb)) (.string s) true).run Try.prog w = .ok (.tuple #[.int .i64 0, .bool false]) w :=
  h.most.run_ok Try.underlying34 0 (zeroN _) s hs

set_option maxHeartbeats 400000 in
theorem qhas_any (tb hb mb n : Nat) (each : Int) (f : ByteArray → Option Int) (s : ByteArray) (w : World) (hT : Led w tb hb mb n each f) (hs : s.size ≤ maxLen) :
    Calls Try.prog 9 #[.pointer (some ⟨tb, 0, none⟩), .string s] w fun e w' => e = .returned (.int .i64 (hasV f s)) ∧ w = w' := by
  have hc1 := hT.blk.cell 1
  simp at hc1
  have hk := hT.look s hs
  clear hT
  go_enter Try.func9, Try.ntmps9
  go_wp2_with fail
  go_ret
  exact ⟨rfl, rfl⟩

set_option maxHeartbeats 400000 in
theorem qmay_any (tb hb mb n : Nat) (each : Int) (f : ByteArray → Option Int) (s : ByteArray) (w : World) (hT : Led w tb hb mb n each f) (hs : s.size ≤ maxLen) :
    Calls Try.prog 15 #[.pointer (some ⟨tb, 0, none⟩), .string s] w fun e w' => e = .returned (.int .i64 each) ∧ w = w' := by
  have hc2 := hT.blk.cell 2
  have hc0 := hT.blk.cell 0
  simp at hc0 hc2
  have hk := hT.look_most s hs
  clear hT
  go_enter Try.func15, Try.ntmps15
  go_wp2_with fail
  go_ret
  exact ⟨rfl, rfl⟩

def takeF (each : Int) (f : ByteArray → Option Int) (s : ByteArray) : ByteArray → Option Int := if hasV f s < each then upd f s (some (hasV f s + 1)) else f
def takeE (each : Int) (f : ByteArray → Option Int) (s : ByteArray) : Int := if hasV f s < each then 0 else 14

set_option maxHeartbeats 1000000 in
theorem qtake_any (tb hb mb n : Nat) (each : Int) (f : ByteArray → Option Int) (s : ByteArray) (w : World) (hT : Led w tb hb mb n each f) (hs : s.size ≤ maxLen) (hn : n < 1000000) (h0 : 0 ≤ hasV f s) (he : each < 1000000) :
    Calls Try.prog 10 #[.pointer (some ⟨tb, 0, none⟩), .string s] w fun e w' => e = .returned (.int .i64 (takeE each f s)) ∧ Led w' tb hb mb (n + 1) each (takeF each f s) ∧ Step [hb] w w' := by
  have hc1 := hT.blk.cell 1
  simp at hc1
  have hk := hT.look s hs
  have HA := Lib.hid (qhas_any tb hb mb n each f s w hT hs)
  have HM := Lib.hid (qmay_any tb hb mb n each f s w hT hs)
  have HT := Lib.hid hT
  clear hT
  by_cases hlt : hasV f s < each
  · have e1 : takeE each f s = 0 := if_pos hlt
    have e2 : takeF each f s = upd f s (some (hasV f s + 1)) := if_pos hlt
    rw [e1, e2]
    clear e1 e2
    go_enter Try.func10, Try.ntmps10
    go_wp2_with (first
      | (go_at_call 9; refine HA.out.mono ?_; rintro e w7 ⟨rfl, rfl⟩)
      | (go_at_call 15; refine HM.out.mono ?_; rintro e w7 ⟨rfl, rfl⟩)
      | (at_mapUpdate; refine wpList_store (strKey Try.underlying9) elN rfl _ _ _ 34 3 rfl Try.underlying34 rfl HT.out.has (by unfold maxLen; omega) s rfl hs (hasV f s + 1) rfl ?_; intro w4 hm4 hs4))
    have HT4 := Lib.hid (HT.out.stored hm4 hs4)
    go_ret
    exact ⟨rfl, HT4.out, hs4⟩
  · have e1 : takeE each f s = 14 := if_neg hlt
    have e2 : takeF each f s = f := if_neg hlt
    rw [e1, e2]
    clear e1 e2
    go_enter Try.func10, Try.ntmps10
    go_wp2_with (first
      | (go_at_call 9; refine HA.out.mono ?_; rintro e w7 ⟨rfl, rfl⟩)
      | (go_at_call 15; refine HM.out.mono ?_; rintro e w7 ⟨rfl, rfl⟩))
    go_ret
    exact ⟨rfl, HT.out.mono (by omega), Step.refl _ _⟩

/-- give behind a take: one less; whoever has none is struck -/
def giveF (f : ByteArray → Option Int) (s : ByteArray) : ByteArray → Option Int := if hasV f s = 1 then upd (upd f s (some 0)) s none else upd f s (some (hasV f s - 1))

theorem hasV_upd (f : ByteArray → Option Int) (s : ByteArray) (v : Int) : hasV (upd f s (some v)) s = v := by simp [hasV, upd]
theorem Led.cell1 {w : World} {tb hb mb n : Nat} {each : Int} {f : ByteArray → Option Int} (h : Led w tb hb mb n each f) : w.cell? ⟨tb, 1, none⟩ = some (.map (some hb)) := (h.blk.cell 1).trans rfl

set_option maxHeartbeats 1000000 in
theorem qgive_any (tb hb mb n : Nat) (each : Int) (f : ByteArray → Option Int) (s : ByteArray) (w : World) (hT : Led w tb hb mb n each f) (hs : s.size ≤ maxLen) (hn : n < 1000000) (h0 : 0 < hasV f s) (he : hasV f s < 1000000) :
    Calls Try.prog 11 #[.pointer (some ⟨tb, 0, none⟩), .string s] w fun e w' => e = .returned (.int .i64 0) ∧ Led w' tb hb mb (n + 1) each (giveF f s) ∧ Step [hb] w w' := by
  have hc1 := hT.cell1
  have hk := hT.look s hs
  have HA := Lib.hid (qhas_any tb hb mb n each f s w hT hs)
  have HT := Lib.hid hT
  clear hT
  have hu := Lib.hid (hasV_upd f s (hasV f s - 1))
  unfold giveF
  by_cases h1 : hasV f s = 1
  · rw [if_pos h1]
    rw [h1] at hk HA hu
    go_enter Try.func11, Try.ntmps11
    go_wp2_with (first
      | (go_at_call 9; refine HA.out.mono ?_; rintro e w7 ⟨rfl, rfl⟩)
      | (at_mapUpdate; refine wpList_store (strKey Try.underlying9) elN rfl _ _ _ 34 3 rfl Try.underlying34 rfl HT.out.has (by unfold maxLen; omega) s rfl hs 0 rfl ?_; intro w4 hm4 hs4; have HT4 := Lib.hid (HT.out.stored hm4 hs4); have hc4 := HT4.out.cell1; have hk4 := HT4.out.look s hs; rw [hasV_upd] at hk4)
      | (at_delete; refine wpList_del (strKey Try.underlying9) elN rfl _ _ 34 3 rfl Try.underlying34 rfl HT4.out.has s rfl hs ?_; intro w5 hm5 hs5; go_frame))
    have HT5 := Lib.hid (HT4.out.stored hm5 hs5)
    go_wp2
    go_ret
    exact ⟨rfl, HT5.out, hs4.then hs5 (fun k hk => .inl hk)⟩
  · rw [if_neg h1]
    have hb0 : (hasV f s == 0) = false := by simp; omega
    have hb1 : (hasV f s - 1 == 0) = false := by simp; omega
    go_enter Try.func11, Try.ntmps11
    go_wp2_with (first
      | (go_at_call 9; refine HA.out.mono ?_; rintro e w7 ⟨rfl, rfl⟩)
      | (at_mapUpdate; refine wpList_store (strKey Try.underlying9) elN rfl _ _ _ 34 3 rfl Try.underlying34 rfl HT.out.has (by unfold maxLen; omega) s rfl hs (hasV f s - 1) rfl ?_; intro w4 hm4 hs4; have HT4 := Lib.hid (HT.out.stored hm4 hs4); have hc4 := HT4.out.cell1; have hk4 := HT4.out.look s hs; rw [hasV_upd] at hk4))
    go_ret
    exact ⟨rfl, HT4.out, hs4⟩

/-- what New leaves -/
def NewL (each : Int) (w : World) (e : Ending) (w' : World) : Prop :=
  ∃ tb hb mb, e = .returned (.tuple #[.pointer (some ⟨tb, 0, none⟩), .int .i64 0]) ∧ Led w' tb hb mb 0 each (fun _ => none) ∧ Step [] w w' ∧ w.heap.size ≤ tb ∧ w.heap.size ≤ hb ∧ w.heap.size ≤ mb

set_option maxHeartbeats 400000 in
theorem qright_any (n : Int) (w : World) (h0 : 0 ≤ n) (h1 : n ≤ 128) : Calls Try.prog 17 #[.int .i64 n] w fun e w' => e = .returned (.bool true) ∧ w = w' := by
  have d0 : decide (0 ≤ n) = true := by simpa using h0
  go_enter Try.func17, Try.ntmps17
  go_wp2
  go_ret
  exact ⟨rfl, rfl⟩

set_option maxHeartbeats 400000 in
theorem qnew_any (n : Int) (w : World) (h0 : 0 ≤ n) (h1 : n ≤ 128) : Calls Try.prog 7 #[.int .i64 n] w (NewL n w) := by
  have hmm := @run_makeMap Try.prog
  go_enter Try.func7, Try.ntmps7
  go_wp2_with fail
  refine (qright_any n w h0 h1).mono ?_
  rintro e w1 ⟨rfl, rfl⟩
  go_wp2_with fail
  have ha := ((MapF.made (strKey Try.underlying9) elN w).step ((Step.refl [] _).alloc (.map #[] 0)) (by simp)).step ((Step.refl [] _).alloc (.cells #[.int .i64 n, .map (some w.heap.size), .map (some (w.heap.size + 1))] 46)) (by simp)
  have hm := (MapF.made (strKey Try.underlying9) elN (w.alloc (.map #[] 0))).step ((Step.refl [] _).alloc (.cells #[.int .i64 n, .map (some w.heap.size), .map (some (w.heap.size + 1))] 46)) (by simp)
  have hb := Blk.new ((w.alloc (.map #[] 0)).alloc (.map #[] 0)) #[.int .i64 n, .map (some w.heap.size), .map (some (w.heap.size + 1))] 46
  rw [World.size_alloc, World.size_alloc] at hb
  rw [World.size_alloc] at hm
  go_ret2
  refine ⟨w.heap.size + 1 + 1, w.heap.size, w.heap.size + 1, rfl, ⟨hb, ha, hm, by omega, by omega, by omega⟩, ((((Step.refl [] w).alloc _).alloc _).alloc _), by omega, by omega, by omega⟩

set_option maxRecDepth 100000 in
set_option maxHeartbeats 1000000 in
theorem lives_any (w : World) : Calls Try.prog 6 #[] w fun e w' => e = .returned (.bool true) ∧ Step [] w w' := by
  go_enter Try.func6, Try.ntmps6
  go_wp2_with fail
  refine (qnew_any 2 w (by decide) (by decide)).mono ?_
  rintro e w1 ⟨tb, hb, mb, rfl, hT, hs, h1, h2, h3⟩
  have HS := Lib.hid hs
  have HT := Lib.hid hT
  clear hs hT
  have h := Lib.hid (qtake_any _ _ _ _ 2 _ ⟨#[97]⟩ w1 HT.out (by decide) (by decide) (by decide) (by decide))
  rw [show takeE 2 (fun _ => none) ⟨#[97]⟩ = 0 from by decide] at h
  go_wp2_with fail
  refine h.out.mono ?_
  rintro e w2 ⟨rfl, hT, hs⟩
  have HT2 := Lib.hid hT
  have HS2 := Lib.hid (HS.out.then hs (fun k hk => by simp at hk; exact .inr (by omega)))
  clear h hs hT HT HS
  have h := Lib.hid (qtake_any _ _ _ _ 2 _ ⟨#[97]⟩ w2 HT2.out (by decide) (by decide) (by decide) (by decide))
  rw [show takeE 2 (takeF 2 (fun _ => none) ⟨#[97]⟩) ⟨#[97]⟩ = 0 from by decide] at h
  go_wp2_with fail
  refine h.out.mono ?_
  rintro e w3 ⟨rfl, hT, hs⟩
  have HT3 := Lib.hid hT
  have HS3 := Lib.hid (HS2.out.then hs (fun k hk => by simp at hk; exact .inr (by omega)))
  clear h hs hT HT2 HS2
  have h := Lib.hid (qtake_any _ _ _ _ 2 _ ⟨#[97]⟩ w3 HT3.out (by decide) (by decide) (by decide) (by decide))
  rw [show takeE 2 (takeF 2 (takeF 2 (fun _ => none) ⟨#[97]⟩) ⟨#[97]⟩) ⟨#[97]⟩ = 14 from by decide] at h
  go_wp2_with fail
  refine h.out.mono ?_
  rintro e w4 ⟨rfl, hT, hs⟩
  have HT4 := Lib.hid hT
  have HS4 := Lib.hid (HS3.out.then hs (fun k hk => by simp at hk; exact .inr (by omega)))
  clear h hs hT HT3 HS3
  have h := Lib.hid (qhas_any _ _ _ _ 2 _ ⟨#[97]⟩ w4 HT4.out (by decide))
  rw [show hasV (takeF 2 (takeF 2 (takeF 2 (fun _ => none) ⟨#[97]⟩) ⟨#[97]⟩) ⟨#[97]⟩) ⟨#[97]⟩ = 2 from by decide] at h
  go_wp2_with fail
  refine h.out.mono ?_
  rintro e w5 ⟨rfl, rfl⟩
  go_wp2_with fail
  go_ret
  exact ⟨rfl, HS4.out⟩
end Go.Proofs.Ythdagklibmdglaa
