/- Several texts in one: RdyP, RdyQ, RdyR, RdyS, RdyU, RdyV. -/
import Derived.Test.YtebgojcecgimaaaRdyH
import Derived.Test.YtebgojcecgimaaaRowF
import Derived.Test.YtebgojcecgimaaaStepApp
import Derived.Deep.AppendLies
import Derived.Test.YtebgojcecgimaaaRdyTb
import Derived.Deep.RegionLawGrows
import Derived.Test.YtebgojcecgimaaaLoopM
import Derived.Test.YtebgojcecgimaaaRangeSepV
import Derived.Test.YtebgojcecgimaaaOpen
import Derived.Outline
import Derived.Deep.CutBlock
section
namespace Go.Proofs.Ytebgojcecgimaaa
set_option linter.unusedVariables false
set_option linter.unusedSimpArgs false
open Go.RowKit
attribute [local go_sem ↓] Go.wp_at_zero Go.wp_at_succ
namespace Rd
/-- one of the model: its name, priority and order -/
structure On where
  nm : ByteArray
  p : Int
  o : Int
def on0 : On := ⟨ByteArray.empty, 0, 0⟩
def onC (x : On) : List Value := [.string x.nm, .int .i64 x.p, .int .u64 x.o]
theorem onC_len (x : On) : (onC x).length = 3 := rfl
theorem onC_one (x : On) : ∀ u, u ∈ onC x → u.oneCell' = true := by
  intro u hu
  simp [onC] at hu
  rcases hu with rfl | rfl | rfl <;> rfl
def flatO (L : List On) : List Value := L.flatMap onC
theorem flatO_len (L : List On) : (flatO L).length = L.length * 3 := flatF_len onC_len L
theorem flatO_one (L : List On) : ∀ u ∈ flatO L, u.oneCell' = true := flatF_one onC_one L
theorem flatO_app (L R : List On) : flatO (L ++ R) = flatO L ++ flatO R := flatF_app L R
theorem Try.infoO : (Try.prog.info? 33).map (fun i => (i.zero, i.size, i.bytes)) = some (some (.agg #[.string ByteArray.empty, .int .i64 0, .int .u64 0]), 3, 32) := by kernel_rfl
theorem infoO_parts : ∃ i : TypeInfo, Try.prog.info? 33 = some i ∧ i.zero = some (.agg #[.string ByteArray.empty, .int .i64 0, .int .u64 0]) ∧ i.size = 3 ∧ i.bytes = 32 := by
  have h1 := Try.infoO
  cases e : Try.prog.info? 33 with
  | none => rw [e] at h1; cases h1
  | some i =>
    rw [e] at h1
    simp at h1
    exact ⟨i, rfl, h1.1, h1.2.1, h1.2.2⟩
theorem wrapI {x : Int} (h1 : -9223372036854775808 ≤ x) (h2 : x ≤ 9223372036854775807) : IntKind.i64.wrap x = x := IntWalk.i64_in _ (by omega)
/-- a row of the model -/
def Ons (w : World) (base : Nat) (v : Value) (m : List On) : Prop := w.ownsRow base 33 3 v m.length (flatO m)
theorem Ons.step {w w' : World} {base : Nat} {v : Value} {m : List On} {F : List Nat} (h : Ons w base v m) (hs : Step F w w') (hn : ∀ k, k ∈ foot v → k ∉ F) : Ons w' base v m := owns_step h hs hn
theorem Ons.nil (w : World) (base : Nat) : Ons w base (.slice none 0 0) [] := World.ownsRow_nil _ _ _ _
theorem Ons.form {w : World} {base : Nat} {v : Value} {m : List On} (h : Ons w base v m) : ∃ a c, v = .slice a m.length c ∧ (a = none → m.length = 0 ∧ c = 0) ∧ ∀ ad, a = some ad → ∃ g, ad = ⟨g, 0, none⟩ := by
  rcases h.2 with ⟨h1, h2⟩ | ⟨g, c, cur, h1, _⟩
  · exact ⟨none, 0, by rw [h1, h2], fun _ => ⟨h2, rfl⟩, fun ad h => by cases h⟩
  · exact ⟨_, _, h1, fun h => by (cases h), fun ad h => by cases h; exact ⟨g, rfl⟩⟩
theorem Ons.at0 {w : World} {base : Nat} {v : Value} {m : List On} (h : Ons w base v m) (h0 : 0 < m.length) : ∃ g c, v = .slice (some ⟨g, 0, none⟩) m.length c ∧ m.length ≤ c := by
  rcases h.2 with ⟨h1, h2⟩ | ⟨g, c, cur, h1, _, _, h2, _⟩
  · omega
  · exact ⟨g, c, h1, h2⟩
theorem Ons.cell {w : World} {base g n c : Nat} {m : List On} (h : Ons w base (.slice (some ⟨g, 0, none⟩) n c) m) (i : Nat) (hi : i < m.length) :
    w.cell? ⟨g, i * 3, none⟩ = some (.string (m.getD i on0).nm) ∧ w.cell? ⟨g, i * 3 + 1, none⟩ = some (.int .i64 (m.getD i on0).p) ∧ w.cell? ⟨g, i * 3 + 2, none⟩ = some (.int .u64 (m.getD i on0).o) := by
  have key : ∀ j, j < 3 → w.cell? ⟨g, i * 3 + j, none⟩ = (onC (m.getD i on0))[j]? := fun j hj => by
    have h1 := flatF_at onC_len m i j hi hj
    have e : m.getD i on0 = m[i] := by simp [List.getD, hi]
    rw [e]
    rw [← h1]
    have h2 : i * 3 + j < (flatO m).length := by rw [flatO_len]; omega
    have h3 := h.cells rfl (i * 3 + j) _ (List.getElem?_eq_getElem h2)
    rw [add_plain, Nat.zero_add] at h3
    rw [h3]
    exact (List.getElem?_eq_getElem h2).symm
  exact ⟨key 0 (by omega), key 1 (by omega), key 2 (by omega)⟩
theorem flatO_take (m : List On) (i : Nat) (hi : i ≤ m.length) : flatO (m.take i) = (flatO m).take (i * 3) := flatF_take onC_len m i
def CutO (v : Value) (m : List On) (k : ByteArray) (w : World) (e : Ending) (w' : World) : Prop :=
  ((∀ x, x ∈ m → x.nm ≠ k) ∧ e = .returned (.tuple #[v, .bool false]) ∧ Step [] w w') ∨
  (∃ i, i < m.length ∧ (m.getD i on0).nm = k ∧ (∀ j, j < i → (m.getD j on0).nm ≠ k) ∧ ∃ v', e = .returned (.tuple #[v', .bool true]) ∧ Ons w' w.heap.size v' (m.eraseIdx i) ∧ Step [] w w')
theorem bytes_ne {a b : ByteArray} (h : a ≠ b) : (a.toList == b.toList) = false := by
  rw [beq_eq_false_iff_ne]
  intro e
  rw [ByteArray.toList_eq, ByteArray.toList_eq] at e
  apply h
  have h2 := congrArg List.toArray e
  simp only [Array.toArray_toList] at h2
  exact ByteArray.ext h2
set_option maxRecDepth 20000 in
set_option maxHeartbeats 4000000 in
theorem cut_on (base : Nat) (v : Value) (m : List On) (k : ByteArray) (w : World) (h : Ons w base v m) (hfew : m.length ≤ 1000) :
    Calls Try.prog 12 #[v, .string k] w (CutO v m k w) := by
  obtain ⟨i0, hi0, hz0, hz1, hz2⟩ := infoO_parts
  obtain ⟨ao, cap, rfl, hnone, had⟩ := h.form
  have HH := Lib.hid h
  have HA := Lib.hid (And.intro hnone had)
  obtain ⟨n, hn⟩ : ∃ n, m.length = n := ⟨_, rfl⟩
  have HN := Lib.hid hn
  rw [hn] at hfew ⊢
  clear h hn hnone had
  go_enter Try.func12, Try.ntmps12
  go_wp2_with fail
  go_loopw [10] (fun s wr => ∃ j : Nat, s = .int .i64 (j : Int) ∧ j ≤ n ∧ (∀ q, q < j → (m.getD q on0).nm ≠ k) ∧ Step [] w wr) (fun s _ => n - (intOf s).toNat)
  case atStart => exact ⟨0, rfl, Nat.zero_le _, fun q hq => by omega, Step.refl _ _⟩
  case round =>
    obtain ⟨i, rfl, hi, hno, hst⟩ := hrel
    have HNo := Lib.hid hno
    have HST := Lib.hid hst
    clear hno hst
    by_cases hlt : i < n
    · obtain ⟨g, hg⟩ : ∃ g, ao = some ⟨g, 0, none⟩ := by
        cases ao with
        | none => have := (HA.out.1 rfl).1; have := HN.out; omega
        | some ad => obtain ⟨g, rfl⟩ := HA.out.2 ad rfl; exact ⟨g, rfl⟩
      subst hg
      obtain ⟨c0, c1, c2⟩ := (HH.out.step HST.out (by simp)).cell i (by rw [HN.out]; exact hlt)
      obtain ⟨xk, hxk⟩ : ∃ x, (m.getD i on0).nm = x := ⟨_, rfl⟩
      obtain ⟨xp, hxp⟩ : ∃ x, (m.getD i on0).p = x := ⟨_, rfl⟩
      obtain ⟨xo, hxo⟩ : ∃ x, (m.getD i on0).o = x := ⟨_, rfl⟩
      rw [hxk] at c0
      rw [hxp] at c1
      rw [hxo] at c2
      have HX := Lib.hid hxk
      have p1 : (i : Int) < (n : Int) := by omega
      have hi' := hlt
      have HI := Lib.hid hi'
      clear hxk hxp hxo hlt
      by_cases hk : xk = k
      · subst hk
        have HKk := Lib.hid HX.out
        have hcap : n ≤ cap := by
          obtain ⟨g2, c2', e, hle⟩ := HH.out.at0 (by rw [HN.out]; omega)
          cases e
          rw [HN.out] at hle
          exact hle
        have q1 : (i : Int) ≤ (cap : Int) := by omega
        have q2 : ((i : Int) + 1) ≤ (n : Int) := by omega
        have e1 : IntKind.i64.wrap ((i : Int) + 1) = (i : Int) + 1 := wrapI (by omega) (by omega)
        go_wp2_with fail
        have hs1 := (Step.refl [] wr).alloc (.cells #[.string xk, .int .i64 xp, .int .u64 xo] 33)
        obtain ⟨W, hW⟩ : ∃ W, wr.alloc (.cells #[.string xk, .int .i64 xp, .int .u64 xo] 33) = W := ⟨_, rfl⟩
        rw [hW] at hs1 ⊢
        have HSW := Lib.hid (HST.out.then hs1 (by simp))
        have HH := Lib.hid (HH.out.step HSW.out (by simp))
        clear hs1 hW
        have hi := hi'
        have hml : (flatO m).length = n * 3 := by rw [flatO_len, HN.out]
        have HO := Lib.hid (show W.ownsRow base 33 3 (.slice (some ⟨g, 0, none⟩) n cap) n (flatO m) from by have := HH.out; unfold Ons at this; rw [HN.out] at this; exact this)
        have p3 : (0 : Int) ≤ (i : Int) + 1 := by omega
        by_cases hci : cap = i + 1
        · subst hci
          obtain rfl : n = i + 1 := by omega
          have p4 : (i : Int) ≤ (i : Int) + 1 := by omega
          go_region_law (first
            | (refine step_append_own rfl (.tmp 19) (.tmp 22) 39 rfl W.heap.size 33 i0 _ 3 32 Try.underlying39 hi0 hz0 hz1 hz2 rfl (by decide) _ 0 [] (by rfl) ((World.ownsRow_made W #[] 0 (Nat.le_refl _) (Nat.zero_le _) rfl).drew) ⟨g, 0, none⟩ i _ ((flatO m).take (i * 3)) (by rfl) ?h1 ?h2 ?h3 ?h4 ?h5 ?h6 ?_
               case h1 => rw [List.length_take, hml]; omega
               case h2 =>
                 intro j u hu
                 rw [List.getElem?_take] at hu
                 split at hu
                 · exact ((HO.out.alloc _).drew).cells rfl j u hu
                 · cases hu
               case h3 => exact fun u hu => flatO_one m u (List.mem_of_mem_take hu)
               case h4 => unfold maxLen; omega
               case h5 => omega
               case h6 => show W.heap.size ≤ (W.alloc _).heap.size; rw [World.size_alloc]; omega
               intro v3 w3 ho3 hs3 hf3
               have HO3 := Lib.hid (And.intro ho3 (And.intro hs3 hf3))
               clear ho3 hs3 hf3)
            | (refine step_append_own rfl (.tmp 23) (.tmp 27) 39 rfl W.heap.size 33 i0 _ 3 32 Try.underlying39 hi0 hz0 hz1 hz2 rfl (by decide) v3 i ((flatO m).take (i * 3)) (by rfl) ?h0 ⟨g, 0, none⟩ 0 0 ((flatO m).drop ((i + 1) * 3)) (by rfl) ?h1 ?h2 ?h3 ?h4 ?h5 ?h6 ?_
               case h0 => simpa using HO3.out.1
               case h1 => rw [List.length_drop, hml]; omega
               case h2 =>
                 intro j u hu
                 rw [List.drop_eq_nil_of_le (by rw [hml]; omega)] at hu
                 cases hu
               case h3 => exact fun u hu => flatO_one m u (List.mem_of_mem_drop hu)
               case h4 => unfold maxLen; omega
               case h5 => omega
               case h6 => exact Nat.le_trans (by rw [show (W.alloc (.cells #[] 33)).drew.heap.size = W.heap.size + 1 from World.size_alloc _ _]; omega) HO3.out.2.1.size
               intro v4 w4 ho4 hs4 hf4
               have HO4 := Lib.hid (And.intro ho4 (And.intro hs4 hf4))
               clear ho4 hs4 hf4))
          all_goals
            obtain ⟨ho3, hs3, hf3⟩ := HO3.out
            obtain ⟨ho4, hs4, hf4⟩ := HO4.out
            have hA : Step [] W (W.alloc (.cells #[] 33)).drew := ((Step.refl [] W).alloc _).drew
            have hfin : Ons w4 W.heap.size v4 (m.eraseIdx i) := by
              have e1 : i + 0 = (m.eraseIdx i).length := by rw [List.length_eraseIdx, HN.out, if_pos hi]; omega
              have e2 : (flatO m).take (i * 3) ++ (flatO m).drop ((i + 1) * 3) = flatO (m.eraseIdx i) := by
                rw [List.eraseIdx_eq_take_drop_succ, flatO_app, flatO_take m i (by have := HN.out; omega)]
                congr 1
                have h2 : flatO m = flatO (m.take (i + 1)) ++ flatO (m.drop (i + 1)) := by rw [← flatO_app, List.take_append_drop]
                rw [h2]
                have h3 : (flatO (m.take (i + 1))).length = (i + 1) * 3 := by rw [flatO_len, List.length_take]; have := HN.out; omega
                rw [← h3, List.drop_left]
              unfold Ons
              rw [← e1, ← e2]
              exact ho4
            have hb3 := owns_base ho3
            have h03 : ∀ k, k ∈ foot (.slice (some ⟨W.heap.size, 0, none⟩) 0 0) → W.heap.size ≤ k := by intro k hk; simp [foot, Value.ownBlock] at hk; omega
            have hst : Step [] W w4 := (hA.then hs3 (fun k hk => .inr (h03 k hk))).then hs4 (fun k hk => .inr (hb3 k hk))
            have HF := Lib.hid (And.intro hfin hst)
            clear hfin hst hb3 h03 hA ho3 hs3 hf3 ho4 hs4 hf4 HO3 HO4 HO HH
            go_simp
            go_wp2_with fail
            go_ret2
            exact .inr ⟨i, by rw [HN.out]; exact hi', HKk.out, HNo.out, v4, rfl, owns_low HF.out.1 (by have := HSW.out.size; omega), HSW.out.then HF.out.2 (by simp)⟩
        · go_region_law (first
            | (refine step_append_own rfl (.tmp 19) (.tmp 22) 39 rfl W.heap.size 33 i0 _ 3 32 Try.underlying39 hi0 hz0 hz1 hz2 rfl (by decide) _ 0 [] (by rfl) ((World.ownsRow_made W #[] 0 (Nat.le_refl _) (Nat.zero_le _) rfl).drew) ⟨g, 0, none⟩ i _ ((flatO m).take (i * 3)) (by rfl) ?h1 ?h2 ?h3 ?h4 ?h5 ?h6 ?_
               case h1 => rw [List.length_take, hml]; omega
               case h2 =>
                 intro j u hu
                 rw [List.getElem?_take] at hu
                 split at hu
                 · exact ((HO.out.alloc _).drew).cells rfl j u hu
                 · cases hu
               case h3 => exact fun u hu => flatO_one m u (List.mem_of_mem_take hu)
               case h4 => unfold maxLen; omega
               case h5 => omega
               case h6 => show W.heap.size ≤ (W.alloc _).heap.size; rw [World.size_alloc]; omega
               intro v3 w3 ho3 hs3 hf3
               have HO3 := Lib.hid (And.intro ho3 (And.intro hs3 hf3))
               clear ho3 hs3 hf3)
            | (refine step_append_own rfl (.tmp 23) (.tmp 27) 39 rfl W.heap.size 33 i0 _ 3 32 Try.underlying39 hi0 hz0 hz1 hz2 rfl (by decide) v3 i ((flatO m).take (i * 3)) (by rfl) ?h0 ⟨g, (i + 1) * 3, none⟩ (n - (i + 1)) (cap - (i + 1)) ((flatO m).drop ((i + 1) * 3)) (by rfl) ?h1 ?h2 ?h3 ?h4 ?h5 ?h6 ?_
               case h0 => simpa using HO3.out.1
               case h1 => rw [List.length_drop, hml]; omega
               case h2 =>
                 intro j u hu
                 rw [List.getElem?_drop] at hu
                 have h9 := (owns_step (owns_step HO.out (((Step.refl [] W).alloc (.cells #[] 33)).drew) (by simp)) HO3.out.2.1 (fun k hk hm => by
                   have h5 := owns_live HO.out k hk
                   simp [foot, Value.ownBlock] at hm
                   omega)).cells rfl _ u hu
                 rw [add_plain] at h9 ⊢
                 rw [Nat.zero_add] at h9
                 exact h9
               case h3 => exact fun u hu => flatO_one m u (List.mem_of_mem_drop hu)
               case h4 => unfold maxLen; omega
               case h5 => omega
               case h6 => exact Nat.le_trans (by rw [show (W.alloc (.cells #[] 33)).drew.heap.size = W.heap.size + 1 from World.size_alloc _ _]; omega) HO3.out.2.1.size
               intro v4 w4 ho4 hs4 hf4
               have HO4 := Lib.hid (And.intro ho4 (And.intro hs4 hf4))
               clear ho4 hs4 hf4))
          all_goals
            obtain ⟨ho3, hs3, hf3⟩ := HO3.out
            obtain ⟨ho4, hs4, hf4⟩ := HO4.out
            have hA : Step [] W (W.alloc (.cells #[] 33)).drew := ((Step.refl [] W).alloc _).drew
            have hfin : Ons w4 W.heap.size v4 (m.eraseIdx i) := by
              have e1 : i + (n - (i + 1)) = (m.eraseIdx i).length := by rw [List.length_eraseIdx, HN.out, if_pos hi]; omega
              have e2 : (flatO m).take (i * 3) ++ (flatO m).drop ((i + 1) * 3) = flatO (m.eraseIdx i) := by
                rw [List.eraseIdx_eq_take_drop_succ, flatO_app, flatO_take m i (by have := HN.out; omega)]
                congr 1
                have h2 : flatO m = flatO (m.take (i + 1)) ++ flatO (m.drop (i + 1)) := by rw [← flatO_app, List.take_append_drop]
                rw [h2]
                have h3 : (flatO (m.take (i + 1))).length = (i + 1) * 3 := by rw [flatO_len, List.length_take]; have := HN.out; omega
                rw [← h3, List.drop_left]
              unfold Ons
              rw [← e1, ← e2]
              exact ho4
            have hb3 := owns_base ho3
            have h03 : ∀ k, k ∈ foot (.slice (some ⟨W.heap.size, 0, none⟩) 0 0) → W.heap.size ≤ k := by intro k hk; simp [foot, Value.ownBlock] at hk; omega
            have hst : Step [] W w4 := (hA.then hs3 (fun k hk => .inr (h03 k hk))).then hs4 (fun k hk => .inr (hb3 k hk))
            have HF := Lib.hid (And.intro hfin hst)
            clear hfin hst hb3 h03 hA ho3 hs3 hf3 ho4 hs4 hf4 HO3 HO4 HO HH
            go_simp
            go_wp2_with fail
            go_ret2
            exact .inr ⟨i, by rw [HN.out]; exact hi', HKk.out, HNo.out, v4, rfl, owns_low HF.out.1 (by have := HSW.out.size; omega), HSW.out.then HF.out.2 (by simp)⟩
      · have hkf := bytes_ne hk
        go_wp2_with fail
        go_roundw
        case rel =>
          refine ⟨i + 1, by go_num, by omega, fun q hq => ?_, HST.out.then ((Step.refl [] wr).alloc _) (by simp)⟩
          rcases Nat.lt_or_ge q i with h1 | h1
          · exact HNo.out q h1
          · obtain rfl : q = i := by omega
            rw [HX.out]
            exact hk
        case measure => simp [intOf]; omega
    · obtain rfl : n = i := by omega
      have p1 : ¬ (n : Int) < (n : Int) := by omega
      go_wp2_with fail
      go_ret2
      refine .inl ⟨fun x hx => ?_, rfl, HST.out⟩
      obtain ⟨q, hq, e⟩ := List.getElem_of_mem hx
      have h2 := HNo.out q (by have := HN.out; omega)
      rw [show m.getD q on0 = x by simp [List.getD, hq, e]] at h2
      exact h2
end Rd
end Go.Proofs.Ytebgojcecgimaaa
end

section
namespace Go.Proofs.Ytebgojcecgimaaa
set_option linter.unusedVariables false
set_option linter.unusedSimpArgs false
open Go.RowKit
namespace Rd
def ahB (a b : On) : Bool := decide (a.p < b.p) || (decide (a.p = b.p) && HpE.lt (a.nm, a.o) (b.nm, b.o))
theorem ahB_true {a b : On} : ahB a b = true ↔ Ahd a.p (a.nm, a.o) b.p (b.nm, b.o) := by
  unfold ahB Ahd
  simp
theorem ordA : Hp.Ord ahB := by
  refine ⟨fun a => ?_, fun a b c h1 h2 => ?_, fun a b h1 h2 => ?_⟩
  · have h := HpE.olt.irr (a.nm, a.o)
    simp [ahB, h]
  · rw [ahB_true] at *
    rcases h1 with h1 | ⟨e1, h1⟩ <;> rcases h2 with h2 | ⟨e2, h2⟩
    · exact .inl (by omega)
    · exact .inl (by omega)
    · exact .inl (by omega)
    · exact .inr ⟨by omega, HpE.olt.tr _ _ _ h1 h2⟩
  · have h3 : ¬ Ahd a.p (a.nm, a.o) b.p (b.nm, b.o) := fun h => by rw [ahB_true.2 h] at h1; cases h1
    have h4 : ¬ Ahd b.p (b.nm, b.o) a.p (a.nm, a.o) := fun h => by rw [ahB_true.2 h] at h2; cases h2
    have ep : a.p = b.p := by
      rcases Int.lt_trichotomy a.p b.p with h | h | h
      · exact absurd (.inl h) h3
      · exact h
      · exact absurd (.inl h) h4
    have e := HpE.olt.tot (a.nm, a.o) (b.nm, b.o) (by cases h : HpE.lt (a.nm, a.o) (b.nm, b.o) with | false => rfl | true => exact absurd (.inr ⟨ep, h⟩) h3) (by cases h : HpE.lt (b.nm, b.o) (a.nm, a.o) with | false => rfl | true => exact absurd (.inr ⟨ep.symm, h⟩) h4)
    cases a
    cases b
    simp at e ep ⊢
    exact ⟨e.1, ep, e.2⟩
set_option maxRecDepth 20000 in
set_option maxHeartbeats 1000000 in
theorem ahead_not (p : Int) (x : It) (p' : Int) (x' : It) (w : World) (h : p' < p ∨ p = p' ∧ HpE.lt x x' = false) :
    Calls Try.prog 11 #[.agg #[.string x.1, .int .i64 p, .int .u64 x.2], .agg #[.string x'.1, .int .i64 p', .int .u64 x'.2]] w fun e w' => e = .returned (.bool false) ∧ Step [] w w' := by
  obtain ⟨k, o⟩ := x
  obtain ⟨k', o'⟩ := x'
  dsimp only
  have hS := fun (w : World) => ((Step.refl [] w).alloc (.cells #[.string k, .int .i64 p, .int .u64 o] 33)).alloc (.cells #[.string k', .int .i64 p', .int .u64 o'] 33)
  have HS := Lib.hid (hS w)
  clear hS
  rcases h with h | ⟨rfl, h⟩
  · have f1 : decide (p < p') = false := by simp; omega
    have f2 : (p != p') = true := by simp; omega
    go_enter Try.func11, Try.ntmps11
    go_wp2_with fail
    all_goals go_ret
    all_goals exact ⟨rfl, HS.out⟩
  · have h1 : o' < o ∨ o = o' ∧ ltStr k k' = false := by
      simp only [HpE.lt, Hp.ltI, Bool.or_eq_false_iff, decide_eq_false_iff_not, Bool.and_eq_false_iff] at h
      obtain ⟨a, b⟩ := h
      rcases b with b | b
      · exact .inl (by omega)
      · rcases Int.lt_trichotomy o o' with c | c | c
        · omega
        · exact .inr ⟨c, b⟩
        · exact .inl c
    clear h
    rcases h1 with h1 | ⟨rfl, h2⟩
    · have h3 : ¬ o < o' := by omega
      have h4 : (o == o') = false := by simp; omega
      go_enter Try.func11, Try.ntmps11
      go_wp2_with fail
      all_goals go_ret
      all_goals exact ⟨rfl, HS.out⟩
    · unfold ltStr at h2
      go_enter Try.func11, Try.ntmps11
      go_wp2_with fail
      all_goals go_ret
      all_goals exact ⟨rfl, HS.out⟩
theorem ahead_val (a b : On) (w : World) :
    Calls Try.prog 11 #[.agg #[.string a.nm, .int .i64 a.p, .int .u64 a.o], .agg #[.string b.nm, .int .i64 b.p, .int .u64 b.o]] w fun e w' => e = .returned (.bool (ahB a b)) ∧ Step [] w w' := by
  cases h : ahB a b with
  | true => exact ahead_any a.p (a.nm, a.o) b.p (b.nm, b.o) w (ahB_true.1 h)
  | false =>
    refine ahead_not a.p (a.nm, a.o) b.p (b.nm, b.o) w ?_
    simp only [ahB, Bool.or_eq_false_iff, decide_eq_false_iff_not, Bool.and_eq_false_iff] at h
    obtain ⟨h1, h2⟩ := h
    rcases h2 with h2 | h2
    · exact .inl (by omega)
    · rcases Int.lt_trichotomy a.p b.p with c | c | c
      · omega
      · exact .inr ⟨c, h2⟩
      · exact .inl c
/-- one is put in behind those that are ahead of it -/
theorem put_srt {L : List On} {x : On} {k : Nat} (hs : Hp.Srt ahB L) (hk : k ≤ L.length) (h1 : ∀ q, q < k → ahB (L.getD q on0) x = true) (h2 : k < L.length → ahB (L.getD k on0) x = false) (hx : x ∉ L) : Hp.Srt ahB (L.take k ++ x :: L.drop k) := by
  have hs' := hs
  unfold Hp.Srt at hs ⊢
  rw [← List.take_append_drop k L] at hs
  obtain ⟨s1, s2, s3⟩ := List.pairwise_append.1 hs
  have hx2 : ∀ y, y ∈ L.drop k → ahB x y = true := by
    intro y hy
    have hkl : k < L.length := by
      rcases Nat.lt_or_ge k L.length with h | h
      · exact h
      · rw [List.drop_eq_nil_of_le h] at hy; cases hy
    rw [List.drop_eq_getElem_cons hkl] at hy s2
    have e : L.getD k on0 = L[k] := by simp [List.getD, hkl]
    have h3 := h2 hkl
    rw [e] at h3
    have h4 : ahB x L[k] = true := by
      cases h : ahB x L[k] with
      | true => rfl
      | false =>
        have := ordA.tot _ _ h h3
        exact absurd (by rw [this]; exact List.getElem_mem hkl) hx
    rcases List.mem_cons.1 hy with rfl | hy
    · exact h4
    · exact ordA.tr _ _ _ h4 ((List.pairwise_cons.1 s2).1 y hy)
  refine List.pairwise_append.2 ⟨s1, List.pairwise_cons.2 ⟨hx2, s2⟩, fun a ha b hb => ?_⟩
  rcases List.mem_cons.1 hb with rfl | hb
  · obtain ⟨q, hq, rfl⟩ := List.getElem_of_mem ha
    rw [List.length_take] at hq
    have h3 := h1 q (by omega)
    rw [List.getElem_take]
    rwa [show L.getD q on0 = L[q] by simp [List.getD, show q < L.length by omega]] at h3
  · exact s3 a ha b hb
theorem put_perm {L m : List On} {x : On} {k i : Nat} (hp : L.Perm (m.take i)) (hi : i < m.length) (hx : m.getD i on0 = x) : (L.take k ++ x :: L.drop k).Perm (m.take (i + 1)) := by
  have e : m.getD i on0 = m[i] := by simp [List.getD, hi]
  rw [e] at hx
  rw [List.take_succ_eq_append_getElem hi, hx]
  refine List.perm_middle.trans ?_
  rw [List.take_append_drop]
  exact (hp.cons x).trans (List.perm_append_singleton x _).symm
end Rd
end Go.Proofs.Ytebgojcecgimaaa
end

section
namespace Go.Proofs.Ytebgojcecgimaaa
set_option linter.unusedVariables false
set_option linter.unusedSimpArgs false
open Go.RowKit
attribute [local go_sem ↓] Go.wp_at_zero Go.wp_at_succ
namespace Rd
theorem ons_ge {w : World} {base : Nat} {e n : Nat} {v : Value} {xs : List Value} (h : w.ownsRow base e 3 v n xs) (h0 : 0 < n) : ∃ g c, v = .slice (some ⟨g, 0, none⟩) n c ∧ n ≤ c := by
  rcases h.2 with ⟨h1, h2⟩ | ⟨g, c, cur, h1, _, _, h2, _⟩
  · omega
  · exact ⟨g, c, h1, h2⟩
theorem srt_end {w wr0 W w9 w3 w4 : World} {m L : List On} {i k n : Nat} {x : On} {lv v4 : Value} (hn : m.length = n) (hll : L.length = i) (hin : i < n) (hki : k ≤ i) (hxm : m.getD i on0 = x) (hnd : m.Nodup)
    (hL : Ons wr0 w.heap.size lv L ∧ L.Perm (m.take i) ∧ Hp.Srt ahB L ∧ Step [] w wr0) (h1 : Step [] wr0 W) (h9 : Step [] W w9) (h3 : Step [] w9 w3) (h4 : Step [] w3 w4)
    (ho : w4.ownsRow w3.heap.size 33 3 v4 (k + (1 + (i - k))) (((flatO L).take (k * 3)) ++ (onC x ++ (flatO L).drop (k * 3))))
    (hq : ∀ q, q < k → ahB (L.getD q on0) x = true) (hk : k < i → ahB (L.getD k on0) x = false) :
    ∃ L', Ons w4 w.heap.size v4 L' ∧ L'.Perm (m.take (i + 1)) ∧ Hp.Srt ahB L' ∧ Step [] w w4 := by
  obtain ⟨l1, l2, l3, l4⟩ := hL
  have hst : Step [] w w3 := ((l4.then h1 (by simp)).then h9 (by simp)).then h3 (by simp)
  refine ⟨L.take k ++ x :: L.drop k, ?_, put_perm l2 (by omega) hxm, put_srt l3 (by omega) hq (fun h => hk (by omega)) (fun hx => ?_), hst.then h4 (by simp)⟩
  · unfold Ons
    have e1 : (L.take k ++ x :: L.drop k).length = k + (1 + (i - k)) := by simp; omega
    have e2 : flatO (L.take k ++ x :: L.drop k) = ((flatO L).take (k * 3)) ++ (onC x ++ (flatO L).drop (k * 3)) := by
      rw [flatO_app, flatO_take L k (by omega)]
      congr 1
      show onC x ++ flatO (L.drop k) = _
      congr 1
      exact flatF_drop onC_len L k
    rw [e1, e2]
    exact owns_low ho hst.size
  · have h5 : x ∈ m.take i := l2.mem_iff.1 hx
    have e : x = m[i] := by rw [← hxm]; simp [List.getD, hn, hin]
    have h6 : (m.take (i + 1)).Nodup := hnd.sublist (List.take_sublist _ _)
    rw [List.take_succ_eq_append_getElem (by omega), List.nodup_append] at h6
    exact h6.2.2 x h5 m[i] (by simp) e
def SrtPost (m : List On) (w : World) (e : Ending) (w' : World) : Prop := ∃ v L, e = .returned v ∧ Ons w' w.heap.size v L ∧ L.Perm m ∧ Hp.Srt ahB L ∧ Step [] w w'
set_option maxRecDepth 20000 in
set_option maxHeartbeats 4000000 in
theorem sorted_on (base : Nat) (v : Value) (m : List On) (w : World) (h : Ons w base v m) (hfew : m.length ≤ 1000) (hnd : m.Nodup) :
    Calls Try.prog 15 #[v] w (SrtPost m w) := by
  obtain ⟨i0, hi0, hz0, hz1, hz2⟩ := infoO_parts
  obtain ⟨ao, cap, rfl, hnone, had⟩ := h.form
  have HH := Lib.hid (And.intro h hnd)
  have HA := Lib.hid (And.intro hnone had)
  obtain ⟨n, hn⟩ : ∃ n, m.length = n := ⟨_, rfl⟩
  have HN := Lib.hid hn
  rw [hn] at hfew ⊢
  clear h hn hnone had hnd
  go_enter Try.func15, Try.ntmps15
  go_wp2_with fail
  go_loopw [3, 9] (fun ov s wr => ∃ (i : Nat) (L : List On), s = .int .i64 (i : Int) ∧ i ≤ n ∧ Ons wr w.heap.size ov L ∧ L.Perm (m.take i) ∧ Hp.Srt ahB L ∧ Step [] w wr) (fun _ s _ => n - (intOf s).toNat)
  case atStart => exact ⟨0, [], rfl, Nat.zero_le _, Ons.nil _ _, List.Perm.refl _, List.Pairwise.nil, Step.refl _ _⟩
  case round =>
    obtain ⟨i, L, rfl, hi, hL, hp, hs, hst⟩ := hrel
    have HL := Lib.hid (And.intro hL (And.intro hp (And.intro hs hst)))
    obtain ⟨lo, lc, rfl, lnone, lad⟩ := hL.form
    have hll : L.length = i := by
      have := hp.length_eq
      rw [List.length_take, HN.out] at this
      omega
    have HLA := Lib.hid (And.intro lnone lad)
    rw [hll] at HL ⊢
    have HLL := Lib.hid hll
    clear hL hp hs hst lnone lad hll
    by_cases hlt : i < n
    · obtain ⟨g, hg⟩ : ∃ g, ao = some ⟨g, 0, none⟩ := by
        cases ao with
        | none => have := (HA.out.1 rfl).1; have := HN.out; omega
        | some ad => obtain ⟨g, rfl⟩ := HA.out.2 ad rfl; exact ⟨g, rfl⟩
      subst hg
      obtain ⟨c0, c1, c2⟩ := (HH.out.1.step HL.out.2.2.2 (by simp)).cell i (by rw [HN.out]; exact hlt)
      obtain ⟨⟨xk, xp, xo⟩, hx⟩ : ∃ x, m.getD i on0 = x := ⟨_, rfl⟩
      rw [hx] at c0 c1 c2
      dsimp only at c0 c1 c2
      have HX := Lib.hid hx
      have p1 : (i : Int) < (n : Int) := by omega
      have hs1 := (Step.refl [] wr).alloc (.cells #[.string xk, .int .i64 xp, .int .u64 xo] 33)
      have hbx := Blk.new wr #[.string xk, .int .i64 xp, .int .u64 xo] 33
      obtain ⟨W, hW⟩ : ∃ W, wr.alloc (.cells #[.string xk, .int .i64 xp, .int .u64 xo] 33) = W := ⟨_, rfl⟩
      obtain ⟨bx, hbxe⟩ : ∃ b, wr.heap.size = b := ⟨_, rfl⟩
      rw [hW] at hs1 hbx
      rw [hbxe] at hbx
      have HW := Lib.hid (And.intro hs1 (And.intro hbx (And.intro hW hbxe)))
      clear hx hs1 hbx hW hbxe
      go_wp2_with (rw [HW.out.2.2.1, HW.out.2.2.2])
      go_loopw [6] (fun s wr => ∃ k : Nat, s = .int .i64 (k : Int) ∧ k ≤ i ∧ (∀ q, q < k → ahB (L.getD q on0) ⟨xk, xp, xo⟩ = true) ∧ Step [] W wr) (fun s _ => i - (intOf s).toNat)
      case atStart => exact ⟨0, rfl, Nat.zero_le _, fun q hq => by omega, Step.refl _ _⟩
      case round =>
        obtain ⟨k, rfl, hki, hk1, hst7⟩ := hrel
        have HK1 := Lib.hid hk1
        have HS7 := Lib.hid hst7
        clear hk1 hst7
        have hB7 := HW.out.2.1.step HS7.out (by simp)
        have x0 := hB7.cell 0
        have x1 := hB7.cell 1
        have x2 := hB7.cell 2
        have hbl := hB7.lt
        simp only [List.getElem?_toArray, List.getElem?_cons_zero, List.getElem?_cons_succ] at x0 x1 x2
        have hL7 := (HL.out.1.step HW.out.1 (by simp)).step HS7.out (by simp)
        have HL7 := Lib.hid hL7
        have hne : Nonempty (ClsW (Step [] wr.drew)) := ⟨⟨_, Step.refl _ _⟩⟩
        have d0 : ∀ y : ClsW (Step [] wr.drew), y.val.cell? ⟨bx, 0, none⟩ = some (.string xk) := fun y => (y.ok.cell hbl (by simp)).trans x0
        have d1 : ∀ y : ClsW (Step [] wr.drew), y.val.cell? ⟨bx, 1, none⟩ = some (.int .i64 xp) := fun y => (y.ok.cell hbl (by simp)).trans x1
        have d2 : ∀ y : ClsW (Step [] wr.drew), y.val.cell? ⟨bx, 2, none⟩ = some (.int .u64 xo) := fun y => (y.ok.cell hbl (by simp)).trans x2
        clear hB7 x0 x1 x2
        by_cases hkl : k < i
        · obtain ⟨g2, hg2⟩ : ∃ g, lo = some ⟨g, 0, none⟩ := by
            cases lo with
            | none => have := (HLA.out.1 rfl).1; have := HLL.out; omega
            | some ad => obtain ⟨g, rfl⟩ := HLA.out.2 ad rfl; exact ⟨g, rfl⟩
          subst hg2
          obtain ⟨e0, e1, e2⟩ := hL7.cell k (by rw [HLL.out]; exact hkl)
          have hgl : g2 < wr.heap.size := World.block_lt_of_cell? wr _ e0
          obtain ⟨⟨yk, yp, yo⟩, hy⟩ : ∃ y, L.getD k on0 = y := ⟨_, rfl⟩
          rw [hy] at e0 e1 e2
          dsimp only at e0 e1 e2
          have d3 : ∀ y : ClsW (Step [] wr.drew), y.val.cell? ⟨g2, k * 3, none⟩ = some (.string yk) := fun y => (y.ok.cell hgl (by simp)).trans e0
          have d4 : ∀ y : ClsW (Step [] wr.drew), y.val.cell? ⟨g2, k * 3 + 1, none⟩ = some (.int .i64 yp) := fun y => (y.ok.cell hgl (by simp)).trans e1
          have d5 : ∀ y : ClsW (Step [] wr.drew), y.val.cell? ⟨g2, k * 3 + 2, none⟩ = some (.int .u64 yo) := fun y => (y.ok.cell hgl (by simp)).trans e2
          have HC := Lib.hid (fun (w1 : World) => ahead_val ⟨yk, yp, yo⟩ ⟨xk, xp, xo⟩ w1)
          obtain ⟨B, hB⟩ : ∃ B, ahB ⟨yk, yp, yo⟩ ⟨xk, xp, xo⟩ = B := ⟨_, rfl⟩
          rw [hB] at HC
          have HB := Lib.hid (And.intro hy hB)
          have q1 : decide ((k : Int) < (i : Int)) = true := by simp; omega
          have q2 : (k : Int) < (i : Int) := by omega
          clear hy hB hL7 e0 e1 e2
          go_wp2_with fail
          refine region_cls (G := Step [] wr.drew) (by kernel_rfl) (by kernel_rfl) (Step.refl _ _) ?_
          repeat (go_big_quiet_step ((go_at_call 11; exact cls_call ((HC.out _).mono fun e w3 h => ⟨h.1, Step.then (ClsW.ok _) h.2 (by simp)⟩))))
          refine wpQuiet_nil ?_
          rintro w9 ⟨⟨w9x, hw9⟩, hq9⟩
          dsimp only at hq9
          subst hq9
          have HS9 := Lib.hid (HS7.out.then ((Step.refl [] wr).drew.then hw9 (by simp)) (by simp))
          clear d0 d1 d2 d3 d4 d5 hw9 hne
          cases B with
          | true =>
            go_wp2_with fail
            go_roundw
            case rel =>
              refine ⟨k + 1, by go_num, by omega, fun q hq => ?_, HS9.out⟩
              rcases Nat.lt_or_ge q k with h1 | h1
              · exact HK1.out q h1
              · obtain rfl : q = k := by omega
                rw [HB.out.1]
                exact HB.out.2
            case measure => simp [intOf]; omega
          | false =>
            have hk2 : k < i → ahB (L.getD k on0) ⟨xk, xp, xo⟩ = false := fun _ => by rw [HB.out.1]; exact HB.out.2
            have HK2 := Lib.hid hk2
            have hB9 := HW.out.2.1.step HS9.out (by simp)
            have x0 := hB9.cell 0
            have x1 := hB9.cell 1
            have x2 := hB9.cell 2
            simp only [List.getElem?_toArray, List.getElem?_cons_zero, List.getElem?_cons_succ] at x0 x1 x2
            have HL9 := Lib.hid ((HL.out.1.step HW.out.1 (by simp)).step HS9.out (by simp))
            have hlc : i ≤ lc := by
              obtain ⟨_, _, e, hle⟩ := HL9.out.at0 (by rw [HLL.out]; omega)
              cases e
              rw [HLL.out] at hle
              exact hle
            have q3 : (k : Int) ≤ (lc : Int) := by omega
            have q4 : (k : Int) ≤ (i : Int) := by omega
            have hml : (flatO L).length = i * 3 := by rw [flatO_len, HLL.out]
            have q5 : ¬ lc = k := by omega
            clear hk2 hB9
            go_wp2_with fail
            go_region_law (first
              | (refine step_append_own rfl (.tmp 32) (.tmp 35) 39 rfl w9.heap.size 33 i0 _ 3 32 Try.underlying39 hi0 hz0 hz1 hz2 rfl (by decide) _ 1 [.string xk, .int .i64 xp, .int .u64 xo] (by rfl) ((owns_one (base := w9.heap.size) (e := 33) (size := 3) (C := #[.string xk, .int .i64 xp, .int .u64 xo]) (w := w9) (Nat.le_refl _) rfl).drew) ⟨g2, k * 3, none⟩ (i - k) (lc - k) ((flatO L).drop (k * 3)) (by rfl) ?h1 ?h2 ?h3 ?h4 ?h5 ?h6 ?_
                 case h1 => rw [List.length_drop, hml]; omega
                 case h2 =>
                   intro j u hu
                   rw [List.getElem?_drop] at hu
                   have h9 := ((HL9.out.step ((Step.refl [] w9).alloc (.cells #[.string xk, .int .i64 xp, .int .u64 xo] 33)) (by simp)).drew).cells rfl _ u hu
                   rw [add_plain] at h9 ⊢
                   rw [Nat.zero_add] at h9
                   exact h9
                 case h3 => exact fun u hu => flatO_one L u (List.mem_of_mem_drop hu)
                 case h4 => unfold maxLen; omega
                 case h5 => omega
                 case h6 => show w9.heap.size ≤ (w9.alloc _).heap.size; rw [World.size_alloc]; omega
                 intro v3 w3 ho3 hs3 hf3
                 have st3 : Step [] w9 w3 := (((Step.refl [] w9).alloc (.cells #[.string xk, .int .i64 xp, .int .u64 xo] 33)).drew).then hs3 (fun q hq => by simp [foot, Value.ownBlock] at hq; exact .inr (by omega))
                 obtain ⟨g3, c3, rfl, hle3⟩ := ons_ge ho3 (by omega)
                 have HO3 := Lib.hid (And.intro ho3 st3)
                 clear ho3 hs3 hf3 st3 hle3)
              | (refine step_append_grows rfl (.tmp 30) (.tmp 36) 39 rfl 33 i0 _ 3 32 Try.underlying39 hi0 hz0 hz1 hz2 rfl (by decide) (some ⟨g2, 0, none⟩) k k ((flatO L).take (k * 3)) (by rfl) (fun hb => by cases hb) ?a1 ?a2 ⟨g3, 0, none⟩ (1 + (i - k)) c3 ([.string xk, .int .i64 xp, .int .u64 xo] ++ (flatO L).drop (k * 3)) (by rfl) ?a3 (fun j u hu => HO3.out.1.cells rfl j u hu) ?a4 (by omega) (by unfold maxLen; omega) (by omega) ?_
                 case a1 => rw [List.length_take, hml]; omega
                 case a2 =>
                   rintro b hb j u hu
                   cases hb
                   rw [List.getElem?_take] at hu
                   split at hu
                   · exact (HL9.out.step HO3.out.2 (by simp)).cells rfl j u hu
                   · cases hu
                 case a3 => rw [List.length_append, List.length_drop, hml]; simp; omega
                 case a4 =>
                   intro u hu
                   rcases List.mem_append.1 hu with hu | hu
                   · exact onC_one ⟨xk, xp, xo⟩ u hu
                   · exact flatO_one L u (List.mem_of_mem_drop hu)
                 intro v4 w4 ho4 hg4
                 have st4 : Step [] w3 w4 := (Step.refl [] _).grown hg4 (fun q hq => by cases hq)
                 have HO4 := Lib.hid (And.intro ho4 st4)
                 clear ho4 hg4 st4))
            all_goals
              have HF := Lib.hid (srt_end (i := i) (k := k) HN.out HLL.out hlt hki HX.out HH.out.2 HL.out HW.out.1 HS9.out HO3.out.2 HO4.out.2 (by simpa [Nat.add_comm, Nat.add_assoc, Nat.add_left_comm, flatO, onC] using HO4.out.1) HK1.out HK2.out)
              go_simp
              go_wp2_with fail
              go_roundw
              case rel =>
                obtain ⟨L', f1, f2, f3, f4⟩ := HF.out
                exact ⟨i + 1, L', by go_num, by omega, f1, f2, f3, f4⟩
              case measure => simp [intOf]; omega
        · obtain rfl : i = k := by omega
          have q1 : decide ((i : Int) < (i : Int)) = false := by simp
          have hk2 : i < i → ahB (L.getD i on0) ⟨xk, xp, xo⟩ = false := fun h => absurd h (Nat.lt_irrefl _)
          have HK2 := Lib.hid hk2
          have hml : (flatO L).length = i * 3 := by rw [flatO_len, HLL.out]
          clear hk2 hL7
          go_wp2_with fail
          refine region_cls (G := Step [] wr.drew) (by kernel_rfl) (by kernel_rfl) (Step.refl _ _) ?_
          repeat (go_big_quiet_step (fail))
          refine wpQuiet_nil ?_
          rintro w9 ⟨⟨w9x, hw9⟩, hq9⟩
          dsimp only at hq9
          subst hq9
          have HS9 := Lib.hid (HS7.out.then ((Step.refl [] wr).drew.then hw9 (by simp)) (by simp))
          clear d0 d1 d2 hw9 hne
          have hB9 := HW.out.2.1.step HS9.out (by simp)
          have x0 := hB9.cell 0
          have x1 := hB9.cell 1
          have x2 := hB9.cell 2
          simp only [List.getElem?_toArray, List.getElem?_cons_zero, List.getElem?_cons_succ] at x0 x1 x2
          have HL9 := Lib.hid ((HL.out.1.step HW.out.1 (by simp)).step HS9.out (by simp))
          clear hB9
          cases lo with
          | none =>
            obtain ⟨hi0', rfl⟩ := HLA.out.1 rfl
            have hL0 : L = [] := List.eq_nil_of_length_eq_zero hi0'
            subst hL0
            obtain rfl : i = 0 := by have := HLL.out; simpa using this.symm
            rw [show ((0 : Nat) : Int) = 0 from rfl]
            have HLn := trivial
            go_wp2_with fail
            go_region_law (first
              | (refine step_append_none rfl (.tmp 32) (.tmp 35) 39 rfl w9.heap.size 33 i0 3 Try.underlying39 hi0 _ 1 _ (by rfl) ((owns_one (base := w9.heap.size) (e := 33) (size := 3) (C := #[.string xk, .int .i64 xp, .int .u64 xo]) (w := w9) (Nat.le_refl _) rfl).drew) (by rfl) ?_
                 have HO3 := Lib.hid (And.intro (((owns_one (base := w9.heap.size) (e := 33) (size := 3) (C := #[.string xk, .int .i64 xp, .int .u64 xo]) (w := w9) (Nat.le_refl _) rfl).drew) : (w9.alloc (.cells #[.string xk, .int .i64 xp, .int .u64 xo] 33)).drew.ownsRow _ _ _ _ _ _) (((Step.refl [] w9).alloc (.cells #[.string xk, .int .i64 xp, .int .u64 xo] 33)).drew)))
              | (refine step_append_grows rfl (.tmp 30) (.tmp 36) 39 rfl 33 i0 _ 3 32 Try.underlying39 hi0 hz0 hz1 hz2 rfl (by decide) none 0 0 [] (by rfl) (fun _ => ⟨rfl, rfl⟩) rfl (fun b hb => by cases hb) ⟨w9.heap.size, 0, none⟩ 1 1 (onC ⟨xk, xp, xo⟩) (by rfl) rfl (fun j u hu => HO3.out.1.cells rfl j u hu) ?a4 (by omega) (by unfold maxLen; omega) (by omega) ?_
                 case a4 =>
                   intro u hu
                   exact onC_one _ u hu
                 intro v4 w4 ho4 hg4
                 have st4 : Step [] ((w9.alloc (.cells #[.string xk, .int .i64 xp, .int .u64 xo] 33)).drew) w4 := (Step.refl [] _).grown hg4 (fun q hq => by cases hq)
                 have HO4 := Lib.hid (And.intro ho4 st4)
                 clear ho4 hg4 st4))
            all_goals
              have HF := Lib.hid (srt_end (i := 0) (k := 0) HN.out HLL.out hlt hki HX.out HH.out.2 HL.out HW.out.1 HS9.out HO3.out.2 HO4.out.2 (by simpa [Nat.add_comm, Nat.add_assoc, Nat.add_left_comm, flatO, onC, HLn] using HO4.out.1) HK1.out HK2.out)
              go_simp
              go_wp2_with fail
              go_roundw
              case rel =>
                obtain ⟨L', f1, f2, f3, f4⟩ := HF.out
                exact ⟨0 + 1, L', by go_num, by omega, f1, f2, f3, f4⟩
              case measure => simp [intOf]; omega
          | some ad =>
            obtain ⟨g2, rfl⟩ := HLA.out.2 ad rfl
            have hlc : i ≤ lc := by
              rcases HL9.out.2 with ⟨hv, _⟩ | ⟨g', c', cur, hv, _, _, hle, _⟩
              · cases hv
              · cases hv
                rw [HLL.out] at hle
                exact hle
            have q3 : (i : Int) ≤ (lc : Int) := by omega
            by_cases hci : lc = i
            · obtain rfl : i = lc := hci.symm
              go_wp2_with fail
              go_region_law (first
                | (refine step_append_own rfl (.tmp 32) (.tmp 35) 39 rfl w9.heap.size 33 i0 _ 3 32 Try.underlying39 hi0 hz0 hz1 hz2 rfl (by decide) _ 1 [.string xk, .int .i64 xp, .int .u64 xo] (by rfl) ((owns_one (base := w9.heap.size) (e := 33) (size := 3) (C := #[.string xk, .int .i64 xp, .int .u64 xo]) (w := w9) (Nat.le_refl _) rfl).drew) ⟨g2, 0, none⟩ 0 0 ((flatO L).drop (i * 3)) (by rfl) ?h1 ?h2 ?h3 ?h4 ?h5 ?h6 ?_
                   case h1 => rw [List.length_drop, hml]; omega
                   case h2 =>
                     intro j u hu
                     rw [List.drop_eq_nil_of_le (by rw [hml]; omega)] at hu
                     cases hu
                   case h3 => exact fun u hu => flatO_one L u (List.mem_of_mem_drop hu)
                   case h4 => unfold maxLen; omega
                   case h5 => omega
                   case h6 => show w9.heap.size ≤ (w9.alloc _).heap.size; rw [World.size_alloc]; omega
                   intro v3 w3 ho3 hs3 hf3
                   have st3 : Step [] w9 w3 := (((Step.refl [] w9).alloc (.cells #[.string xk, .int .i64 xp, .int .u64 xo] 33)).drew).then hs3 (fun q hq => by simp [foot, Value.ownBlock] at hq; exact .inr (by omega))
                   obtain ⟨g3, c3, rfl, hle3⟩ := ons_ge ho3 (by omega)
                   have HO3 := Lib.hid (And.intro ho3 st3)
                   clear ho3 hs3 hf3 st3 hle3)
                | (refine step_append_grows rfl (.tmp 30) (.tmp 36) 39 rfl 33 i0 _ 3 32 Try.underlying39 hi0 hz0 hz1 hz2 rfl (by decide) (some ⟨g2, 0, none⟩) i i ((flatO L).take (i * 3)) (by rfl) (fun hb => by cases hb) ?a1 ?a2 ⟨g3, 0, none⟩ (1 + 0) c3 ([.string xk, .int .i64 xp, .int .u64 xo] ++ (flatO L).drop (i * 3)) (by rfl) ?a3 (fun j u hu => HO3.out.1.cells rfl j u hu) ?a4 (by omega) (by unfold maxLen; omega) (by omega) ?_
                   case a1 => rw [List.length_take, hml]; omega
                   case a2 =>
                     rintro b hb j u hu
                     cases hb
                     rw [List.getElem?_take] at hu
                     split at hu
                     · exact (HL9.out.step HO3.out.2 (by simp)).cells rfl j u hu
                     · cases hu
                   case a3 => rw [List.length_append, List.length_drop, hml]; simp <;> omega
                   case a4 =>
                     intro u hu
                     rcases List.mem_append.1 hu with hu | hu
                     · exact onC_one ⟨xk, xp, xo⟩ u hu
                     · exact flatO_one L u (List.mem_of_mem_drop hu)
                   intro v4 w4 ho4 hg4
                   have st4 : Step [] w3 w4 := (Step.refl [] _).grown hg4 (fun q hq => by cases hq)
                   have HO4 := Lib.hid (And.intro ho4 st4)
                   clear ho4 hg4 st4))
              all_goals
                have HF := Lib.hid (srt_end (i := i) (k := i) HN.out HLL.out hlt hki HX.out HH.out.2 HL.out HW.out.1 HS9.out HO3.out.2 HO4.out.2 (by simpa [Nat.add_comm, Nat.add_assoc, Nat.add_left_comm, flatO, onC] using HO4.out.1) HK1.out HK2.out)
                go_simp
                go_wp2_with fail
                go_roundw
                case rel =>
                  obtain ⟨L', f1, f2, f3, f4⟩ := HF.out
                  exact ⟨i + 1, L', by go_num, by omega, f1, f2, f3, f4⟩
                case measure => simp [intOf]; omega
            · go_wp2_with fail
              go_region_law (first
                | (refine step_append_own rfl (.tmp 32) (.tmp 35) 39 rfl w9.heap.size 33 i0 _ 3 32 Try.underlying39 hi0 hz0 hz1 hz2 rfl (by decide) _ 1 [.string xk, .int .i64 xp, .int .u64 xo] (by rfl) ((owns_one (base := w9.heap.size) (e := 33) (size := 3) (C := #[.string xk, .int .i64 xp, .int .u64 xo]) (w := w9) (Nat.le_refl _) rfl).drew) ⟨g2, i * 3, none⟩ 0 (lc - i) ((flatO L).drop (i * 3)) (by rfl) ?h1 ?h2 ?h3 ?h4 ?h5 ?h6 ?_
                   case h1 => rw [List.length_drop, hml]; omega
                   case h2 =>
                     intro j u hu
                     rw [List.drop_eq_nil_of_le (by rw [hml]; omega)] at hu
                     cases hu
                   case h3 => exact fun u hu => flatO_one L u (List.mem_of_mem_drop hu)
                   case h4 => unfold maxLen; omega
                   case h5 => omega
                   case h6 => show w9.heap.size ≤ (w9.alloc _).heap.size; rw [World.size_alloc]; omega
                   intro v3 w3 ho3 hs3 hf3
                   have st3 : Step [] w9 w3 := (((Step.refl [] w9).alloc (.cells #[.string xk, .int .i64 xp, .int .u64 xo] 33)).drew).then hs3 (fun q hq => by simp [foot, Value.ownBlock] at hq; exact .inr (by omega))
                   obtain ⟨g3, c3, rfl, hle3⟩ := ons_ge ho3 (by omega)
                   have HO3 := Lib.hid (And.intro ho3 st3)
                   clear ho3 hs3 hf3 st3 hle3)
                | (refine step_append_grows rfl (.tmp 30) (.tmp 36) 39 rfl 33 i0 _ 3 32 Try.underlying39 hi0 hz0 hz1 hz2 rfl (by decide) (some ⟨g2, 0, none⟩) i i ((flatO L).take (i * 3)) (by rfl) (fun hb => by cases hb) ?a1 ?a2 ⟨g3, 0, none⟩ (1 + 0) c3 ([.string xk, .int .i64 xp, .int .u64 xo] ++ (flatO L).drop (i * 3)) (by rfl) ?a3 (fun j u hu => HO3.out.1.cells rfl j u hu) ?a4 (by omega) (by unfold maxLen; omega) (by omega) ?_
                   case a1 => rw [List.length_take, hml]; omega
                   case a2 =>
                     rintro b hb j u hu
                     cases hb
                     rw [List.getElem?_take] at hu
                     split at hu
                     · exact (HL9.out.step HO3.out.2 (by simp)).cells rfl j u hu
                     · cases hu
                   case a3 => rw [List.length_append, List.length_drop, hml]; simp <;> omega
                   case a4 =>
                     intro u hu
                     rcases List.mem_append.1 hu with hu | hu
                     · exact onC_one ⟨xk, xp, xo⟩ u hu
                     · exact flatO_one L u (List.mem_of_mem_drop hu)
                   intro v4 w4 ho4 hg4
                   have st4 : Step [] w3 w4 := (Step.refl [] _).grown hg4 (fun q hq => by cases hq)
                   have HO4 := Lib.hid (And.intro ho4 st4)
                   clear ho4 hg4 st4))
              all_goals
                have HF := Lib.hid (srt_end (i := i) (k := i) HN.out HLL.out hlt hki HX.out HH.out.2 HL.out HW.out.1 HS9.out HO3.out.2 HO4.out.2 (by simpa [Nat.add_comm, Nat.add_assoc, Nat.add_left_comm, flatO, onC] using HO4.out.1) HK1.out HK2.out)
                go_simp
                go_wp2_with fail
                go_roundw
                case rel =>
                  obtain ⟨L', f1, f2, f3, f4⟩ := HF.out
                  exact ⟨i + 1, L', by go_num, by omega, f1, f2, f3, f4⟩
                case measure => simp [intOf]; omega
    · obtain rfl : n = i := by omega
      have p1 : ¬ (n : Int) < (n : Int) := by omega
      go_wp2_with fail
      go_ret
      exact ⟨_, L, rfl, HL.out.1, by have := HL.out.2.1; rwa [List.take_of_length_le (by rw [HN.out]; omega)] at this, HL.out.2.2.1, HL.out.2.2.2⟩
end Rd
end Go.Proofs.Ytebgojcecgimaaa
end

section
namespace Go.Proofs.Ytebgojcecgimaaa
set_option linter.unusedVariables false
set_option linter.unusedSimpArgs false
open Go.RowKit
namespace Rd
def tg (p : Nat) (x : It) : On := ⟨x.1, (p : Int), x.2⟩
def tags (S : Nat → List It) : List On := (S 0).map (tg 0) ++ ((S 1).map (tg 1) ++ ((S 2).map (tg 2) ++ (S 3).map (tg 3)))
theorem mem_tags {S : Nat → List It} {y : On} : y ∈ tags S ↔ ∃ p, p < 4 ∧ y.p = (p : Nat) ∧ (y.nm, y.o) ∈ S p := by
  unfold tags
  simp only [List.mem_append, List.mem_map]
  constructor
  · rintro (⟨x, h, rfl⟩ | ⟨x, h, rfl⟩ | ⟨x, h, rfl⟩ | ⟨x, h, rfl⟩)
    · exact ⟨0, by omega, rfl, h⟩
    · exact ⟨1, by omega, rfl, h⟩
    · exact ⟨2, by omega, rfl, h⟩
    · exact ⟨3, by omega, rfl, h⟩
  · obtain ⟨k, q, o⟩ := y
    rintro ⟨p, hp, h1, h2⟩
    dsimp only at h1 h2
    subst h1
    rcases (by omega : p = 0 ∨ p = 1 ∨ p = 2 ∨ p = 3) with rfl | rfl | rfl | rfl
    · exact .inl ⟨_, h2, rfl⟩
    · exact .inr (.inl ⟨_, h2, rfl⟩)
    · exact .inr (.inr (.inl ⟨_, h2, rfl⟩))
    · exact .inr (.inr (.inr ⟨_, h2, rfl⟩))
theorem srt_tg {p : Nat} {s : List It} (h : Hp.Srt HpE.lt s) : (s.map (tg p)).Pairwise (fun a b => ahB a b = true) := by
  rw [List.pairwise_map]
  unfold Hp.Srt at h
  refine List.Pairwise.imp ?_ h
  intro a b hab
  exact ahB_true.2 (.inr ⟨rfl, hab⟩)
theorem srt_tags {S : Nat → List It} (h : SrtR S) : Hp.Srt ahB (tags S) := by
  unfold Hp.Srt tags
  have key : ∀ p q (a b : On), p < q → a ∈ (S p).map (tg p) → b ∈ (S q).map (tg q) → ahB a b = true := by
    intro p q a b hpq ha hb
    obtain ⟨x, _, rfl⟩ := List.mem_map.1 ha
    obtain ⟨y, _, rfl⟩ := List.mem_map.1 hb
    exact ahB_true.2 (.inl (by simp [tg]; omega))
  refine List.pairwise_append.2 ⟨srt_tg (h 0 (by omega)), List.pairwise_append.2 ⟨srt_tg (h 1 (by omega)), List.pairwise_append.2 ⟨srt_tg (h 2 (by omega)), srt_tg (h 3 (by omega)), ?_⟩, ?_⟩, ?_⟩
  · exact fun a ha b hb => key 2 3 a b (by omega) ha hb
  · intro a ha b hb
    rcases List.mem_append.1 hb with hb | hb
    · exact key 1 2 a b (by omega) ha hb
    · exact key 1 3 a b (by omega) ha hb
  · intro a ha b hb
    rcases List.mem_append.1 hb with hb | hb
    · exact key 0 1 a b (by omega) ha hb
    · rcases List.mem_append.1 hb with hb | hb
      · exact key 0 2 a b (by omega) ha hb
      · exact key 0 3 a b (by omega) ha hb
theorem tags_all (S : Nat → List It) : (tags S).map (fun y => (y.nm, y.o)) = allS S := by
  rw [allS_eq]
  simp [tags, Function.comp_def, tg]
/-- the model says what the row has -/
structure RelM (S : Nat → List It) (m : List On) : Prop where
  mem : ∀ y, y ∈ m ↔ y ∈ tags S
  nd : (m.map (fun y => y.nm)).Nodup
theorem RelM.nil : RelM (fun _ => []) [] := ⟨fun y => by simp [tags], List.nodup_nil⟩
theorem nodup_of_map {α β : Type} {f : α → β} : ∀ {l : List α}, (l.map f).Nodup → l.Nodup
  | [], _ => List.nodup_nil
  | x :: r, h => by
    rw [List.map_cons, List.nodup_cons] at h
    exact List.nodup_cons.2 ⟨fun hm => h.1 (List.mem_map_of_mem hm), nodup_of_map h.2⟩
theorem RelM.nodup {S : Nat → List It} {m : List On} (h : RelM S m) : m.Nodup := nodup_of_map h.nd
theorem RelM.sorted {S : Nat → List It} {m L : List On} (h : RelM S m) (hs : SrtR S) (hp : L.Perm m) (hl : Hp.Srt ahB L) : L = tags S :=
  Hp.srt_ext ordA hl (srt_tags hs) fun x => by rw [hp.mem_iff, h.mem]
theorem hasK_iff {s : List It} {k : ByteArray} : HpE.hasK s k = true ↔ ∃ x, x ∈ s ∧ x.1 = k := by
  unfold HpE.hasK
  simp [List.any_eq_true]
theorem hasR_iff {S : Nat → List It} {k : ByteArray} : hasR S k = true ↔ ∃ p, p < 4 ∧ ∃ x, x ∈ S p ∧ x.1 = k := by
  constructor
  · intro h
    unfold hasR at h
    simp only [Bool.or_eq_true] at h
    rcases h with ((h | h) | h) | h
    · exact ⟨0, by omega, hasK_iff.1 h⟩
    · exact ⟨1, by omega, hasK_iff.1 h⟩
    · exact ⟨2, by omega, hasK_iff.1 h⟩
    · exact ⟨3, by omega, hasK_iff.1 h⟩
  · rintro ⟨p, hp, h⟩
    exact hasR_at hp (hasK_iff.2 h)
theorem RelM.has {S : Nat → List It} {m : List On} (h : RelM S m) {k : ByteArray} : hasR S k = true ↔ ∃ y, y ∈ m ∧ y.nm = k := by
  rw [hasR_iff]
  constructor
  · rintro ⟨p, hp, x, hx, rfl⟩
    exact ⟨⟨x.1, (p : Int), x.2⟩, (h.mem _).2 (mem_tags.2 ⟨p, hp, rfl, hx⟩), rfl⟩
  · rintro ⟨y, hy, rfl⟩
    obtain ⟨p, hp, _, h2⟩ := mem_tags.1 ((h.mem y).1 hy)
    exact ⟨p, hp, _, h2, rfl⟩
theorem RelM.no {S : Nat → List It} {m : List On} (h : RelM S m) {k : ByteArray} (hn : ∀ y, y ∈ m → y.nm ≠ k) : hasR S k = false := by
  cases e : hasR S k with
  | false => rfl
  | true =>
    obtain ⟨y, hy, e2⟩ := h.has.1 e
    exact absurd e2 (hn y hy)
theorem RelM.put {S : Nat → List It} {m : List On} (h : RelM S m) {k : ByteArray} {p : Nat} {o : Int} (hp : p < 4) (hn : ∀ y, y ∈ m → y.nm ≠ k) :
    RelM (upd S p (Hp.ins HpE.lt (k, o) (Hp.wok k (S p)))) (m ++ [⟨k, (p : Int), o⟩]) := by
  have hh := h.no hn
  have hk : HpE.hasK (S p) k = false := by
    cases e : HpE.hasK (S p) k with
    | false => rfl
    | true => rw [hasR_at hp e] at hh; cases hh
  rw [wok_none hk]
  refine ⟨fun y => ?_, ?_⟩
  · rw [List.mem_append, h.mem, mem_tags, mem_tags]
    constructor
    · rintro (⟨q, hq, h1, h2⟩ | hy)
      · refine ⟨q, hq, h1, ?_⟩
        by_cases e : q = p
        · subst e; rw [upd_same, Hp.mem_ins]; exact .inr h2
        · rw [upd_ne e]; exact h2
      · simp only [List.mem_cons, List.not_mem_nil, or_false] at hy
        subst hy
        exact ⟨p, hp, rfl, by rw [upd_same, Hp.mem_ins]; exact .inl rfl⟩
    · rintro ⟨q, hq, h1, h2⟩
      by_cases e : q = p
      · subst e
        rw [upd_same, Hp.mem_ins] at h2
        rcases h2 with h2 | h2
        · right
          obtain ⟨a, b, c⟩ := y
          dsimp only at h1 h2
          injection h2 with e1 e2
          subst e1 e2 h1
          simp
        · exact .inl ⟨q, hq, h1, h2⟩
      · rw [upd_ne e] at h2
        exact .inl ⟨q, hq, h1, h2⟩
  · rw [List.map_append, List.nodup_append]
    refine ⟨h.nd, by simp, fun a ha b hb => ?_⟩
    simp only [List.map_cons, List.map_nil, List.mem_cons, List.not_mem_nil, or_false] at hb
    obtain ⟨y, hy, rfl⟩ := List.mem_map.1 ha
    rw [hb]
    exact hn y hy
theorem mem_erase {m : List On} (hn : (m.map (fun y => y.nm)).Nodup) {i : Nat} (hi : i < m.length) {y : On} : y ∈ m.eraseIdx i ↔ y ∈ m ∧ y.nm ≠ (m.getD i on0).nm := by
  have e : m.getD i on0 = m[i] := by simp [List.getD, hi]
  rw [e]
  have hsp : m = m.take i ++ m[i] :: m.drop (i + 1) := by rw [← List.drop_eq_getElem_cons hi, List.take_append_drop]
  have hn2 := hn
  rw [hsp, List.map_append, List.map_cons, List.nodup_append, List.nodup_cons] at hn2
  obtain ⟨n1, ⟨n2, n3⟩, n4⟩ := hn2
  rw [List.eraseIdx_eq_take_drop_succ, List.mem_append]
  constructor
  · rintro (h | h)
    · refine ⟨List.mem_of_mem_take h, fun e => ?_⟩
      exact n4 _ (List.mem_map_of_mem (f := fun y : On => y.nm) h) _ List.mem_cons_self e
    · refine ⟨List.mem_of_mem_drop h, fun e => n2 ?_⟩
      rw [← e]
      exact List.mem_map_of_mem (f := fun y : On => y.nm) h
  · rintro ⟨h1, h2⟩
    rw [hsp] at h1
    rcases List.mem_append.1 h1 with h1 | h1
    · exact .inl h1
    · rcases List.mem_cons.1 h1 with rfl | h1
      · exact absurd rfl h2
      · exact .inr h1
theorem erase_nd {m : List On} (hn : (m.map (fun y => y.nm)).Nodup) (i : Nat) : ((m.eraseIdx i).map (fun y => y.nm)).Nodup := by
  have : (m.eraseIdx i).Sublist m := List.eraseIdx_sublist m i
  exact hn.sublist (this.map _)
/-- a name goes: of the line that has it -/
theorem RelM.cut {S : Nat → List It} {m : List On} (h : RelM S m) {p i : Nat} (hp : p < 4) (hi : i < m.length) (hk : HpE.hasK (S p) (m.getD i on0).nm = true) :
    RelM (upd S p (Hp.wok (m.getD i on0).nm (S p))) (m.eraseIdx i) := by
  refine ⟨fun y => ?_, erase_nd h.nd i⟩
  rw [mem_erase h.nd hi, h.mem, mem_tags, mem_tags]
  constructor
  · rintro ⟨⟨q, hq, h1, h2⟩, h3⟩
    refine ⟨q, hq, h1, ?_⟩
    by_cases e : q = p
    · subst e; rw [upd_same, Hp.mem_wok]; exact ⟨h2, h3⟩
    · rw [upd_ne e]; exact h2
  · rintro ⟨q, hq, h1, h2⟩
    by_cases e : q = p
    · subst e
      rw [upd_same, Hp.mem_wok] at h2
      exact ⟨⟨q, hq, h1, h2.1⟩, h2.2⟩
    · rw [upd_ne e] at h2
      refine ⟨⟨q, hq, h1, h2⟩, fun e2 => ?_⟩
      -- the same name in two lines
      obtain ⟨x, hx, hxk⟩ := hasK_iff.1 hk
      have y1 : y ∈ m := (h.mem y).2 (mem_tags.2 ⟨q, hq, h1, h2⟩)
      have y2 : (⟨x.1, (p : Int), x.2⟩ : On) ∈ m := (h.mem _).2 (mem_tags.2 ⟨p, hp, rfl, hx⟩)
      have y3 : ∀ a b : On, a ∈ m → b ∈ m → a.nm = b.nm → a = b := by
        have hnd := h.nd
        clear h hi hk hxk h1 h2 e2 y1 y2
        induction m with
        | nil => intro a b ha; cases ha
        | cons c r ih =>
          rw [List.map_cons, List.nodup_cons] at hnd
          intro a b ha hb e
          rcases List.mem_cons.1 ha with rfl | ha2 <;> rcases List.mem_cons.1 hb with rfl | hb2
          · rfl
          · exact absurd (List.mem_map.2 ⟨b, hb2, e.symm⟩) hnd.1
          · exact absurd (List.mem_map.2 ⟨a, ha2, e⟩) hnd.1
          · exact ih hnd.2 a b ha2 hb2 e
      have y4 := y3 y _ y1 y2 (by rw [e2]; exact hxk.symm)
      rw [y4] at h1
      simp at h1
      omega
theorem RelM.none {S : Nat → List It} {m : List On} (h : RelM S m) : allS S = [] ↔ m = [] := by
  constructor
  · intro h1
    rw [← tags_all, List.map_eq_nil_iff] at h1
    cases m with
    | nil => rfl
    | cons y r =>
      have := (h.mem y).1 (by simp)
      rw [h1] at this
      cases this
  · rintro rfl
    rw [← tags_all, List.map_eq_nil_iff]
    cases e : tags S with
    | nil => rfl
    | cons y r =>
      have := (h.mem y).2 (by rw [e]; simp)
      cases this
/-- one is taken: it goes from the model too -/
theorem RelM.taken {S S' : Nat → List It} {m : List On} (h : RelM S m) (hk : ∀ p, p < 4 → ((S p).map (fun x => x.1)).Nodup) (ht : Taken S S') {i : Nat} (hi : i < m.length) (hn : (m.getD i on0).nm = (hdA (allS S)).1) (hne : allS S ≠ []) :
    RelM S' (m.eraseIdx i) := by
  rcases ht with ⟨h1, _⟩ | ⟨p, x, t, hp, hSp, hno, rfl⟩
  · exact absurd h1 hne
  · have hh : hdA (allS S) = (x.1, true) := by
      rw [allS_eq]
      rcases (by omega : p = 0 ∨ p = 1 ∨ p = 2 ∨ p = 3) with rfl | rfl | rfl | rfl
      · rw [hSp]; rfl
      · rw [hno 0 (by omega), hSp]; rfl
      · rw [hno 0 (by omega), hno 1 (by omega), hSp]; rfl
      · rw [hno 0 (by omega), hno 1 (by omega), hno 2 (by omega), hSp]; rfl
    rw [hh] at hn
    dsimp only at hn
    have h2 := h.cut hp hi (by rw [hSp, hn]; exact hasK_head x t)
    have hkp := hk p hp
    rw [hSp] at hkp
    rw [hn, hSp, Hp.wok_head hkp] at h2
    exact h2
/-- a row, its model, and some blocks of the call's own, apart -/
def Pr (w1 : World) (rb : Nat) (S : Nat → List It) (mv : Value) (m : List On) (X : List Nat) (w : World) : Prop :=
  ∃ base hb F, w1.heap.size ≤ base ∧ Rw w base rb hb S F ∧ Ons w w1.heap.size mv m ∧ Dj (foot mv) (footR rb F) ∧ Step [] w1 w ∧ Dj X (footR rb F) ∧ Dj X (foot mv) ∧ (∀ k, k ∈ X → w1.heap.size ≤ k ∧ k < w.heap.size)
section
variable {w1 w w' : World} {rb : Nat} {S : Nat → List It} {mv : Value} {m : List On} {X : List Nat}
theorem Pr.stepX (h : Pr w1 rb S mv m X w) (hs : Step X w w') : Pr w1 rb S mv m X w' := by
  obtain ⟨base, hb, F, h1, h2, h3, h4, h5, h6, h7, h8⟩ := h
  exact ⟨base, hb, F, h1, h2.step hs (fun k hk hm => h6 k hm hk), h3.step hs (fun k hk hm => h7 k hm hk), h4, h5.then hs (fun k hk => .inr (h8 k hk).1), h6, h7, fun k hk => ⟨(h8 k hk).1, Nat.lt_of_lt_of_le (h8 k hk).2 hs.size⟩⟩
theorem Pr.step (h : Pr w1 rb S mv m X w) (hs : Step [] w w') : Pr w1 rb S mv m X w' := h.stepX (hs.mono (by simp))
theorem Pr.st (h : Pr w1 rb S mv m X w) : Step [] w1 w := by
  obtain ⟨base, hb, F, h1, h2, h3, h4, h5, _⟩ := h
  exact h5
theorem Pr.srt (h : Pr w1 rb S mv m X w) : SrtR S := by
  obtain ⟨base, hb, F, h1, h2, _⟩ := h
  exact fun p hp => (h2.hs p hp).srt
theorem Pr.keys (h : Pr w1 rb S mv m X w) : ∀ p, p < 4 → ((S p).map (fun x => x.1)).Nodup := by
  obtain ⟨base, hb, F, h1, h2, _⟩ := h
  exact fun p hp => (h2.hs p hp).keys
theorem Pr.ons (h : Pr w1 rb S mv m X w) : Ons w w1.heap.size mv m := by
  obtain ⟨base, hb, F, h1, h2, h3, _⟩ := h
  exact h3
theorem Pr.noX (h : Pr w1 rb S mv m X w) {Y : List Nat} (hY : ∀ k, k ∈ Y → k ∈ X) : Pr w1 rb S mv m Y w := by
  obtain ⟨base, hb, F, h1, h2, h3, h4, h5, h6, h7, h8⟩ := h
  exact ⟨base, hb, F, h1, h2, h3, h4, h5, fun k hk => h6 k (hY k hk), fun k hk => h7 k (hY k hk), fun k hk => h8 k (hY k hk)⟩
theorem Pr.add (h : Pr w1 rb S mv m X w) (hs : Step [] w w') {b : Nat} (hb1 : w.heap.size ≤ b) (hb2 : b < w'.heap.size) : Pr w1 rb S mv m (b :: X) w' := by
  obtain ⟨base, hb, F, h1, h2, h3, h4, h5, h6, h7, h8⟩ := h
  have hsz := h5.size
  refine ⟨base, hb, F, h1, h2.step0 hs, h3.step hs (by simp), h4, h5.then hs (by simp), fun k hk hm => ?_, fun k hk hm => ?_, fun k hk => ?_⟩
  · rcases List.mem_cons.1 hk with rfl | hk
    · have := h2.liveR _ hm
      omega
    · exact h6 k hk hm
  · rcases List.mem_cons.1 hk with rfl | hk
    · have := owns_live h3 _ hm
      omega
    · exact h7 k hk hm
  · rcases List.mem_cons.1 hk with rfl | hk
    · omega
    · exact ⟨(h8 k hk).1, Nat.lt_of_lt_of_le (h8 k hk).2 hs.size⟩
/-- a new row of the model -/
theorem Pr.model (h : Pr w1 rb S mv m X w) (hs : Step [] w w') {mv' : Value} {m' : List On} (ho : Ons w' w.heap.size mv' m') : Pr w1 rb S mv' m' X w' := by
  obtain ⟨base, hb, F, h1, h2, h3, h4, h5, h6, h7, h8⟩ := h
  have hlow : ∀ k, k ∈ foot mv' → w.heap.size ≤ k := fun k hk => owns_base ho k hk
  refine ⟨base, hb, F, h1, h2.step0 hs, owns_low ho h5.size, fun k hk hm => ?_, h5.then hs (by simp), h6, fun k hk hm => ?_, fun k hk => ⟨(h8 k hk).1, Nat.lt_of_lt_of_le (h8 k hk).2 hs.size⟩⟩
  · have := hlow k hk
    have := h2.liveR k hm
    omega
  · have := hlow k hm
    have := (h8 k hk).2
    omega
/-- the model grows -/
theorem Pr.grow (h : Pr w1 rb S mv m X w) {w6 : World} (h6 : Step [] w w6) {mv' : Value} {y : On} (ho : w'.ownsRow w1.heap.size 33 3 mv' (m.length + 1) (flatO m ++ onC y)) (hg : w6.grownBy w' mv.ownBlock) (hf : Fresh w6 (foot mv) (foot mv')) : Pr w1 rb S mv' (m ++ [y]) X w' := by
  obtain ⟨base, hb, F, h1, h2, h3, h4, h5, k6, h7, h8⟩ := h
  have hS : Step (foot mv) w w' := (h6.mono (by simp)).grown hg (fun j hj => .inl (mem_foot.2 hj))
  refine ⟨base, hb, F, h1, h2.step hS (fun k hk hm => h4 k hm hk), ?_, fun k hk hm => ?_, h5.then hS (fun k hk => .inr (owns_base h3 k hk)), k6, fun k hk hm => ?_, fun k hk => ⟨(h8 k hk).1, Nat.lt_of_lt_of_le (h8 k hk).2 hS.size⟩⟩
  · unfold Ons
    rw [List.length_append, List.length_singleton, flatO_app]
    simpa [flatO] using ho
  · rcases hf k hk with h9 | h9
    · exact h4 k h9 hm
    · have := h2.liveR k hm
      have := h6.size
      omega
  · rcases hf k hm with h9 | h9
    · exact h7 k hk h9
    · have := (h8 k hk).2
      have := h6.size
      omega
theorem Pr.made (h : RwN w1 rb S w) : Pr w1 rb S (.slice none 0 0) [] [] w := by
  obtain ⟨base, hb, F, h1, h2, h3⟩ := h
  exact ⟨base, hb, F, h1, h2, Ons.nil _ _, fun k hk => by simp [foot, Value.ownBlock] at hk, h3, fun k hk => absurd hk List.not_mem_nil, fun k hk => absurd hk List.not_mem_nil, fun k hk => absurd hk List.not_mem_nil⟩
/-- the row turns -/
theorem Pr.row {base : Nat} {hb : Nat → Nat} {F F' : Nat → List Nat} {S' : Nat → List It} (hl : w1.heap.size ≤ base) (hR : Rw w base rb hb S F) (hM : Ons w w1.heap.size mv m) (hd : Dj (foot mv) (footR rb F)) (h5 : Step [] w1 w) (h6 : Dj X (footR rb F)) (h7 : Dj X (foot mv)) (h8 : ∀ k, k ∈ X → w1.heap.size ≤ k ∧ k < w.heap.size)
    (hR' : Rw w' base rb hb S' F') (hs : Step (footR rb F) w w') (hf : Fresh w (footR rb F) (footR rb F')) : Pr w1 rb S' mv m X w' ∧ ∀ k, k ∈ X → w'.heap[k]? = w.heap[k]? :=
  ⟨⟨base, hb, F', hl, hR', hM.step hs hd, hd.fresh (owns_live hM) hf, h5.then hs (fun k hk => .inr (Nat.le_trans hl (hR.lowR k hk))), h6.fresh (fun k hk => (h8 k hk).2) hf, h7, fun k hk => ⟨(h8 k hk).1, Nat.lt_of_lt_of_le (h8 k hk).2 hs.size⟩⟩, fun k hk => hs.block k (h8 k hk).2 (h6 k hk)⟩
theorem Pr.has (h : Pr w1 rb S mv m X w) (k : ByteArray) (hg : HpE.good k) : Calls Try.prog 13 #[.pointer (some ⟨rb, 0, none⟩), .string k] w fun e w' => e = .returned (.bool (hasR S k)) ∧ w = w' := by
  obtain ⟨base, hb, F, h1, h2, _⟩ := h
  exact has_any h2 k hg
theorem Pr.len (h : Pr w1 rb S mv m X w) (p : Nat) (hp : p < 4) : Calls Try.prog 19 #[.pointer (some ⟨rb, 0, none⟩), .int .i64 p] w fun e w' => e = .returned (.int .i64 ((S p).length : Int)) ∧ w = w' := by
  obtain ⟨base, hb, F, h1, h2, _⟩ := h
  exact len_any h2 p hp
theorem Pr.next (h : Pr w1 rb S mv m X w) : Calls Try.prog 18 #[.pointer (some ⟨rb, 0, none⟩)] w fun e w' => e = .returned (.tuple #[.string (hdA (allS S)).1, .bool (hdA (allS S)).2]) ∧ Step [] w w' := by
  obtain ⟨base, hb, F, h1, h2, _⟩ := h
  exact next_any h2
theorem Pr.put (h : Pr w1 rb S mv m X w) (k : ByteArray) (p : Nat) (o : Int) (hp : p < 4) (hg : HpE.good k) (hh : hasR S k = false) (hfew : (S p).length < 1000) :
    Calls Try.prog 9 #[.pointer (some ⟨rb, 0, none⟩), .string k, .int .i64 p, .int .u64 o] w fun e w' => e = .returned (.int .i64 0) ∧ Pr w1 rb (upd S p (Hp.ins HpE.lt (k, o) (Hp.wok k (S p)))) mv m X w' ∧ ∀ k, k ∈ X → w'.heap[k]? = w.heap[k]? := by
  obtain ⟨base, hb, F, h1, h2, h3, h4, h5, h6, h7, h8⟩ := h
  refine (put_any h2 k p o hp hg hh hfew).mono ?_
  rintro e w' ⟨rfl, F', k1, k2, k3⟩
  exact ⟨rfl, Pr.row h1 h2 h3 h4 h5 h6 h7 h8 k1 k2 k3⟩
theorem Pr.putSame (h : Pr w1 rb S mv m X w) (k : ByteArray) (p : Nat) (o : Int) (hp : p < 4) (hg : HpE.good k) (hh : hasR S k = true) :
    Calls Try.prog 9 #[.pointer (some ⟨rb, 0, none⟩), .string k, .int .i64 p, .int .u64 o] w fun e w' => e = .returned (.int .i64 8) ∧ w = w' := by
  obtain ⟨base, hb, F, h1, h2, _⟩ := h
  exact put_same h2 k p o hp hg hh
theorem Pr.putFar (h : Pr w1 rb S mv m X w) (k : ByteArray) (p o : Int) (hp : p < 0 ∨ 4 ≤ p) :
    Calls Try.prog 9 #[.pointer (some ⟨rb, 0, none⟩), .string k, .int .i64 p, .int .u64 o] w fun e w' => e = .returned (.int .i64 3) ∧ w = w' := by
  obtain ⟨base, hb, F, h1, h2, _⟩ := h
  exact put_far h2 k p o hp
/-- a cut, told of the model -/
theorem Pr.cut (h : Pr w1 rb S mv m X w) (hm : RelM S m) (k : ByteArray) (hg : HpE.good k) :
    Calls Try.prog 14 #[.pointer (some ⟨rb, 0, none⟩), .string k] w fun e w' => ∃ S', e = .returned (.bool (hasR S k)) ∧ Pr w1 rb S' mv m X w' ∧ (∀ k, k ∈ X → w'.heap[k]? = w.heap[k]?) ∧
      (((∀ y, y ∈ m → y.nm ≠ k) → RelM S' m) ∧ ∀ i, i < m.length → (m.getD i on0).nm = k → RelM S' (m.eraseIdx i)) := by
  obtain ⟨base, hb, F, h1, h2, h3, h4, h5, h6, h7, h8⟩ := h
  refine (cut_any h2 k hg).mono ?_
  rintro e w' ⟨S', F', k1, k2, k3, k4⟩
  obtain ⟨hP, hX⟩ := Pr.row h1 h2 h3 h4 h5 h6 h7 h8 k1 k2 k3
  rcases k4 with ⟨hn, rfl, rfl⟩ | ⟨p, hp, hk, hno, rfl, rfl⟩
  · refine ⟨_, by rw [hn], hP, hX, fun _ => hm, fun i hi e => ?_⟩
    have := (hm.has (k := k)).2 ⟨m[i], List.getElem_mem hi, by rw [← e]; simp [List.getD, hi]⟩
    rw [hn] at this
    cases this
  · refine ⟨_, by rw [hasR_at hp hk], hP, hX, fun hno => ?_, fun i hi e => ?_⟩
    · have := hm.no hno
      rw [hasR_at hp hk] at this
      cases this
    · subst e
      exact hm.cut hp hi hk
theorem Pr.take (h : Pr w1 rb S mv m X w) : Calls Try.prog 10 #[.pointer (some ⟨rb, 0, none⟩)] w fun e w' => e = .returned (.tuple #[.string (hdA (allS S)).1, .bool (hdA (allS S)).2]) ∧ ∃ S', Taken S S' ∧ Pr w1 rb S' mv m X w' ∧ ∀ k, k ∈ X → w'.heap[k]? = w.heap[k]? := by
  obtain ⟨base, hb, F, h1, h2, h3, h4, h5, h6, h7, h8⟩ := h
  refine (take_any h2).mono ?_
  rintro e w' ⟨S', F', rfl, k1, k2, k3, k4⟩
  exact ⟨rfl, S', k4, Pr.row h1 h2 h3 h4 h5 h6 h7 h8 k1 k2 k3⟩
theorem Pr.copy (h : Pr w1 rb S mv m X w) : Calls Try.prog 16 #[.pointer (some ⟨rb, 0, none⟩)] w fun e w' => ∃ cb, e = .returned (.pointer (some ⟨cb, 0, none⟩)) ∧ RwN w cb S w' := by
  obtain ⟨base, hb, F, h1, h2, _⟩ := h
  refine (copy_any h2).mono ?_
  rintro e w' ⟨hb', F', rfl, k1, k2⟩
  exact ⟨_, rfl, _, hb', F', Nat.le_refl _, k1, k2⟩
end
/-- another one is put into a copy -/
theorem put_other {w0 w : World} {cb : Nat} {S : Nat → List It} (h : RwN w0 cb S w) (k : ByteArray) (o : Int) (hg : HpE.good k) (hfew : (S 0).length < 1000) :
    Calls Try.prog 9 #[.pointer (some ⟨cb, 0, none⟩), .string k, .int .i64 0, .int .u64 o] w fun e w' => (∃ r : Int, e = .returned (.int .i64 r)) ∧ Step [] w0 w' := by
  cases hh : hasR S k with
  | false =>
    refine (put_n h k 0 o (by omega) hg hh hfew).mono ?_
    rintro e w' ⟨rfl, h2⟩
    exact ⟨⟨_, rfl⟩, h2.st⟩
  | true =>
    obtain ⟨base, hb, F, h1, h2, h3⟩ := h
    refine (put_same h2 k 0 o (by omega) hg hh).mono ?_
    rintro e w' ⟨rfl, rfl⟩
    exact ⟨⟨_, rfl⟩, h3⟩
end Rd
end Go.Proofs.Ytebgojcecgimaaa
end

section
namespace Go.Proofs.Ytebgojcecgimaaa
set_option linter.unusedVariables false
set_option linter.unusedSimpArgs false
open Go.RowKit
namespace Rd
/-- a row, its model, and what lies in some blocks of the call's own -/
def Pz (w1 : World) (rb : Nat) (S : Nat → List It) (mv : Value) (m : List On) (XO : List (Nat × Obj)) (w : World) : Prop :=
  Pr w1 rb S mv m (XO.map Prod.fst) w ∧ ∀ x, x ∈ XO → w.heap[x.1]? = some x.2
section
variable {w1 w w' : World} {rb : Nat} {S S' : Nat → List It} {mv mv' : Value} {m m' : List On} {XO : List (Nat × Obj)}
theorem Pz.of (h : Pz w1 rb S mv m XO w) (h' : Pr w1 rb S' mv' m' (XO.map Prod.fst) w') (hk : ∀ k, k ∈ XO.map Prod.fst → w'.heap[k]? = w.heap[k]?) : Pz w1 rb S' mv' m' XO w' :=
  ⟨h', fun x hx => (hk x.1 (List.mem_map_of_mem hx)).trans (h.2 x hx)⟩
theorem Pz.same (h : Pz w1 rb S mv m XO w) (hs : Step [] w w') : ∀ k, k ∈ XO.map Prod.fst → w'.heap[k]? = w.heap[k]? := fun k hk => by
  obtain ⟨base, hb, F, h1, h2, h3, h4, h5, h6, h7, h8⟩ := h.1
  exact hs.block k (h8 k hk).2 (by simp)
theorem Pz.step (h : Pz w1 rb S mv m XO w) (hs : Step [] w w') : Pz w1 rb S mv m XO w' := h.of (h.1.step hs) (h.same hs)
theorem Pz.model (h : Pz w1 rb S mv m XO w) (hs : Step [] w w') (ho : Ons w' w.heap.size mv' m') : Pz w1 rb S mv' m' XO w' := h.of (h.1.model hs ho) (h.same hs)
theorem Pz.grow (h : Pz w1 rb S mv m XO w) {w6 : World} (h6 : Step [] w w6) {y : On} (ho : w'.ownsRow w1.heap.size 33 3 mv' (m.length + 1) (flatO m ++ onC y)) (hg : w6.grownBy w' mv.ownBlock) (hf : Fresh w6 (foot mv) (foot mv')) : Pz w1 rb S mv' (m ++ [y]) XO w' := by
  refine h.of (h.1.grow h6 ho hg hf) (fun k hk => ?_)
  obtain ⟨base, hb, F, h1, h2, h3, h4, h5, h6', h7, h8⟩ := h.1
  have hS : Step (foot mv) w w' := (h6.mono (by simp)).grown hg (fun j hj => .inl (mem_foot.2 hj))
  exact hS.block k (h8 k hk).2 (h7 k hk)
theorem Pz.add (h : Pz w1 rb S mv m XO w) (hs : Step [] w w') {b : Nat} {o : Obj} (hb1 : w.heap.size ≤ b) (ho : w'.heap[b]? = some o) : Pz w1 rb S mv m ((b, o) :: XO) w' := by
  have hb2 : b < w'.heap.size := (Array.getElem?_eq_some_iff.1 ho).1
  refine ⟨h.1.add hs hb1 hb2, fun x hx => ?_⟩
  rcases List.mem_cons.1 hx with rfl | hx
  · exact ho
  · exact (h.step hs).2 x hx
theorem Pz.noX (h : Pz w1 rb S mv m XO w) {XO' : List (Nat × Obj)} (hX : ∀ x, x ∈ XO' → x ∈ XO) : Pz w1 rb S mv m XO' w :=
  ⟨h.1.noX (fun k hk => by obtain ⟨x, hx, rfl⟩ := List.mem_map.1 hk; exact List.mem_map_of_mem (hX x hx)), fun x hx => h.2 x (hX x hx)⟩
/-- some of the blocks are written -/
theorem Pz.set (h : Pz w1 rb S mv m XO w) {XO' : List (Nat × Obj)} (hk : XO'.map Prod.fst = XO.map Prod.fst) (hs : Step (XO.map Prod.fst) w w') (ho : ∀ x, x ∈ XO' → w'.heap[x.1]? = some x.2) : Pz w1 rb S mv m XO' w' :=
  ⟨by rw [hk]; exact h.1.stepX hs, ho⟩
theorem Pz.blk (h : Pz w1 rb S mv m XO w) {b : Nat} {C : Array Value} {T : TypeId} (hb : (b, Obj.cells C T (0, 0)) ∈ XO) : Blk w b C T := h.2 _ hb
theorem Pz.st (h : Pz w1 rb S mv m XO w) : Step [] w1 w := h.1.st
theorem Pz.put (h : Pz w1 rb S mv m XO w) (k : ByteArray) (p : Nat) (o : Int) (hp : p < 4) (hg : HpE.good k) (hh : hasR S k = false) (hfew : (S p).length < 1000) :
    Calls Try.prog 9 #[.pointer (some ⟨rb, 0, none⟩), .string k, .int .i64 p, .int .u64 o] w fun e w' => e = .returned (.int .i64 0) ∧ Pz w1 rb (upd S p (Hp.ins HpE.lt (k, o) (Hp.wok k (S p)))) mv m XO w' := by
  refine (h.1.put k p o hp hg hh hfew).mono ?_
  rintro e w' ⟨rfl, h1, h2⟩
  exact ⟨rfl, h.of h1 h2⟩
theorem Pz.cut (h : Pz w1 rb S mv m XO w) (hm : RelM S m) (k : ByteArray) (hg : HpE.good k) :
    Calls Try.prog 14 #[.pointer (some ⟨rb, 0, none⟩), .string k] w fun e w' => ∃ S', e = .returned (.bool (hasR S k)) ∧ Pz w1 rb S' mv m XO w' ∧
      (((∀ y, y ∈ m → y.nm ≠ k) → RelM S' m) ∧ ∀ i, i < m.length → (m.getD i on0).nm = k → RelM S' (m.eraseIdx i)) := by
  refine (h.1.cut hm k hg).mono ?_
  rintro e w' ⟨S', rfl, h1, h2, h3⟩
  exact ⟨S', rfl, h.of h1 h2, h3⟩
theorem Pz.take (h : Pz w1 rb S mv m XO w) : Calls Try.prog 10 #[.pointer (some ⟨rb, 0, none⟩)] w fun e w' => e = .returned (.tuple #[.string (hdA (allS S)).1, .bool (hdA (allS S)).2]) ∧ ∃ S', Taken S S' ∧ Pz w1 rb S' mv m XO w' := by
  refine h.1.take.mono ?_
  rintro e w' ⟨rfl, S', h1, h2, h3⟩
  exact ⟨rfl, S', h1, h.of h2 h3⟩
end

/-- an act -/
structure Ac where
  kind : Int
  prio : Int
  name : ByteArray
  order : Int
def ac0 : Ac := ⟨0, 0, ByteArray.empty, 0⟩
/-- acts that are only read -/
def Acts (w : World) (a : Option Addr) (l : List Ac) : Prop :=
  ∀ i, i < l.length → ∃ b off, a = some ⟨b, off, none⟩ ∧ b < w.heap.size ∧ w.cell? ⟨b, off + i * 4, none⟩ = some (.int .i64 (l.getD i ac0).kind) ∧ w.cell? ⟨b, off + i * 4 + 1, none⟩ = some (.int .i64 (l.getD i ac0).prio)
    ∧ w.cell? ⟨b, off + i * 4 + 2, none⟩ = some (.string (l.getD i ac0).name) ∧ w.cell? ⟨b, off + i * 4 + 3, none⟩ = some (.int .u64 (l.getD i ac0).order) ∧ (Lit.int .i64 (l.getD i ac0).prio).wf = true ∧ (l.getD i ac0).name.size ≤ maxLen
theorem Acts.step {w w' : World} {a : Option Addr} {l : List Ac} (h : Acts w a l) (hs : Step [] w w') : Acts w' a l := fun i hi => by
  obtain ⟨b, off, ha, hlt, h0, h1, h2, h3, h4⟩ := h i hi
  exact ⟨b, off, ha, Nat.lt_of_lt_of_le hlt hs.size, (hs.cell hlt (by simp)).trans h0, (hs.cell hlt (by simp)).trans h1, (hs.cell hlt (by simp)).trans h2, (hs.cell hlt (by simp)).trans h3, h4⟩
theorem choose_ltA {p : Nat → Ac → Prop} {n : Nat} (h : ∀ i, i < n → ∃ x, p i x) : ∃ f : Nat → Ac, ∀ i, i < n → p i (f i) := by
  refine ⟨fun i => if h' : i < n then (h i h').choose else ac0, fun i hi => ?_⟩
  simp only [hi, dite_true]
  exact (h i hi).choose_spec
open Go.ChangeShapes Go.WideShapes Go.Deep in
theorem str_field {H : Type} {enc : TypeId × Value → H} {P : Program} {w : World} {base : Nat} {spare : Nat → Bool} {held : Bool} {t : TypeId} {n : Nat} {u : Value} {y : DataW H × List MemPlace} (ht : P.underlying t = some .string) (h : DataW.trod enc P w base spare held n t [u] = some y) : ∃ x : ByteArray, u = .string x ∧ x.size ≤ maxLen := by
  obtain ⟨x, h1, h2⟩ := DataW.trod_string ht h
  exact ⟨x, by simpa using h1, by first | exact h2 | exact h2.2⟩
set_option maxRecDepth 20000 in
open Go.ChangeShapes Go.WideShapes Go.Deep in
theorem open_acts {H : Type} {enc : TypeId × Value → H} {w : World} {base : Nat} {v : Value} {d : DataW H} {p : List MemPlace} (ho : Value.okWide Try.prog w .any base 38 v) (h : DataW.Trod enc Try.prog w 0 (fun _ => true) true 38 v d p) :
    ∃ (a : Option Addr) (cap : Nat) (vs : List Ac), v = .slice a vs.length cap ∧ Acts w a vs := by
  obtain ⟨a, len, cap, rfl⟩ := okWide_slice Try.underlying38 ho
  obtain ⟨fuel, hf⟩ := h
  rcases open_slice Try.underlying38 hf with ⟨hcs, _⟩ | ⟨x, l, c, m, n, D, Pl, hcs, _, hl, hm, hmm, _, hi⟩
  · simp [Value.cells] at hcs
    obtain ⟨rfl, rfl, rfl⟩ := hcs
    exact ⟨none, 0, [], rfl, fun i hi => by simp at hi⟩
  · simp [Value.cells] at hcs
    obtain ⟨rfl, rfl, rfl⟩ := hcs
    have hmc : m = cap := by simpa using hmm
    subst hmc
    have hce : Try.prog.cellsOf 41 = 4 := by kernel_rfl
    have each : ∀ i, i < len → ∃ q : Ac, w.cell? (x.add (i * 4)) = some (.int .i64 q.kind) ∧ w.cell? (x.add (i * 4 + 1)) = some (.int .i64 q.prio) ∧ w.cell? (x.add (i * 4 + 2)) = some (.string q.name) ∧ w.cell? (x.add (i * 4 + 3)) = some (.int .u64 q.order) ∧ (Lit.int .i64 q.prio).wf = true ∧ q.name.size ≤ maxLen := fun i hil => by
      obtain ⟨cs', h1, h2⟩ := hi i (by omega)
      rw [hce] at h1
      obtain ⟨_, hlen, hcell⟩ := World.cells?_some h1
      obtain ⟨xs, k, hk, hxy, _, hxl, hf⟩ := DataW.trod_struct Try.underlying41 h2
      match xs, hxl, cs', hlen with
      | [y0, y1, y2, y3], _, [v0, v1, v2, v3], _ =>
        have g0 := hf 0 _ rfl
        have g1 := hf 1 _ rfl
        have g2 := hf 2 _ rfl
        have g3 := hf 3 _ rfl
        have k3 : Try.prog.cellsOf 3 = 1 := by kernel_rfl
        have k4 : Try.prog.cellsOf 9 = 1 := by kernel_rfl
        have k5 : Try.prog.cellsOf 31 = 1 := by kernel_rfl
        simp [k3, k4, k5] at g0 g1 g2 g3
        obtain ⟨z0, rfl, hw0⟩ := int_field Try.underlying3 g0
        obtain ⟨z1, rfl, hw1⟩ := int_field Try.underlying3 g1
        obtain ⟨z2, rfl, hw2⟩ := str_field Try.underlying9 g2
        obtain ⟨z3, rfl, hw3⟩ := int_field Try.underlying31 g3
        have e0 := hcell 0 (by omega)
        have e1 := hcell 1 (by omega)
        have e2 := hcell 2 (by omega)
        have e3 := hcell 3 (by omega)
        rw [add_add] at e0 e1 e2 e3
        simp at e0 e1 e2 e3
        exact ⟨⟨z0, z1, z2, z3⟩, e0, e1, e2, e3, hw1, hw2⟩
    obtain ⟨q, hq⟩ := choose_ltA each
    refine ⟨some x, m, (List.range len).map q, by simp, fun i hil => ?_⟩
    have hil' : i < len := by simpa using hil
    obtain ⟨h0, h1, h2, h3, h4⟩ := hq i hil'
    obtain ⟨b, off, spot⟩ := x
    have hspot : spot = none := by simpa [Addr.add] using World.cell?_spot (hq 0 (by omega)).1
    subst hspot
    rw [Go.Proofs.Ytebgojcecgimaaa.add_plain] at h0 h1 h2 h3
    have hg : ((List.range len).map q).getD i ac0 = q i := by simp [List.getD, hil']
    rw [hg]
    exact ⟨b, off, rfl, World.block_lt_of_cell? w _ h0, h0, by rw [Nat.add_assoc]; exact h1, by rw [Nat.add_assoc]; exact h2, by rw [Nat.add_assoc]; exact h3, h4⟩
/-- one of four counts -/
def at4 (c : Nat → Int) (p : Int) : Int := if 0 ≤ p ∧ p ≤ 3 then c p.toNat else 0
set_option maxHeartbeats 1000000 in
theorem at_any (c : Nat → Int) (p : Int) (w : World) :
    Calls Try.prog 20 #[.agg #[.int .i64 (c 0), .int .i64 (c 1), .int .i64 (c 2), .int .i64 (c 3)], .int .i64 p] w fun e w' => e = .returned (.int .i64 (at4 c p)) ∧ Step [] w w' := by
  have HS := Lib.hid ((Step.refl [] w).alloc (.cells #[.int .i64 (c 0), .int .i64 (c 1), .int .i64 (c 2), .int .i64 (c 3)] 46))
  by_cases h : 0 ≤ p ∧ p ≤ 3
  · have e : at4 c p = c p.toNat := if_pos h
    rw [e]
    obtain ⟨h0, h3⟩ := h
    rcases (by omega : p = 0 ∨ p = 1 ∨ p = 2 ∨ p = 3) with rfl | rfl | rfl | rfl
    all_goals
      clear e
      go_enter Try.func20, Try.ntmps20
      go_wp2_with fail
      go_ret
      exact ⟨rfl, HS.out⟩
  · have e : at4 c p = 0 := if_neg h
    rw [e]
    clear e
    by_cases h0 : p < 0
    · go_enter Try.func20, Try.ntmps20
      go_wp2_with fail
      go_ret
      exact ⟨rfl, HS.out⟩
    · have h3 : 3 < p := by omega
      have h0' : ¬ p < 0 := h0
      clear h
      go_enter Try.func20, Try.ntmps20
      go_wp2_with fail
      all_goals go_ret
      all_goals exact ⟨rfl, HS.out⟩
end Rd
end Go.Proofs.Ytebgojcecgimaaa
end

section
namespace Go.Proofs.Ytebgojcecgimaaa
set_option linter.unusedVariables false
set_option linter.unusedSimpArgs false
open Go.RowKit Go.Shelf
attribute [local go_sem] Oper.semAt_some
namespace Rd
set_option maxRecDepth 100000 in
theorem lit221 (f : Nat → Value) : litN 221 f = #[f 0, f 1, f 2, f 3, f 4, f 5, f 6, f 7, f 8, f 9, f 10, f 11, f 12, f 13, f 14, f 15, f 16, f 17, f 18, f 19, f 20, f 21, f 22, f 23, f 24, f 25, f 26, f 27, f 28, f 29, f 30, f 31, f 32, f 33, f 34, f 35, f 36, f 37, f 38, f 39, f 40, f 41, f 42, f 43, f 44, f 45, f 46, f 47, f 48, f 49, f 50, f 51, f 52, f 53, f 54, f 55, f 56, f 57, f 58, f 59, f 60, f 61, f 62, f 63, f 64, f 65, f 66, f 67, f 68, f 69, f 70, f 71, f 72, f 73, f 74, f 75, f 76, f 77, f 78, f 79, f 80, f 81, f 82, f 83, f 84, f 85, f 86, f 87, f 88, f 89, f 90, f 91, f 92, f 93, f 94, f 95, f 96, f 97, f 98, f 99, f 100, f 101, f 102, f 103, f 104, f 105, f 106, f 107, f 108, f 109, f 110, f 111, f 112, f 113, f 114, f 115, f 116, f 117, f 118, f 119, f 120, f 121, f 122, f 123, f 124, f 125, f 126, f 127, f 128, f 129, f 130, f 131, f 132, f 133, f 134, f 135, f 136, f 137, f 138, f 139, f 140, f 141, f 142, f 143, f 144, f 145, f 146, f 147, f 148, f 149, f 150, f 151, f 152, f 153, f 154, f 155, f 156, f 157, f 158, f 159, f 160, f 161, f 162, f 163, f 164, f 165, f 166, f 167, f 168, f 169, f 170, f 171, f 172, f 173, f 174, f 175, f 176, f 177, f 178, f 179, f 180, f 181, f 182, f 183, f 184, f 185, f 186, f 187, f 188, f 189, f 190, f 191, f 192, f 193, f 194, f 195, f 196, f 197, f 198, f 199, f 200, f 201, f 202, f 203, f 204, f 205, f 206, f 207, f 208, f 209, f 210, f 211, f 212, f 213, f 214, f 215, f 216, f 217, f 218, f 219, f 220] := rfl
theorem len_sub {α : Type} : ∀ {L m : List α}, L.Nodup → (∀ y, y ∈ L → y ∈ m) → L.length ≤ m.length
  | [], m, _, _ => Nat.zero_le _
  | x :: r, m, hn, h => by
    obtain ⟨s, t, rfl⟩ := List.append_of_mem (h x List.mem_cons_self)
    obtain ⟨h1, h2⟩ := List.nodup_cons.1 hn
    have := len_sub (L := r) (m := s ++ t) h2 (fun y hy => by
      have h3 := h y (List.mem_cons_of_mem _ hy)
      rw [List.mem_append, List.mem_cons] at h3
      rw [List.mem_append]
      rcases h3 with h3 | rfl | h3
      · exact .inl h3
      · exact absurd hy h1
      · exact .inr h3)
    simp only [List.length_append, List.length_cons] at this ⊢
    omega
def dO (D : Nat) : Nat × Obj := (D, .deferred (some []))
/-- what stands at the head of a round -/
structure PHead (w : World) (a : Option Addr) (n cap rb : Nat) (f : Nat → Value) (wr : World) (Ds : List Nat) (i : Nat) (S : Nat → List It) (mv : Value) (m : List On) : Prop where
  f0 : f 0 = .slice a n cap
  f2 : f 2 = .pointer (some ⟨w.heap.size, 0, none⟩)
  f3 : f 3 = .pointer (some ⟨rb, 0, none⟩)
  f4 : f 4 = mv
  f29 : f 29 = .slice a n cap
  f30 : f 30 = .int .i64 (n : Int)
  f31 : f 31 = .int .i64 (i : Int)
  le : i ≤ n
  pz : Pz w rb S mv m ((w.heap.size, .cells #[.bool false] 4 (0, 0)) :: Ds.map dO) wr
  rel : RelM S m
  few : m.length ≤ i
  nd : Ds.Nodup
theorem leave_plays {w wr : World} {rb : Nat} {S : Nat → List It} {mv : Value} {m : List On} {Ds : List Nat} {T : TypeId} {tmps : Array Value} {Q : Ending → World → Prop} (h : Pz w rb S mv m ((w.heap.size, .cells #[.bool true] T (0, 0)) :: Ds.map dO) wr) (hn : Ds.Nodup)
    (h2 : tmps[2]?.getD undef = .pointer (some ⟨w.heap.size, 0, none⟩)) (hQ : ∀ w', Step [] w w' → Q (.returned (.bool true)) w') :
    LeavesInM Fence.wide 3 Try.prog Try.f4 tmps Q (mks Ds) .returning wr := by
  have hm : MarksOk wr Ds := ⟨hn, fun D hD => h.2 (dO D) (List.mem_cons_of_mem _ (List.mem_map_of_mem hD))⟩
  have hb : Blk wr w.heap.size #[.bool true] T := h.blk (by simp)
  have hne : w.heap.size ∉ Ds := fun hd => by
    have h3 := hm.obj _ hd
    unfold Blk at hb
    rw [hb] at h3
    cases h3
  refine leaves_marks Ds wr hm (fun w' hs => ?_)
  have c0 := (hb.step hs hne).cell 0
  simp only [List.getElem?_toArray, List.getElem?_cons_zero] at c0
  refine ⟨.bool true, ?_, hQ w' ?_⟩
  · simp [results, Try.f4, go_sem, c0, h2]
  · obtain ⟨base, hb', F, h1, k2, h3, h4, h5, h6, h7, h8⟩ := h.1
    exact h5.then hs (fun k hk => .inr (h8 k (by simp only [List.map_cons, List.map_map]; exact List.mem_cons_of_mem _ (List.mem_map.2 ⟨k, hk, rfl⟩))).1)
/-- how many of the first q are of a priority -/
def cntT (L : List On) (q : Nat) (p : Nat) : Int := (((L.take q).filter fun y => decide (y.p = (p : Int))).length : Nat)
theorem cntT_zero (L : List On) (p : Nat) : cntT L 0 p = 0 := by simp [cntT]
theorem cntT_succ {L : List On} {q : Nat} (h : q < L.length) (p : Nat) : cntT L (q + 1) p = if (L.getD q on0).p = (p : Int) then cntT L q p + 1 else cntT L q p := by
  have e : L.getD q on0 = L[q] := by simp [List.getD, h]
  unfold cntT
  rw [List.take_succ_eq_append_getElem h, List.filter_append, List.length_append, e]
  by_cases hp : L[q].p = (p : Int)
  · simp [hp]
  · simp [hp]
theorem cntT_le (L : List On) (q p : Nat) : 0 ≤ cntT L q p ∧ cntT L q p ≤ L.length := by
  unfold cntT
  have h1 := List.length_filter_le (fun y : On => decide (y.p = (p : Int))) (L.take q)
  have h2 := List.length_take_le' q L
  omega
theorem filt_tg (s : List It) (p q : Nat) : ((s.map (tg p)).filter fun y => decide (y.p = (q : Int))).length = if p = q then s.length else 0 := by
  by_cases e : p = q
  · subst e
    rw [if_pos rfl, List.filter_eq_self.2 (fun y hy => by obtain ⟨x, _, rfl⟩ := List.mem_map.1 hy; simp [tg]), List.length_map]
  · rw [if_neg e, List.filter_eq_nil_iff.2 (fun y hy => by obtain ⟨x, _, rfl⟩ := List.mem_map.1 hy; intro h; have h2 : (p : Int) = (q : Int) := of_decide_eq_true h; omega)]
    rfl
theorem cntT_full (S : Nat → List It) {p : Nat} (hp : p < 4) : cntT (tags S) (tags S).length p = ((S p).length : Int) := by
  unfold cntT tags
  rw [List.take_length]
  simp only [List.filter_append, List.length_append, filt_tg]
  rcases (by omega : p = 0 ∨ p = 1 ∨ p = 2 ∨ p = 3) with rfl | rfl | rfl | rfl <;> simp
theorem Pz.setAdd {w1 w w' : World} {rb : Nat} {S : Nat → List It} {mv : Value} {m : List On} {XO XO' : List (Nat × Obj)} {D : Nat} {o : Obj} (h : Pz w1 rb S mv m XO w) (hk : XO'.map Prod.fst = XO.map Prod.fst) (hs : Step (XO.map Prod.fst) w w') (ho : ∀ x, x ∈ XO' → w'.heap[x.1]? = some x.2)
    (hD : w.heap.size ≤ D) (hDo : w'.heap[D]? = some o) : Pz w1 rb S mv m ((D, o) :: XO') w' := by
  have h2 := h.set hk hs ho
  obtain ⟨⟨base, hb, F, h1, k2, h3, h4, h5, h6, h7, h8⟩, _⟩ := h
  obtain ⟨⟨_, _, _, _, _, _, _, _, _, _, _⟩, k9⟩ := h2
  have hst := h5.size
  refine ⟨⟨base, hb, F, h1, k2.step hs (fun k hk' hm => h6 k hm hk'), h3.step hs (fun k hk' hm => h7 k hm hk'), h4, h5.then hs (fun k hk' => .inr (h8 k hk').1), fun k hk' hm => ?_, fun k hk' hm => ?_, fun k hk' => ?_⟩, fun x hx => ?_⟩
  · simp only [List.map_cons, List.mem_cons, hk] at hk'
    rcases hk' with rfl | hk'
    · have := k2.liveR _ hm; omega
    · exact h6 k hk' hm
  · simp only [List.map_cons, List.mem_cons, hk] at hk'
    rcases hk' with rfl | hk'
    · have := owns_live h3 _ hm; omega
    · exact h7 k hk' hm
  · simp only [List.map_cons, List.mem_cons, hk] at hk'
    rcases hk' with rfl | hk'
    · exact ⟨by omega, (Array.getElem?_eq_some_iff.1 hDo).1⟩
    · exact ⟨(h8 k hk').1, Nat.lt_of_lt_of_le (h8 k hk').2 hs.size⟩
  · rcases List.mem_cons.1 hx with rfl | hx
    · exact hDo
    · exact k9 x hx
/-- some blocks that were made since are put to those that are known -/
theorem Pz.addAll {w1 w w' : World} {rb : Nat} {S : Nat → List It} {mv : Value} {m : List On} {XO : List (Nat × Obj)} (h : Pz w1 rb S mv m XO w) (hs : Step [] w w') : ∀ (NO : List (Nat × Obj)), (∀ x, x ∈ NO → w.heap.size ≤ x.1 ∧ w'.heap[x.1]? = some x.2) → Pz w1 rb S mv m (NO ++ XO) w'
  | [], _ => h.step hs
  | x :: NO, hN => by
    have h2 := Pz.addAll h hs NO (fun y hy => hN y (List.mem_cons_of_mem _ hy))
    obtain ⟨h3, h4⟩ := hN x List.mem_cons_self
    obtain ⟨⟨base, hb, F, h1, k2, k3, k4, k5, k6, k7, k8⟩, k9⟩ := h
    have hsz := k5.size
    obtain ⟨p1, p2⟩ := h2
    refine ⟨⟨base, hb, F, h1, k2.step0 hs, k3.step hs (by simp), k4, k5.then hs (by simp), fun k hk hm => ?_, fun k hk hm => ?_, fun k hk => ?_⟩, fun y hy => ?_⟩
    · simp only [List.map_append, List.map_cons, List.cons_append, List.mem_cons, List.mem_append] at hk
      rcases hk with rfl | hk | hk
      · have := k2.liveR _ hm; omega
      · obtain ⟨y, hy, rfl⟩ := List.mem_map.1 hk
        have := (hN y (List.mem_cons_of_mem _ hy)).1
        have := k2.liveR _ hm; omega
      · exact k6 k hk hm
    · simp only [List.map_append, List.map_cons, List.cons_append, List.mem_cons, List.mem_append] at hk
      rcases hk with rfl | hk | hk
      · have := owns_live k3 _ hm; omega
      · obtain ⟨y, hy, rfl⟩ := List.mem_map.1 hk
        have := (hN y (List.mem_cons_of_mem _ hy)).1
        have := owns_live k3 _ hm; omega
      · exact k7 k hk hm
    · simp only [List.map_append, List.map_cons, List.cons_append, List.mem_cons, List.mem_append] at hk
      rcases hk with rfl | hk | hk
      · exact ⟨by omega, (Array.getElem?_eq_some_iff.1 h4).1⟩
      · obtain ⟨y, hy, rfl⟩ := List.mem_map.1 hk
        have h5 := hN y (List.mem_cons_of_mem _ hy)
        exact ⟨by omega, (Array.getElem?_eq_some_iff.1 h5.2).1⟩
      · exact ⟨(k8 k hk).1, Nat.lt_of_lt_of_le (k8 k hk).2 hs.size⟩
    · rcases List.mem_cons.1 hy with rfl | hy
      · exact h4
      · exact p2 y hy
/-- what the range over a row keeps -/
def RgI (R : List Nat) (nb cb : Nat) (L : List On) (W : World) (q : Nat) (A : World) (C : List Nat) : Prop :=
  C = offR R W.heap.size ∧ Step (nb :: cb :: R) W A ∧ Blk A nb #[.int .i64 (q : Int)] 3 ∧ Blk A cb #[.int .i64 (cntT L q 0), .int .i64 (cntT L q 1), .int .i64 (cntT L q 2), .int .i64 (cntT L q 3)] 46 ∧ nb < W.heap.size ∧ cb < W.heap.size ∧ nb ∉ R ∧ cb ∉ R
theorem RgI.step {R : List Nat} {nb cb : Nat} {L : List On} {W : World} {q : Nat} {A B : World} {C H : List Nat} (h : RgI R nb cb L W q A C) (hs : Step H A B) (hd : Dj C H) : RgI R nb cb L W q B C := by
  obtain ⟨rfl, h1, h2, h3, h4, h5, h6, h7⟩ := h
  refine ⟨rfl, h1.then hs (fun k hk => ?_), h2.step hs (hd nb (mem_offR.2 ⟨h4, h6⟩)), h3.step hs (hd cb (mem_offR.2 ⟨h5, h7⟩)), h4, h5, h6, h7⟩
  by_cases hR : k ∈ R
  · exact .inl (by simp [hR])
  · rcases Nat.lt_or_ge k W.heap.size with hlt | hge
    · exact absurd hk (hd k (mem_offR.2 ⟨hlt, hR⟩))
    · exact .inr hge
theorem RgI.live {R : List Nat} {nb cb : Nat} {L : List On} {W : World} {q : Nat} {A : World} {C : List Nat} (h : RgI R nb cb L W q A C) : Live A C := by
  obtain ⟨rfl, h1, _⟩ := h
  exact fun k hk => Nat.lt_of_lt_of_le (mem_offR.1 hk).1 h1.size
theorem RgI.dj {R : List Nat} {nb cb : Nat} {L : List On} {W : World} {q : Nat} {A : World} {C : List Nat} (h : RgI R nb cb L W q A C) : Dj R C := by rw [h.1]; exact offR_dj
theorem dO_ne {w wr : World} {b : Nat} {C : Array Value} {T : TypeId} {Ds : List Nat} (hb : Blk wr b C T) (h : ∀ x, x ∈ Ds.map dO → wr.heap[x.1]? = some x.2) : ∀ x, x ∈ Ds.map dO → x.1 ≠ b := fun x hx e => by
  have h1 := h x hx
  obtain ⟨D, _, rfl⟩ := List.mem_map.1 hx
  unfold Blk at hb
  rw [e, hb] at h1
  cases h1
/-- the result is stored -/
theorem Pz.fin {w wr : World} {rb : Nat} {S : Nat → List It} {mv : Value} {m : List On} {Ds : List Nat} {T : TypeId} {c v : Value} (h : Pz w rb S mv m ((w.heap.size, .cells #[c] T (0, 0)) :: Ds.map dO) wr) :
    Pz w rb S mv m ((w.heap.size, .cells #[v] T (0, 0)) :: Ds.map dO) (wr.setCell ⟨w.heap.size, 0, none⟩ v) := by
  have hb : Blk wr w.heap.size #[c] T := h.blk List.mem_cons_self
  refine h.set rfl ((Step.refl _ wr).setCell (.inl (by simp)) 0 v) (fun x hx => ?_)
  rcases List.mem_cons.1 hx with rfl | hx
  · exact hb.set 0 v
  · exact (heap_setCell_other wr ⟨w.heap.size, 0, none⟩ x.1 v (dO_ne (w := w) hb (fun y hy => h.2 y (List.mem_cons_of_mem _ hy)) x hx)).trans (h.2 x (List.mem_cons_of_mem _ hx))
set_option maxRecDepth 100000 in
set_option maxHeartbeats 8000000 in
theorem plays_in (a : Option Addr) (cap : Nat) (l : List Ac) (w : World) (hA : Acts w a l) (hlen : l.length ≤ 80) :
    Calls Try.prog 4 #[.slice a l.length cap] w fun e w' => e = .returned (.bool true) ∧ Step [] w w' := by
  obtain ⟨i0, hi0, hz0, hz1, hz2⟩ := infoO_parts
  have HA := Lib.hid hA
  obtain ⟨n, hn⟩ : ∃ n, l.length = n := ⟨_, rfl⟩
  have HN := Lib.hid hn
  rw [hn] at hlen ⊢
  clear hA hn
  have q1 : ((80 : Int) < (n : Int)) = False := by simp; omega
  have hb0 := Blk.new w #[.bool false] 4
  have hs0 := (Step.refl [] w).alloc (.cells #[.bool false] 4)
  obtain ⟨W0, hW0⟩ : ∃ W, w.alloc (.cells #[.bool false] 4) = W := ⟨_, rfl⟩
  rw [hW0] at hb0 hs0
  have HW0 := Lib.hid hW0
  have HB0 := Lib.hid (And.intro hb0 hs0)
  clear hb0 hs0 hW0
  refine calls_of_wp_marks Try.func4 rfl ?_
  simp only [Try.ntmps4, List.size_toArray, List.length_cons, List.length_nil, Nat.reduceAdd, Nat.reduceSub, Array.replicate_succ, Array.replicate_zero, List.push_toArray, List.append_toArray, List.nil_append, List.cons_append]
  go_wp2_with (rw [HW0.out])
  refine (lives_any _).mono ?_
  rintro e w1 ⟨rfl, hs⟩
  have HS1 := Lib.hid hs
  clear hs
  go_wp2_with fail
  refine (new_n w1).mono ?_
  rintro e w2 ⟨rb, rfl, h2⟩
  have H2 : Pz w rb (fun _ => []) (.slice none 0 0) [] [(w.heap.size, .cells #[.bool false] 4 (0, 0))] w2 := by
    obtain ⟨base, hb, F, k1, k2, k3⟩ := h2
    have hst := (HB0.out.2.then HS1.out (by simp)).then k3 (by simp)
    have hb2 := (HB0.out.1.step HS1.out (by simp)).step k3 (by simp)
    have hlt := HB0.out.1.lt
    have hsz := HS1.out.size
    refine ⟨⟨base, hb, F, by have := HB0.out.2.size; omega, k2, Ons.nil _ _, fun k hk => by simp [foot, Value.ownBlock] at hk, hst, fun k hk hm => ?_, fun k hk => by simp [foot, Value.ownBlock], fun k hk => ?_⟩, fun x hx => ?_⟩
    · simp at hk
      subst hk
      have := k2.lowR _ hm
      omega
    · simp at hk
      subst hk
      exact ⟨Nat.le_refl _, hb2.lt⟩
    · simp at hx
      subst hx
      exact hb2
  have HP := Lib.hid H2
  clear h2 H2
  go_wp2_with fail
  refine wp_loop_marks 221 (fun f wr Ds => ∃ i S mv m, PHead w a n cap rb f wr Ds i S mv m) (fun f => n - (intOf (f 31)).toNat) ⟨rfl, [], rfl, 0, _, _, [], rfl, rfl, rfl, rfl, rfl, rfl, rfl, Nat.zero_le _, HP.out, RelM.nil, Nat.le_refl _, List.nodup_nil⟩ ?_
  rintro f wr Ds ⟨i, S, mv, m, hH⟩
  obtain ⟨f0, f2, f3, f4, f29, f30, f31, hi, hP, hR, hfew, hnd⟩ := hH
  have HH := Lib.hid (And.intro hP (And.intro hR (And.intro hfew hnd)))
  rw [lit221]
  rw [f31]
  rw [f0, f2, f3, f4, f29, f30]
  clear f0 f2 f3 f4 f29 f30 hP hR hfew hnd HP
  by_cases hlt : i < n
  · obtain ⟨b, off, ha, hblt, k0, k1, k2, k3, hwf, hgd⟩ := (HA.out.step HH.out.1.st) i (by rw [HN.out]; exact hlt)
    subst ha
    obtain ⟨⟨kind, prio, name, order⟩, hx⟩ : ∃ x, l.getD i ac0 = x := ⟨_, rfl⟩
    rw [hx] at k0 k1 k2 k3 hwf hgd
    dsimp only at k0 k1 k2 k3 hwf hgd
    have hs1 := (Step.refl [] wr).alloc (.cells #[.int .i64 kind, .int .i64 prio, .string name, .int .u64 order] 41)
    have hbk := Blk.new wr #[.int .i64 kind, .int .i64 prio, .string name, .int .u64 order] 41
    have hP1 := HH.out.1.add hs1 (Nat.le_refl _) hbk
    obtain ⟨W, hW⟩ : ∃ W, wr.alloc (.cells #[.int .i64 kind, .int .i64 prio, .string name, .int .u64 order] 41) = W := ⟨_, rfl⟩
    obtain ⟨xb, hxb⟩ : ∃ b, wr.heap.size = b := ⟨_, rfl⟩
    rw [hW, hxb] at hP1
    have HW := Lib.hid (And.intro hW hxb)
    have HP := Lib.hid hP1
    have HG := Lib.hid (And.intro hwf hgd)
    have p1 : (i : Int) < (n : Int) := by omega
    have hxz : Blk W xb #[.int .i64 kind, .int .i64 prio, .string name, .int .u64 order] 41 := hP1.blk List.mem_cons_self
    have z0 := hxz.cell 0
    have z1 := hxz.cell 1
    have z2 := hxz.cell 2
    have z3 := hxz.cell 3
    simp only [List.getElem?_toArray, List.getElem?_cons_zero, List.getElem?_cons_succ] at z0 z1 z2 z3
    clear hs1 hbk hP1 hW hxb hx hwf hgd hxz hblt
    by_cases hnm : name.size ≤ 40
    · have q2 : ((40 : Int) < (name.size : Int)) = False := by simp; omega
      obtain ⟨ao, cm, hv, hmn, hma⟩ := HP.out.1.ons.form
      subst hv
      obtain ⟨N, hN⟩ : ∃ N, m.length = N := ⟨_, rfl⟩
      have hNi : N ≤ i := by have := HH.out.2.2.1; omega
      have HNN := Lib.hid (And.intro hN (And.intro hmn hma))
      have hgn : HpE.good name := good_little hnm
      have HGN := Lib.hid hgn
      have HCut := Lib.hid (cut_on w.heap.size _ m name W HP.out.1.ons (by omega))
      rw [hN] at HP HH HCut ⊢
      clear hN hmn hma hgn
      go_wp2_with (rw [HW.out.1, HW.out.2])
      have hcut : ∀ e w', CutO (.slice ao N cm) m name W e w' → ∃ v B, e = .returned (.tuple #[v, .bool B]) ∧ Step [] W w' ∧ ((B = false ∧ ∀ y, y ∈ m → y.nm ≠ name) ∨ (B = true ∧ ∃ j, j < m.length ∧ (m.getD j on0).nm = name)) := by
        rintro e w' (⟨h1, rfl, h2⟩ | ⟨j, h1, h2, h3, v', rfl, h4, h5⟩)
        · exact ⟨_, false, rfl, h2, .inl ⟨rfl, h1⟩⟩
        · exact ⟨_, true, rfl, h5, .inr ⟨rfl, j, h1, h2⟩⟩
      refine (HCut.out.mono hcut).mono ?_
      rintro e W2 ⟨v7, B, rfl, hs2, hB⟩
      have HP2 := Lib.hid (HP.out.step hs2)
      have hhas : hasR S name = B := by
        rcases hB with ⟨rfl, h⟩ | ⟨rfl, j, h1, h2⟩
        · exact HH.out.2.1.no h
        · exact HH.out.2.1.has.2 ⟨m[j], List.getElem_mem h1, by rw [← h2]; simp [List.getD, h1]⟩
      have HHas := Lib.hid (And.intro hhas hB)
      have hxz : Blk W2 xb #[.int .i64 kind, .int .i64 prio, .string name, .int .u64 order] 41 := HP2.out.blk List.mem_cons_self
      have HXZ := Lib.hid hxz
      have z0 := hxz.cell 0
      have z1 := hxz.cell 1
      have z2 := hxz.cell 2
      have z3 := hxz.cell 3
      simp only [List.getElem?_toArray, List.getElem?_cons_zero, List.getElem?_cons_succ] at z0 z1 z2 z3
      have hHas := HP2.out.1.has name HGN.out
      rw [hhas] at hHas
      have HHs := Lib.hid hHas
      clear hs2 hB hhas hxz hHas hcut HCut k0 k1 k2 k3
      go_wp2_with fail
      refine HHs.out.mono ?_
      rintro e w5 ⟨rfl, rfl⟩
      clear HHs
      go_upto_block 2 with fail
      go_cut [4, 9, 10, 11, 12, 13] from 54 to 152 (fun v _ _ _ _ _ wx => ∃ S' m', Pz w rb S' v m' ((xb, .cells #[.int .i64 kind, .int .i64 prio, .string name, .int .u64 order] 41 (0, 0)) :: (w.heap.size, .cells #[.bool false] 4 (0, 0)) :: Ds.map dO) wx ∧ RelM S' m' ∧ m'.length ≤ i + 1)
      case first =>
        go_upto_if 60 with fail
        go_cut [60] from 61 to 62 (fun q wx => q = .bool ((kind == 0) || (kind == 1)) ∧ wx = W2)
        case first =>
          cases q0 : (kind == 0) with
          | true =>
            go_wp2_with fail
            go_meet
            exact ⟨congrArg Value.bool (by rw [q0, Bool.true_or]), rfl⟩
          | false =>
            go_wp2_with fail
            go_meet
            exact ⟨congrArg Value.bool (by rw [q0, Bool.false_or]), rfl⟩
        case rest =>
          obtain ⟨rfl, hw⟩ := hcut
          rw [hw]
          clear hw
          cases k01 : ((kind == 0) || (kind == 1)) with
          | true =>
            by_cases hpr : 0 ≤ prio ∧ prio ≤ 3
            · obtain ⟨p, rfl⟩ : ∃ p : Nat, prio = p := ⟨prio.toNat, by omega⟩
              have hp4 : p < 4 := by omega
              have r1 : ¬ ((p : Int) < 0) := by omega
              have r2 : ¬ ((3 : Int) < (p : Int)) := by omega
              cases B with
              | true =>
                have HPut := Lib.hid (HP2.out.1.putSame name p order hp4 HGN.out HHas.out.1)
                clear hpr
                go_wp2_with fail
                refine HPut.out.mono ?_
                rintro e w5 ⟨rfl, rfl⟩
                go_wp2_with fail
                go_meet
                exact ⟨S, m, HP2.out, HH.out.2.1, by have := HNN.out.1; omega⟩
              | false =>
                as_aux_lemma =>
                  have hno : ∀ y, y ∈ m → y.nm ≠ name := by
                    rcases HHas.out.2 with ⟨_, h⟩ | ⟨h, _⟩
                    · exact h
                    · cases h
                  have HNo := Lib.hid hno
                  have HO := Lib.hid (show W2.ownsRow w.heap.size 33 3 (.slice ao N cm) N (flatO m) from by have := HP2.out.1.ons; unfold Ons at this; rwa [HNN.out.1] at this)
                  have hsr := (Blk.new W2 #[.string name, .int .i64 (p : Int), .int .u64 order] 33)
                  have hsrc : ∀ ad : Addr, (some (⟨W2.heap.size, 0, none⟩ : Addr)) = some ad → ∀ (j : Nat) (u : Value), (onC ⟨name, (p : Int), order⟩)[j]? = some u → (W2.alloc (.cells #[.string name, .int .i64 (p : Int), .int .u64 order] 33)).cell? (ad.add j) = some u := by
                    intro ad he j u hu
                    injection he with he
                    subst he
                    rw [add_plain, Nat.zero_add, hsr.cell j]
                    simpa [onC] using hu
                  have HSrc := Lib.hid hsrc
                  have hlow := HP2.out.st.size
                  clear hno hsr hsrc hpr
                  go_wp2_with (at_builtin; go_loud (refine wpList_append_sep rfl (.tmp 72) (.tmp 80) 39 rfl w.heap.size 33 i0 _ 3 32 Try.underlying39 hi0 hz0 hz1 hz2 rfl (by decide) _ N (flatO m) rfl (HO.out.alloc _) (some ⟨W2.heap.size, 0, none⟩) 1 1 (onC ⟨name, (p : Int), order⟩) rfl (fun h => by cases h) rfl HSrc.out (onC_one _) (by unfold maxLen; omega) (by omega) (by rw [World.size_alloc]; omega) ?_))
                  intro v7 w7 ho7 hg7 hf7
                  have h7 := HP2.out.grow ((Step.refl [] W2).alloc (.cells #[.string name, .int .i64 (p : Int), .int .u64 order] 33)) (by rw [HNN.out.1]; exact ho7) hg7 hf7
                  have hxz : Blk w7 xb #[.int .i64 kind, .int .i64 (p : Int), .string name, .int .u64 order] 41 := h7.blk List.mem_cons_self
                  have y1 := hxz.cell 1
                  have y2 := hxz.cell 2
                  have y3 := hxz.cell 3
                  simp only [List.getElem?_toArray, List.getElem?_cons_zero, List.getElem?_cons_succ] at y1 y2 y3
                  have HPut := Lib.hid (h7.put name p order hp4 HGN.out HHas.out.1 (by
                    have h8 := h7.1.srt
                    have h9 := HH.out.2.1
                    have h10 : tags S = tags S := rfl
                    have h11 : (S p).length ≤ (tags S).length := by
                      have := len_le (S := S) hp4
                      rw [← tags_all, List.length_map] at this
                      exact this
                    have h12 : (tags S).length ≤ m.length := len_sub (srt_tags HP2.out.1.srt |> Hp.srt_nodup ordA) (fun y hy => (h9.mem y).2 hy)
                    have h13 := HNN.out.1
                    omega))
                  clear ho7 hg7 hf7 h7 hxz z0 z1 z2 z3
                  go_wp2_with fail
                  refine HPut.out.mono ?_
                  rintro e w8 ⟨rfl, h8⟩
                  have H8 := Lib.hid h8
                  clear h8
                  go_wp2_with fail
                  go_meet
                  exact ⟨_, _, H8.out, HH.out.2.1.put hp4 HNo.out, by rw [List.length_append]; have := HNN.out.1; simp; omega⟩
            · have hf : prio < 0 ∨ 4 ≤ prio := by omega
              have HPut := Lib.hid (HP2.out.1.putFar name prio order hf)
              by_cases hp0 : prio < 0
              · clear hpr hf
                go_wp2_with fail
                refine HPut.out.mono ?_
                rintro e w5 ⟨rfl, rfl⟩
                go_wp2_with fail
                go_meet
                exact ⟨S, m, HP2.out, HH.out.2.1, by have := HNN.out.1; omega⟩
              · have hp3 : (3 : Int) < prio := by omega
                clear hpr hf
                go_wp2_with fail
                refine HPut.out.mono ?_
                rintro e w5 ⟨rfl, rfl⟩
                go_wp2_with fail
                go_meet
                exact ⟨S, m, HP2.out, HH.out.2.1, by have := HNN.out.1; omega⟩
          | false =>
            cases k2 : (kind == 2) with
            | true =>
              as_aux_lemma =>
                have HCutR := Lib.hid (HP2.out.cut HH.out.2.1 name HGN.out)
                rw [HHas.out.1] at HCutR
                have k2p : (kind == 2) = true := k2
                go_wp2_with fail
                refine HCutR.out.mono ?_
                rintro e w5 ⟨S5, rfl, h5, hr5⟩
                have hxz : Blk w5 xb #[.int .i64 kind, .int .i64 prio, .string name, .int .u64 order] 41 := h5.blk List.mem_cons_self
                have y2 := hxz.cell 2
                simp only [List.getElem?_toArray, List.getElem?_cons_zero, List.getElem?_cons_succ] at y2
                have HM := Lib.hid (cut_on w.heap.size _ m name w5 h5.1.ons (by have := HNN.out.1; omega))
                have H5 := Lib.hid (And.intro h5 hr5)
                clear h5 hr5 hxz z0 z1 z2 z3 HCutR
                go_wp2_with fail
                refine HM.out.mono ?_
                rintro e w6 (⟨hno, rfl, hs6⟩ | ⟨j, hj, hnj, _, v6, rfl, ho6, hs6⟩)
                · have HF := Lib.hid (And.intro (H5.out.1.step hs6) (H5.out.2.1 hno))
                  clear hno hs6 HM
                  go_wp2_with fail
                  go_meet
                  exact ⟨_, _, HF.out.1, HF.out.2, by have := HNN.out.1; omega⟩
                · have HF := Lib.hid (And.intro (H5.out.1.model hs6 ho6) (And.intro (H5.out.2.2 j hj hnj) (List.length_eraseIdx_le m j)))
                  clear hnj hs6 ho6 HM hj
                  go_wp2_with fail
                  go_meet
                  exact ⟨_, _, HF.out.1, HF.out.2.1, by have := HNN.out.1; have := HF.out.2.2; omega⟩
            | false =>
              cases k3 : (kind == 3) with
              | true =>
                as_aux_lemma =>
                  have k3p : (kind == 3) = true := k3
                  have HTk := HP2.out.take
                  obtain ⟨A, hA⟩ : ∃ A, allS S = A := ⟨_, rfl⟩
                  rw [hA] at HTk
                  have HTK := Lib.hid HTk
                  have HAA := Lib.hid hA
                  clear HTk hA
                  cases A with
                  | nil =>
                    have hm0 : m = [] := HH.out.2.1.none.1 HAA.out
                    subst hm0
                    obtain rfl : N = 0 := HNN.out.1.symm
                    simp only [hdA] at HTK
                    go_wp2_with fail
                    refine HTK.out.mono ?_
                    rintro e w5 ⟨rfl, S5, ht5, h5⟩
                    have hSS : S5 = S := by
                      rcases ht5 with ⟨_, h⟩ | ⟨p, x, t, hp, hSp, _⟩
                      · exact h
                      · have := allS_nil HAA.out p hp
                        rw [hSp] at this
                        cases this
                    subst hSS
                    have HSo := Lib.hid (sorted_on w.heap.size _ [] w5 h5.1.ons (by simp) List.nodup_nil)
                    have H5 := Lib.hid h5
                    clear ht5 h5 z0 z1 z2 z3 HTK
                    go_wp2_with fail
                    refine HSo.out.mono ?_
                    rintro e w6 ⟨v6, L6, rfl, ho6, hp6, hs6, hst6⟩
                    obtain rfl : L6 = [] := hp6.eq_nil
                    obtain ⟨a6, c6, rfl, -, -⟩ := ho6.form
                    have H6 := Lib.hid (H5.out.step hst6)
                    have HM := Lib.hid (cut_on w.heap.size _ [] ByteArray.empty w6 H6.out.1.ons (by simp))
                    simp only [List.length_nil] at HM ⊢
                    clear ho6 hp6 hs6 hst6 HSo
                    go_wp2_with fail
                    refine HM.out.mono ?_
                    rintro e w7 (⟨hno, rfl, hs7⟩ | ⟨j, hj, _⟩)
                    · have HF := Lib.hid (H6.out.step hs7)
                      clear hno hs7 HM
                      go_wp2_with fail
                      go_meet
                      exact ⟨_, _, HF.out, HH.out.2.1, by simp⟩
                    · simp at hj
                  | cons x r =>
                    simp only [hdA] at HTK
                    obtain ⟨xk, xo⟩ := x
                    dsimp only at HTK
                    go_wp2_with fail
                    refine HTK.out.mono ?_
                    rintro e w5 ⟨rfl, S5, ht5, h5⟩
                    have HSo := Lib.hid (sorted_on w.heap.size _ m w5 h5.1.ons (by have := HNN.out.1; omega) HH.out.2.1.nodup)
                    have H5 := Lib.hid (And.intro h5 ht5)
                    clear ht5 h5 z0 z1 z2 z3 HTK
                    go_wp2_with fail
                    refine HSo.out.mono ?_
                    rintro e w6 ⟨v6, L6, rfl, ho6, hp6, hs6, hst6⟩
                    have hL6 : L6 = tags S := HH.out.2.1.sorted HP2.out.1.srt hp6 hs6
                    have h0 : 0 < L6.length := by
                      rw [hL6]
                      have := congrArg List.length (tags_all S)
                      rw [HAA.out, List.length_map] at this
                      simp at this
                      omega
                    obtain ⟨g6, c6, hv6, _⟩ := ho6.at0 h0
                    subst hv6
                    obtain ⟨d0, _, _⟩ := ho6.cell 0 h0
                    have hnm0 : (L6.getD 0 on0).nm = xk := by
                      have h1 := tags_all S
                      rw [HAA.out, ← hL6] at h1
                      cases L6 with
                      | nil => simp at h0
                      | cons y t =>
                        simp only [List.map_cons, List.cons.injEq, Prod.mk.injEq] at h1
                        exact h1.1.1
                    rw [hnm0] at d0
                    obtain ⟨M, hM⟩ : ∃ M, L6.length = M := ⟨_, rfl⟩
                    rw [hM] at h0 ⊢
                    have p0 : (0 : Int) < (M : Int) := by omega
                    have H6 := Lib.hid (H5.out.1.step hst6)
                    have HM := Lib.hid (cut_on w.heap.size _ m xk w6 H6.out.1.ons (by have := HNN.out.1; omega))
                    clear ho6 hp6 hs6 hst6 HSo hL6 hM hnm0
                    go_wp2_with fail
                    refine HM.out.mono ?_
                    rintro e w7 (⟨hno, rfl, hs7⟩ | ⟨j, hj, hnj, _, v7', rfl, ho7, hs7⟩)
                    · exfalso
                      obtain ⟨p, t, hp, hSp, _⟩ := allS_first HAA.out
                      exact hno _ ((HH.out.2.1.mem ⟨xk, (p : Int), xo⟩).2 (mem_tags.2 ⟨p, hp, rfl, by rw [hSp]; simp⟩)) rfl
                    · have hr7 := HH.out.2.1.taken HP2.out.1.keys H5.out.2 hj (by rw [hnj, HAA.out]; rfl) (by rw [HAA.out]; simp)
                      obtain ⟨a7, c7, rfl, -, -⟩ := ho7.form
                      have HF := Lib.hid (And.intro (H6.out.model hs7 ho7) (And.intro hr7 (List.length_eraseIdx_le m j)))
                      clear hnj hs7 ho7 HM hj hr7
                      generalize (m.eraseIdx j).length = M7 at HF ⊢
                      go_wp2_with fail
                      go_meet
                      exact ⟨_, _, HF.out.1, HF.out.2.1, by have := HNN.out.1; have := List.length_eraseIdx_le m j; omega⟩
              | false =>
                as_aux_lemma =>
                  have k3p : (kind == 3) = false := k3
                  have k2p : (kind == 2) = false := k2
                  have HC := Lib.hid HP2.out.1.copy
                  go_wp2_with fail
                  refine HC.out.mono ?_
                  rintro e w5 ⟨cb, rfl, h5⟩
                  have HT := Lib.hid (take_n h5)
                  clear h5 HC z0 z1 z2 z3
                  go_wp2_with fail
                  refine HT.out.mono ?_
                  rintro e w6 ⟨rfl, S6, ht6, h6⟩
                  have HO := Lib.hid (put_other h6 { data := #[111, 116, 104, 101, 114] } 0 (good_little (by decide)) (by
                    have h1 := ht6.all
                    have h2 := len_le (S := S6) (p := 0) (by omega)
                    rw [h1, List.length_tail] at h2
                    have h3 := congrArg List.length (tags_all S)
                    rw [List.length_map] at h3
                    have h12 : (tags S).length ≤ m.length := len_sub (srt_tags HP2.out.1.srt |> Hp.srt_nodup ordA) (fun y hy => (HH.out.2.1.mem y).2 hy)
                    have h13 := HNN.out.1
                    omega))
                  clear ht6 h6 HT
                  go_wp2_with fail
                  refine HO.out.mono ?_
                  rintro e w7 ⟨⟨r7, rfl⟩, hs7⟩
                  have HF := Lib.hid (HP2.out.step hs7)
                  clear hs7 HO
                  go_wp2_with fail
                  go_meet
                  exact ⟨_, _, HF.out, HH.out.2.1, by have := HNN.out.1; omega⟩
      case rest =>
        obtain ⟨S3, m3, hP3, hR3, hl3⟩ := hcut
        have hp3 := hP3
        have H3 := Lib.hid (And.intro hR3 hl3)
        have HSo := Lib.hid (sorted_on w.heap.size _ m3 _ hP3.1.ons (by omega) hR3.nodup)
        have HP3 := Lib.hid hP3
        clear hR3 hl3 hP3 hp3 z0 z1 z2 z3
        go_wp2_with fail
        refine HSo.out.mono ?_
        rintro e W4 ⟨v4, L4, rfl, ho4, hp4, hs4, hst4⟩
        have hL4 : L4 = tags S3 := H3.out.1.sorted HP3.out.1.srt hp4 hs4
        subst hL4
        obtain ⟨a4, c4, rfl, hn4, had4⟩ := ho4.form
        obtain ⟨K, hK⟩ : ∃ K, (tags S3).length = K := ⟨_, rfl⟩
        have hKi : K ≤ i + 1 := by
          rw [← hK]
          exact Nat.le_trans (len_sub (Hp.srt_nodup ordA hs4) (fun y hy => (H3.out.1.mem y).2 hy)) H3.out.2
        have HK := Lib.hid (And.intro hK (And.intro hn4 had4))
        have HO4 := Lib.hid (And.intro ho4 hst4)
        rw [hK] at HO4 ⊢
        clear ho4 hp4 hs4 hst4 hn4 had4 hK HSo
        go_wp2_with fail
        refine (all_box _ _).mono ?_
        rintro e W6 ⟨rfl, hw6⟩
        obtain ⟨lb, hlb⟩ : ∃ b, W4.heap.size = b := ⟨_, rfl⟩
        have e1 : (W4.alloc (.cells #[.slice a4 K c4] 39)).heap.size = lb + 1 := by rw [World.size_alloc, hlb]
        have e2 : ((W4.alloc (.cells #[.slice a4 K c4] 39)).alloc (.cells #[.int .i64 0] 3)).heap.size = lb + 2 := by rw [World.size_alloc, e1]
        have e3 : (((W4.alloc (.cells #[.slice a4 K c4] 39)).alloc (.cells #[.int .i64 0] 3)).alloc (.cells #[.int .i64 0, .int .i64 0, .int .i64 0, .int .i64 0] 46)).heap.size = lb + 3 := by rw [World.size_alloc, e2]
        have s6 : Step [] W4 W6 := by rw [hw6]; exact ((((Step.refl [] W4).alloc _).alloc _).alloc _).alloc _
        have hz6 : W6.heap.size = lb + 4 := by rw [hw6, World.size_alloc, e3]
        have bl6 : Blk W6 lb #[.slice a4 K c4] 39 := by
          rw [hw6, ← hlb]
          exact (((Blk.new W4 _ _).alloc _).alloc _).alloc _
        have bn6 : Blk W6 (lb + 1) #[.int .i64 0] 3 := by
          have h := Blk.new (W4.alloc (.cells #[.slice a4 K c4] 39)) #[.int .i64 0] 3
          rw [e1] at h
          rw [hw6]
          exact (h.alloc _).alloc _
        have bc6 : Blk W6 (lb + 2) #[.int .i64 0, .int .i64 0, .int .i64 0, .int .i64 0] 46 := by
          have h := Blk.new ((W4.alloc (.cells #[.slice a4 K c4] 39)).alloc (.cells #[.int .i64 0] 3)) #[.int .i64 0, .int .i64 0, .int .i64 0, .int .i64 0] 46
          rw [e2] at h
          rw [hw6]
          exact h.alloc _
        have bb6 : W6.cell? ⟨lb + 3, 0, none⟩ = some (.pointer (some ⟨rb, 0, none⟩)) := by
          have h := Blk.new (((W4.alloc (.cells #[.slice a4 K c4] 39)).alloc (.cells #[.int .i64 0] 3)).alloc (.cells #[.int .i64 0, .int .i64 0, .int .i64 0, .int .i64 0] 46)) #[.pointer (some ⟨rb, 0, none⟩)] 24
          rw [e3] at h
          rw [hw6]
          exact h.cell 0
        have p4 := HP3.out.step HO4.out.2
        have p6 := p4.addAll s6 [(lb, .cells #[.slice a4 K c4] 39 (0, 0)), (lb + 1, .cells #[.int .i64 0] 3 (0, 0)), (lb + 2, .cells #[.int .i64 0, .int .i64 0, .int .i64 0, .int .i64 0] 46 (0, 0))] (fun x hx => by
          simp only [List.mem_cons, List.not_mem_nil, or_false] at hx
          rcases hx with rfl | rfl | rfl
          · exact ⟨by dsimp only; omega, bl6⟩
          · exact ⟨by dsimp only; omega, bn6⟩
          · exact ⟨by dsimp only; omega, bc6⟩)
        have ho6 := HO4.out.1.step s6 (by simp)
        obtain ⟨base, hb, F, q1', q2', q3', q4', q5', q6', q7', q8'⟩ := HP3.out.1
        have s36 := HO4.out.2.then s6 (by simp)
        have hz34 := HO4.out.2.size
        have hPre : ∀ X, Step [] W6 X → X.cell? ⟨lb + 3, 0, none⟩ = some (.pointer (some ⟨rb, 0, none⟩)) ∧ Rw X base rb hb S3 F := fun X hs => ⟨(hs.cell (by omega) (by simp)).trans bb6, (q2'.step0 s36).step0 hs⟩
        have HPre := Lib.hid hPre
        have hRl : Live W6 (footR rb F) := (q2'.step0 s36).liveR
        have hlo : ∀ k, wc.heap.size ≤ k → k ∉ footR rb F := fun k hk hm => by
          have := q2'.liveR k hm
          omega
        have HP6 := Lib.hid (And.intro p6 (And.intro ho6 (And.intro hz6 (And.intro hRl (And.intro hlo (And.intro (show wc.heap.size ≤ lb by omega) hi))))))
        rw [hlb, e3, show lb + 1 + 1 = lb + 2 from rfl]
        have HLB := Lib.hid hlb
        clear p4 p6 ho6 hPre hRl hlo bl6 bn6 bc6 bb6 s6 hw6 e1 e2 e3 hz6 q1' q2' q3' q4' q5' q6' q7' q8' hlb s36 hz34
        go_wp2_with fail
        refine (wpIn_wide (n := 6)).1 ?_
        refine wpIn_range_sepVX (gf := 26) (lb := #[.pointer (some ⟨lb + 3, 0, none⟩)]) rfl (by omega) rfl trivial (enters_of Try.func26 (by kernel_rfl) rfl)
          (all1_sep 5 (by omega) (lb + 3) base rb hb S3 F).toV HPre.out (fun _ => rfl) HP6.out.2.2.2.1
          (fun xs A C => RgI (footR rb F) (lb + 1) (lb + 2) (tags S3) W6 xs.length A C) (fun _ _ _ _ => False)
          (fun s A B C H h hs hd => h.step hs hd) (fun s A C h => h.live) (fun s A C h => h.dj) (fun _ _ _ _ _ _ h _ _ => h.elim) (fun _ _ _ _ h => h.elim)
          (offR (footR rb F) W6.heap.size) (footR rb F) HP6.out.2.2.2.1 offR_dj ?h0
          (fun pre x a' A C => a'.tmps.size = 221 ∧ a'.defers = [] ∧ a'.tmps.getD 14 undef = .pointer (some ⟨lb, 0, none⟩) ∧ a'.tmps.getD 15 undef = .pointer (some ⟨lb + 1, 0, none⟩) ∧ a'.tmps.getD 16 undef = .pointer (some ⟨lb + 2, 0, none⟩) ∧ a'.tmps.getD 17 undef = .string x.1 ∧ pre ++ [x] <+: allS S3) (fun _ _ _ _ _ _ _ _ h _ _ _ _ => h) ?assign ?body ?done ?stop
        case h0 =>
          obtain ⟨h1, h2, h3, h4, h5, h6, h7⟩ := HP6.out
          exact ⟨rfl, Step.refl _ _, h1.blk (by simp), h1.blk (by simp [cntT_zero]), by omega, by omega, h5 _ (by omega), h5 _ (by omega)⟩
        case stop => exact fun D c pre B C hD hDC hp h => h.elim
        case assign =>
          rintro l pre ⟨xk, xr⟩ A C K hI hV _ _ _ hK
          gi_wp2
          exact hK _ _ (Step.refl _ _) ⟨rfl, rfl, rfl, rfl, rfl, rfl, hV⟩
        case body =>
          rintro l2 pre ⟨xk, xr⟩ a' A C hrec hlC hlx hlv hdx hdr hI ⟨hsz, hdf, g14, g15, g16, g17, hV⟩
          obtain ⟨hq, hqn⟩ : pre.length < K ∧ ((tags S3).getD pre.length on0).nm = xk := by
            obtain ⟨u, hu⟩ := hV
            have h1 := tags_all S3
            rw [← hu] at h1
            have h2 := congrArg List.length h1
            rw [List.length_map, HK.out.1] at h2
            simp only [List.length_append, List.length_cons, List.length_nil] at h2
            have h3 := congrArg (fun l => l[pre.length]?) h1
            simp only [List.getElem?_map, List.append_assoc] at h3
            rw [List.getElem?_append_right (Nat.le_refl _)] at h3
            have h4 : pre.length < (tags S3).length := by rw [HK.out.1]; omega
            rw [List.getElem?_eq_getElem h4] at h3
            simp at h3
            exact ⟨by omega, by simp [List.getD, h4, h3]⟩
          obtain ⟨q, hqq⟩ : ∃ q, pre.length = q := ⟨_, rfl⟩
          rw [hqq] at hq hqn hI
          obtain ⟨p, hp4, hpe⟩ : ∃ p, p < 4 ∧ ((tags S3).getD q on0).p = ((p : Nat) : Int) := by
            have h4 : q < (tags S3).length := by rw [HK.out.1]; omega
            have h5 : (tags S3).getD q on0 ∈ tags S3 := by simp [List.getD, h4]
            obtain ⟨p, h6, h7, _⟩ := mem_tags.1 h5
            exact ⟨p, h6, h7⟩
          obtain ⟨f', hf'⟩ : ∃ f' : Nat → Value, (fun k => a'.tmps.getD k undef) = f' := ⟨_, rfl⟩
          have h14 : f' 14 = .pointer (some ⟨lb, 0, none⟩) := by rw [← hf']; exact g14
          have h15 : f' 15 = .pointer (some ⟨lb + 1, 0, none⟩) := by rw [← hf']; exact g15
          have h16 : f' 16 = .pointer (some ⟨lb + 2, 0, none⟩) := by rw [← hf']; exact g16
          have h17 : f' 17 = .string xk := by rw [← hf']; exact g17
          rw [act_lit hsz, hf', hdf, lit221, h14, h15, h16, h17]
          obtain ⟨rfl, hA1, hA2, hA3, hA4, hA5, hA6, hA7⟩ := hI
          obtain ⟨P1, P2, P3, P4, P5, P6, P7⟩ := HP6.out
          have hft : ∀ k, k ∈ foot (.slice a4 K c4) → k ∉ (lb + 1) :: (lb + 2) :: footR rb F := fun k hk hm => by
            have h8 := owns_base P2 k hk
            have h9 := owns_live HO4.out.1 k hk
            rw [HLB.out] at h9
            simp only [List.mem_cons] at hm
            rcases hm with hm | hm | hm
            · omega
            · omega
            · exact P5 k h8 hm
          have hoA := P2.step hA1 hft
          have hblA : Blk A lb #[.slice a4 K c4] 39 := Blk.step (P1.blk (by simp)) hA1 (fun hm => by
            simp only [List.mem_cons] at hm
            rcases hm with hm | hm | hm
            · omega
            · omega
            · exact P5 lb P6 hm)
          obtain ⟨g4, c4', he, _⟩ := hoA.at0 (by rw [HK.out.1]; omega)
          injection he with he1 he2 he3
          subst he1
          subst he3
          clear he2
          obtain ⟨t0, t1, _⟩ := hoA.cell q (by rw [HK.out.1]; exact hq)
          rw [hqn] at t0
          rw [hpe] at t1
          have n0 := hA2.cell 0
          have l0 := hblA.cell 0
          have gn0 := hA2.free 0
          have gc0 := hA3.free p
          have cc : A.cell? ⟨lb + 2, p, none⟩ = some (.int .i64 (cntT (tags S3) q p)) := by
            rw [hA3.cell p]
            rcases (by omega : p = 0 ∨ p = 1 ∨ p = 2 ∨ p = 3) with rfl | rfl | rfl | rfl <;> rfl
          simp only [List.getElem?_toArray, List.getElem?_cons_zero] at n0 l0
          have hcb := cntT_le (tags S3) q p
          have hcs := fun p' => cntT_succ (L := tags S3) (q := q) (by rw [HK.out.1]; exact hq) p'
          rw [hpe] at hcs
          rw [HK.out.1] at hcb
          have HCS := Lib.hid (And.intro hcs (And.intro hqq hp4))
          obtain ⟨cp, hcp⟩ : ∃ c, cntT (tags S3) q p = c := ⟨_, rfl⟩
          rw [hcp] at cc hcb
          have HCP := Lib.hid hcp
          obtain ⟨hcb0, hcb1⟩ := hcb
          have hcb2 : cp ≤ 1000 := by omega
          have w1' : ¬ ((K : Int) ≤ (q : Int)) := by omega
          have w2' : (q : Int) < (K : Int) := by omega
          have w3' : (p : Int) < 4 := by omega
          have wne : lb + 2 ≠ lb + 1 := by omega
          have wne2 : lb + 1 ≠ lb + 2 := by omega
          have HAA := Lib.hid (And.intro hA1 (And.intro hA2 (And.intro hA3 (And.intro hA4 (And.intro hA5 (And.intro hA6 hA7))))))
          clear hA1 hA2 hA3 hA4 hA5 hA6 hA7 hcs hqq hcp P1 P2 P3 P4 P5 P6 P7 hft hoA hblA hqn hpe hf' h14 h15 h16 h17 g14 g15 g16 g17 hsz hdf hV hrec
          gi_wp2
          obtain ⟨hA1, hA2, hA3, hA4, hA5, hA6, hA7⟩ := HAA.out
          obtain ⟨hcs, hqq, hp4⟩ := HCS.out
          have in1 : lb + 1 ∈ offR (footR rb F) W6.heap.size := mem_offR.2 ⟨hA4, hA6⟩
          have in2 : lb + 2 ∈ offR (footR rb F) W6.heap.size := mem_offR.2 ⟨hA5, hA7⟩
          refine ⟨_, ⟨rfl, (hA1.setCell (.inl (by simp)) p _).setCell (.inl (by simp)) 0 _, ?_, ?_, hA4, hA5, hA6, hA7⟩, ((Step.refl _ A).setCell (.inl (by simpa using in2)) p _).setCell (.inl (by simpa using in1)) 0 _, fun k hk => .inl (by simpa using hk)⟩
          · have := (hA2.set_ne (lb + 2) p (.int .i64 (cp + 1)) (by omega)).set 0 (.int .i64 ((q : Int) + 1))
            simp only [List.length_append, List.length_cons, List.length_nil, hqq]
            simpa using this
          · have := ((hA3.set p (.int .i64 (cp + 1))).set_ne (lb + 1) 0 (.int .i64 ((q : Int) + 1)) (by omega))
            simp only [List.length_append, List.length_cons, List.length_nil, hqq, hcs]
            rcases (by omega : p = 0 ∨ p = 1 ∨ p = 2 ∨ p = 3) with rfl | rfl | rfl | rfl
            all_goals
              rw [← HCP.out] at this ⊢
              simpa using this
        case done =>
          rintro D xs B C hD hDC rfl hI hm hk
          obtain ⟨rfl, hA1, hA2, hA3, hA4, hA5, hA6, hA7⟩ := hI
          have hxl : (allS S3).length = K := by rw [← tags_all, List.length_map, HK.out.1]
          rw [hxl] at hA2 hA3
          have sB : Step [lb + 1, lb + 2] W6 B := ⟨hA1.os, hA1.tape, hA1.output, hA1.size, fun k hlt hn => by
            by_cases hR : k ∈ footR rb F
            · exact hk k hR
            · exact hA1.block k hlt (fun hm => by
                simp only [List.mem_cons] at hm hn
                rcases hm with hm | hm | hm
                · exact hn (.inl hm)
                · exact hn (.inr (.inl hm))
                · exact hR hm)⟩
          obtain ⟨P1, P2, P3, P4, P5, P6, P7⟩ := HP6.out
          have hfoot : ∀ k, k ∈ foot (.slice a4 K c4) → k ∉ [lb + 1, lb + 2] := fun k hk' hm => by
            have h9 := owns_live HO4.out.1 k hk'
            rw [HLB.out] at h9
            simp at hm
            omega
          have hoB := P2.step sB hfoot
          have hXk : ∀ x, x ∈ ((xb, Obj.cells #[.int .i64 kind, .int .i64 prio, .string name, .int .u64 order] 41 (0, 0)) :: (w.heap.size, .cells #[.bool false] 4 (0, 0)) :: Ds.map dO) → x.1 < lb := fun x hx => by
            obtain ⟨_, _, _, _, _, _, _, _, _, _, h8⟩ := HP3.out.1
            have := (h8 x.1 (List.mem_map_of_mem hx)).2
            omega
          have hPB := P1.setAdd (D := D) (o := .deferred (some [])) (XO' := [(lb, .cells #[.slice a4 K c4] 39 (0, 0)), (lb + 1, .cells #[.int .i64 (K : Int)] 3 (0, 0)), (lb + 2, .cells #[.int .i64 (cntT (tags S3) K 0), .int .i64 (cntT (tags S3) K 1), .int .i64 (cntT (tags S3) K 2), .int .i64 (cntT (tags S3) K 3)] 46 (0, 0))] ++ ((xb, .cells #[.int .i64 kind, .int .i64 prio, .string name, .int .u64 order] 41 (0, 0)) :: (w.heap.size, .cells #[.bool false] 4 (0, 0)) :: Ds.map dO)) rfl (sB.mono (by simp)) (fun x hx => by
            rcases List.mem_append.1 hx with hx | hx
            · simp only [List.mem_cons, List.not_mem_nil, or_false] at hx
              rcases hx with rfl | rfl | rfl
              · exact Blk.step (P1.blk (b := lb) (C := #[.slice a4 K c4]) (T := 39) (by simp)) sB (by simp)
              · exact hA2
              · exact hA3
            · have h1 := hXk x hx
              have h2 := P1.2 x (List.mem_append_right _ hx)
              exact (sB.block x.1 (by omega) (by simp; omega)).trans h2) hD hm
          have HPB := Lib.hid (And.intro hPB hoB)
          have hDn : D ∉ Ds := fun hd => by
            have h1 := hXk (dO D) (List.mem_cons_of_mem _ (List.mem_cons_of_mem _ (List.mem_map_of_mem hd)))
            simp only [dO] at h1
            omega
          have HDn := Lib.hid hDn
          clear hA1 hA2 hA3 hA4 hA5 hA6 hA7 hxl sB P1 P2 P3 P4 P5 P6 P7 hfoot hoB hXk hPB hDn hm hk hDC HPre
          dsimp only
          rw [← mks_cons]
          have HNx := HPB.out.1.1.next
          obtain ⟨A0, hA0⟩ : ∃ A, allS S3 = A := ⟨_, rfl⟩
          rw [hA0] at HNx
          have HNX := Lib.hid HNx
          have HA0 := Lib.hid hA0
          clear HNx hA0
          go_wp2_with fail
          refine HNX.out.mono ?_
          rintro e B2 ⟨rfl, hsB⟩
          have hP2 := HPB.out.1.step hsB
          have hLen : ∀ X, Step [] B2 X → Calls Try.prog 19 #[.pointer (some ⟨rb, 0, none⟩), .int .i64 prio] X fun e w' => e = .returned (.int .i64 (at4 (fun p => cntT (tags S3) K p) prio)) ∧ X = w' := fun X hs => by
            have h1 := hP2.step hs
            by_cases hpr : 0 ≤ prio ∧ prio ≤ 3
            · obtain ⟨p, rfl⟩ : ∃ p : Nat, prio = p := ⟨prio.toNat, by omega⟩
              have hp4 : p < 4 := by omega
              have e : at4 (fun p => cntT (tags S3) K p) (p : Int) = ((S3 p).length : Int) := by
                unfold at4
                rw [if_pos hpr, ← cntT_full S3 hp4, HK.out.1]
                rfl
              rw [e]
              exact h1.1.len p hp4
            · have e : at4 (fun p => cntT (tags S3) K p) prio = 0 := if_neg hpr
              rw [e]
              exact (len_far ⟨rb, 0, none⟩ prio X (by omega)).mono fun e w' h => h
          have hAt : ∀ X, Calls Try.prog 20 #[.agg #[.int .i64 (cntT (tags S3) K 0), .int .i64 (cntT (tags S3) K 1), .int .i64 (cntT (tags S3) K 2), .int .i64 (cntT (tags S3) K 3)], .int .i64 prio] X fun e w' => e = .returned (.int .i64 (at4 (fun p => cntT (tags S3) K p) prio)) ∧ Step [] X w' := fun X => at_any (fun p => cntT (tags S3) K p) prio X
          obtain ⟨LV, hLV⟩ : ∃ v, at4 (fun p => cntT (tags S3) K p) prio = v := ⟨_, rfl⟩
          rw [hLV] at hLen hAt
          have HLen := Lib.hid hLen
          have HAt := Lib.hid hAt
          have HP2' := Lib.hid hP2
          have hsz := hP2.1
          have ho2 := HPB.out.2.step hsB (by simp)
          have hlb2 : Blk B2 lb #[.slice a4 K c4] 39 := hP2.blk (by simp)
          have hnb2 : Blk B2 (lb + 1) #[.int .i64 (K : Int)] 3 := hP2.blk (by simp)
          have hcb2 : Blk B2 (lb + 2) #[.int .i64 (cntT (tags S3) K 0), .int .i64 (cntT (tags S3) K 1), .int .i64 (cntT (tags S3) K 2), .int .i64 (cntT (tags S3) K 3)] 46 := hP2.blk (by simp)
          have hxb2 : Blk B2 xb #[.int .i64 kind, .int .i64 prio, .string name, .int .u64 order] 41 := hP2.blk (by simp)
          have mk : ∀ {bq : Nat} {C : Array Value} {T : TypeId} (h : Blk B2 bq C T) (j : Nat) {u : Value} (hu : C[j]? = some u) (y : ClsW (Step [] B2.drew)), y.val.cell? ⟨bq, j, none⟩ = some u := fun h j u hu y => ((Blk.step (Blk.drew h) y.ok (by simp)).cell j).trans hu
          have hne : Nonempty (ClsW (Step [] B2.drew)) := ⟨⟨_, Step.refl _ _⟩⟩
          have d0 := mk hnb2 0 rfl
          have d1 := mk hlb2 0 rfl
          have d2 := mk hcb2 0 rfl
          have d3 := mk hcb2 1 rfl
          have d4 := mk hcb2 2 rfl
          have d5 := mk hcb2 3 rfl
          have d6 := mk hxb2 1 rfl
          have hF := Lib.hid (show ∀ X, Step [] B2.drew X → Pz w rb S3 u4 m3 ((w.heap.size, .cells #[.bool false] 4 (0, 0)) :: (D :: Ds).map dO) X from fun X hs => (hP2.step ((Step.refl [] B2).drew.then hs (by simp))).noX (fun x hx => by
            simp only [List.map_cons, List.mem_cons] at hx
            simp only [List.mem_cons, List.mem_append]
            rcases hx with hx | hx | hx
            · exact .inr (.inr (.inr (.inl hx)))
            · exact .inl hx
            · exact .inr (.inr (.inr (.inr hx)))))
          have hK0 : A0.length = K := by rw [← HA0.out, ← tags_all, List.length_map, HK.out.1]
          clear hP2 hsz hlb2 hnb2 hcb2 hxb2 hLen hAt hLV mk hsB
          cases A0 with
          | nil =>
            obtain rfl : K = 0 := by simpa using hK0.symm
            clear ho2 hK0
            simp only [hdA]
            go_wp2_with fail
            refine region_cls (G := Step [] B2.drew) (by kernel_rfl) (by kernel_rfl) (Step.refl _ _) ?_
            repeat (go_big_quiet_step (first | (go_at_call 19; exact cls_call ((HLen.out _ ((Step.refl [] B2).drew.then (ClsW.ok _) (by simp))).mono fun e w3 h => ⟨h.1, by rw [← h.2]; exact ClsW.ok _⟩)) | (go_at_call 20; exact cls_call ((HAt.out _).mono fun e w3 h => ⟨h.1, Step.then (ClsW.ok _) h.2 (by simp)⟩))))
            refine wpQuiet_nil ?_
            rintro B9 ⟨⟨B9x, hw9⟩, hq9⟩
            dsimp only at hq9
            subst hq9
            have HF := Lib.hid (hF.out B9 hw9)
            clear d0 d1 d2 d3 d4 d5 d6 hw9 hne
            go_wp2_with fail
            refine ⟨⟨rfl, D :: Ds, rfl, i + 1, S3, u4, m3, ⟨rfl, rfl, rfl, rfl, rfl, rfl, by show Value.int _ _ = Value.int _ _; congr 1, hlt, HF.out, H3.out.1, H3.out.2, List.nodup_cons.2 ⟨HDn.out, HH.out.2.2.2⟩⟩⟩, ?_⟩
            show n - (intOf (Value.int .i64 ((i : Int) + 1))).toNat < n - (intOf (Value.int .i64 (i : Int))).toNat
            simp [intOf]
            omega
          | cons x r =>
            obtain ⟨xk, xo⟩ := x
            have hK1 : 0 < K := by rw [← hK0]; simp
            obtain ⟨g4, c4', he, _⟩ := ho2.at0 (by rw [HK.out.1]; exact hK1)
            injection he with he1 he2 he3
            subst he1
            subst he3
            clear he2
            obtain ⟨t0, _, _⟩ := ho2.cell 0 (by rw [HK.out.1]; exact hK1)
            have hnm0 : ((tags S3).getD 0 on0).nm = xk := by
              have h1 := tags_all S3
              rw [HA0.out] at h1
              cases e : tags S3 with
              | nil => rw [e] at h1; simp at h1
              | cons y t =>
                rw [e] at h1
                simp only [List.map_cons, List.cons.injEq, Prod.mk.injEq] at h1
                exact h1.1.1
            rw [hnm0, Nat.zero_mul] at t0
            have hgl : g4 < B2.heap.size := World.block_lt_of_cell? B2 _ t0
            have d7 : ∀ y : ClsW (Step [] B2.drew), y.val.cell? ⟨g4, 0, none⟩ = some (.string xk) := fun y => (y.ok.cell hgl (by simp)).trans t0
            have p0 : (0 : Int) < (K : Int) := by omega
            have p0' : decide ((0 : Int) < (K : Int)) = true := by simp; omega
            clear ho2 hK0 t0 hnm0 hgl
            simp only [hdA]
            go_wp2_with fail
            refine region_cls (G := Step [] B2.drew) (by kernel_rfl) (by kernel_rfl) (Step.refl _ _) ?_
            repeat (go_big_quiet_step (first | (go_at_call 19; exact cls_call ((HLen.out _ ((Step.refl [] B2).drew.then (ClsW.ok _) (by simp))).mono fun e w3 h => ⟨h.1, by rw [← h.2]; exact ClsW.ok _⟩)) | (go_at_call 20; exact cls_call ((HAt.out _).mono fun e w3 h => ⟨h.1, Step.then (ClsW.ok _) h.2 (by simp)⟩))))
            refine wpQuiet_nil ?_
            rintro B9 ⟨⟨B9x, hw9⟩, hq9⟩
            dsimp only at hq9
            subst hq9
            have HF := Lib.hid (hF.out B9 hw9)
            clear d0 d1 d2 d3 d4 d5 d6 d7 hw9 hne
            go_wp2_with fail
            refine ⟨⟨rfl, D :: Ds, rfl, i + 1, S3, u4, m3, ⟨rfl, rfl, rfl, rfl, rfl, rfl, by show Value.int _ _ = Value.int _ _; congr 1, hlt, HF.out, H3.out.1, H3.out.2, List.nodup_cons.2 ⟨HDn.out, HH.out.2.2.2⟩⟩⟩, ?_⟩
            show n - (intOf (Value.int .i64 ((i : Int) + 1))).toNat < n - (intOf (Value.int .i64 (i : Int))).toNat
            simp [intOf]
            omega
    · have q2 : ((40 : Int) < (name.size : Int)) = True := by simp; omega
      have hb : Blk W w.heap.size #[.bool false] 4 := HP.out.blk (by simp)
      have c0 := hb.cell 0
      have g0 := hb.free 0
      simp only [List.getElem?_toArray, List.getElem?_cons_zero] at c0
      clear hb
      go_wp2_with (rw [HW.out.1, HW.out.2])
      exact leave_plays ((HP.out.noX (fun x hx => List.mem_cons_of_mem _ hx)).fin) HH.out.2.2.2 rfl (fun w' hs => ⟨rfl, hs⟩)
  · obtain rfl : n = i := by omega
    have p1 : ¬ (n : Int) < (n : Int) := by omega
    have hb : Blk wr w.heap.size #[.bool false] 4 := HH.out.1.blk List.mem_cons_self
    have c0 := hb.cell 0
    have g0 := hb.free 0
    simp only [List.getElem?_toArray, List.getElem?_cons_zero] at c0
    clear hb
    go_wp2_with fail
    exact leave_plays HH.out.1.fin HH.out.2.2.2 rfl (fun w' hs => ⟨rfl, hs⟩)
set_option maxRecDepth 100000 in
set_option maxHeartbeats 1000000 in
theorem plays_much (a : Option Addr) (cap len : Nat) (w : World) (h : ¬ len ≤ 80) :
    Calls Try.prog 4 #[.slice a len cap] w fun e w' => e = .returned (.bool true) ∧ Step [] w w' := by
  have q1 : ((80 : Int) < (len : Int)) = True := by simp; omega
  have hb0 := Blk.new w #[.bool false] 4
  have hs0 := (Step.refl [] w).alloc (.cells #[.bool false] 4)
  obtain ⟨W0, hW0⟩ : ∃ W, w.alloc (.cells #[.bool false] 4) = W := ⟨_, rfl⟩
  rw [hW0] at hb0 hs0
  have HW0 := Lib.hid hW0
  have HB0 := Lib.hid (And.intro hb0 hs0)
  clear hb0 hs0 hW0 h
  go_enter Try.func4, Try.ntmps4
  go_wp2_with (rw [HW0.out])
  refine (lives_any _).mono ?_
  rintro e w1 ⟨rfl, hs1⟩
  have HS1 := Lib.hid hs1
  clear hs1
  go_wp2_with fail
  refine (lives_any _).mono ?_
  rintro e w2 ⟨rfl, hs2⟩
  have hb2 := (HB0.out.1.step HS1.out (by simp)).step hs2 (by simp)
  have hst := (HB0.out.2.then HS1.out (by simp)).then hs2 (by simp)
  have c0 := hb2.cell 0
  have g0 := hb2.free 0
  simp only [List.getElem?_toArray, List.getElem?_cons_zero] at c0
  have HF := Lib.hid (And.intro (hb2.set 0 (.bool true)) (hst.setCell (.inr (Nat.le_refl _)) 0 (.bool true)))
  clear hb2 hst hs2
  go_wp2_with fail
  obtain ⟨h1, h2⟩ := HF.out
  have c1 := h1.cell 0
  simp only [Array.setIfInBounds, List.size_toArray] at c1
  refine bodyPost_ret (v := .bool true) ?_ rfl ⟨rfl, h2⟩
  have c2 : (w2.setCell ⟨w.heap.size, 0, none⟩ (.bool true)).cell? ⟨w.heap.size, 0, none⟩ = some (.bool true) := by simpa using h1.cell 0
  simp [results, Try.f4, go_sem, c2]
theorem plays_any (a : Option Addr) (cap : Nat) (l : List Ac) (w : World) (hA : Acts w a l) :
    Calls Try.prog 4 #[.slice a l.length cap] w fun e w' => e = .returned (.bool true) ∧ Step [] w w' := by
  by_cases h : l.length ≤ 80
  · exact plays_in a cap l w hA h
  · exact plays_much a cap _ w h
end Rd
end Go.Proofs.Ytebgojcecgimaaa
end
