/- QuotaPlays: the law's own model of a ledger; what may tells. -/
import Derived.Test.YthdagklibmdglaaQuoK
import Derived.Test.YthdagklibmdglaaBoth
namespace Go.Proofs.Ythdagklibmdglaa
set_option linter.unusedVariables false
set_option linter.unusedSimpArgs false
open Go.RowKit Go.Maps
noncomputable abbrev sK := strKey (P := Try.prog) (k := 9) Try.underlying9
theorem str_eq (x y : ByteArray) : (x.toList == y.toList) = decide (x = y) := by
  rw [Lib.toList_data, Lib.toList_data]
  by_cases h : x = y
  · subst h
    simp
  · rw [decide_eq_false h]
    simp only [beq_eq_false_iff_ne]
    exact fun e => h (by
      obtain ⟨⟨a⟩⟩ := x
      obtain ⟨⟨b⟩⟩ := y
      simp at e
      rw [e])
/-- the law's own: told, has, most, in blocks F -/
structure Mo (w : World) (F : List Nat) (base : Nat) (v : Value) (hx my n : Nat) (L : List ByteArray) (fm g : ByteArray → Option Int) : Prop where
  foot : F = hx :: my :: foot v
  has : MapF sK elN w hx n fm
  most : MapF sK elN w my n g
  row : w.ownsRow base 9 1 v L.length (L.map Value.string)
  ne : hx ≠ my
  n1 : hx ∉ Go.Proofs.Ythdagklibmdglaa.foot v
  n2 : my ∉ Go.Proofs.Ythdagklibmdglaa.foot v
section
variable {w w' : World} {F H : List Nat} {base hx my n : Nat} {v : Value} {L : List ByteArray} {fm g : ByteArray → Option Int}
theorem Mo.step (h : Mo w F base v hx my n L fm g) (hs : Step H w w') (hd : Dj F H) : Mo w' F base v hx my n L fm g := by
  obtain ⟨rfl, h1, h2, h3, h4, h5, h6⟩ := h
  exact ⟨rfl, h1.step hs (hd hx (by simp)), h2.step hs (hd my (by simp)), owns_step h3 hs (fun k hk => hd k (by simp [hk])), h4, h5, h6⟩
theorem Mo.mono (h : Mo w F base v hx my n L fm g) {m : Nat} (hm : n ≤ m) : Mo w F base v hx my m L fm g := by
  obtain ⟨rfl, h1, h2, h3, h4, h5, h6⟩ := h
  exact ⟨rfl, h1.mono hm, h2.mono hm, h3, h4, h5, h6⟩
theorem Mo.live (h : Mo w F base v hx my n L fm g) : Live w F := by
  obtain ⟨rfl, h1, h2, h3, h4, h5, h6⟩ := h
  intro k hk
  simp only [List.mem_cons] at hk
  rcases hk with rfl | rfl | hk
  · exact h1.lt
  · exact h2.lt
  · exact owns_live h3 k hk
theorem Mo.look (h : Mo w F base v hx my n L fm g) (s : ByteArray) (hs : s.size ≤ maxLen) : (Instr.lookup 34 (.map (some hx)) (.string s) false).run Try.prog w = .ok (.int .i64 (hasV fm s)) w :=
  h.has.run Try.underlying34 0 (zeroN _) s hs
theorem Mo.look_most (h : Mo w F base v hx my n L fm g) (s : ByteArray) (hs : s.size ≤ maxLen) : (Instr.lookup 34 (.map (some my)) (.string s) false).run Try.prog w = .ok (.int .i64 (hasV g s)) w :=
  h.most.run Try.underlying34 0 (zeroN _) s hs
theorem Mo.form (h : Mo w F base v hx my n L fm g) : ∃ a c, v = .slice a L.length c := by
  rcases h.row.2 with ⟨h1, h2⟩ | ⟨g, c, cur, h1, _⟩
  · exact ⟨none, 0, by rw [h1, h2]⟩
  · exact ⟨_, c, h1⟩
/-- one that was told -/
theorem Mo.at (h : Mo w F base v hx my n L fm g) {a : Option Addr} {m c : Nat} (hv : v = .slice a m c) (i : Nat) (hi : i < L.length) : ∃ b, a = some ⟨b, 0, none⟩ ∧ w.cell? ⟨b, i, none⟩ = some (.string (L.getD i ⟨#[]⟩)) := by
  have hr := h.row
  obtain ⟨b, c', hv', _⟩ := owns_form hr (by omega)
  rw [hv] at hv'
  injection hv' with h1 h2 h3
  subst h1 h2 h3
  rw [hv] at hr
  refine ⟨b, rfl, ?_⟩
  rw [World.ownsRow.cellAt hr i (by omega)]
  simp [List.getD, hi]
end
set_option maxHeartbeats 1000000 in
theorem may_any (s : ByteArray) (w : World) (kb yb eb : Nat) (each : Int) {F : List Nat} {base hx my n : Nat} {v : Value} {L : List ByteArray} {fm g : ByteArray → Option Int}
    (hk : Blk w kb #[v] 33) (hy : Blk w yb #[.map (some my)] 34) (he : Blk w eb #[.int .i64 each] 3) (hM : Mo w F base v hx my n L fm g) (hL : Told g L) (h16 : L.length ≤ 16) (hs : s.size ≤ maxLen) :
    Calls Try.prog 12 #[.string s, .pointer (some ⟨kb, 0, none⟩), .pointer (some ⟨yb, 0, none⟩), .pointer (some ⟨eb, 0, none⟩)] w fun e w' => e = .returned (.int .i64 (mayV each g s)) ∧ w = w' := by
  obtain ⟨a, cap, rfl⟩ := hM.form
  have k0 := hk.cell 0
  have y0 := hy.cell 0
  have e0 := he.cell 0
  simp only [List.getElem?_toArray, List.getElem?_cons_zero] at k0 y0 e0
  have hlk := hM.look_most s hs
  have HM := Lib.hid hM
  have HL := Lib.hid hL
  obtain ⟨N, hN⟩ : ∃ N, L.length = N := ⟨_, rfl⟩
  have HN := Lib.hid hN
  rw [hN] at k0 h16
  clear hM hL hk hy he hN
  go_enter Try.func12, Try.ntmps12
  go_wp2_with fail
  go_loopw [10] (fun y wr => ∃ k : Nat, y = .int .i64 (k : Int) ∧ k ≤ N ∧ w = wr ∧ ∀ j, j < k → L.getD j ⟨#[]⟩ ≠ s) (fun y _ => N - (intOf y).toNat)
  case atStart => exact ⟨0, rfl, Nat.zero_le _, rfl, fun j hj => by omega⟩
  case round =>
    obtain ⟨k, rfl, hkN, rfl, hno⟩ := hrel
    have HNO := Lib.hid hno
    clear hno
    by_cases hlt : k < N
    · obtain ⟨b, rfl, hc⟩ := HM.out.at rfl k (by rw [HN.out]; exact hlt)
      have p1 : (k : Int) < (N : Int) := by omega
      have p2 : (0 : Int) ≤ (k : Int) := by omega
      obtain ⟨x, hx⟩ : ∃ x, L.getD k ⟨#[]⟩ = x := ⟨_, rfl⟩
      rw [hx] at hc
      have hse := str_eq x s
      by_cases hxs : x = s
      · have hv : hasV g s = mayV each g s := by
          have hm : s ∈ L := by
            rw [← hxs, ← hx]
            simp [List.getD, show k < L.length by rw [HN.out]; exact hlt]
          have := (HL.out.mem s).2 hm
          unfold hasV mayV
          cases h : g s with
          | none => exact absurd h this
          | some z => rfl
        rw [hv] at hlk
        subst hxs
        simp only [decide_true] at hse
        clear hv hx
        go_wp2_with fail
        go_ret
        exact ⟨rfl, rfl⟩
      · simp only [hxs, decide_false] at hse
        have hno2 : ∀ j, j < k + 1 → L.getD j ⟨#[]⟩ ≠ s := fun j hj => by
          by_cases hjk : j = k
          · subst hjk
            rw [hx]
            exact hxs
          · exact HNO.out j (by omega)
        have HNO2 := Lib.hid hno2
        clear hno2 hx
        go_wp2_with fail
        go_roundw
        case rel => exact ⟨k + 1, by go_num, hlt, trivial, HNO2.out⟩
        case measure => simp [intOf]; omega
    · obtain rfl : N = k := by omega
      have hv : mayV each g s = each := by
        have hm : s ∉ L := fun hm => by
          obtain ⟨j, hj, he⟩ := List.getElem_of_mem hm
          refine HNO.out j (by rw [← HN.out]; exact hj) ?_
          simp [List.getD, hj, he]
        unfold mayV
        cases h : g s with
        | none => rfl
        | some z => exact absurd ((HL.out.mem s).1 (by rw [h]; simp)) hm
      have HV := Lib.hid hv
      have p1 : ¬ (N : Int) < (N : Int) := by omega
      clear hv hlk
      go_wp2_with fail
      go_ret
      exact ⟨by rw [HV.out]; rfl, rfl⟩
end Go.Proofs.Ythdagklibmdglaa
