/- net: slices.Delete of messages; a net; of, Walled, has, Len. -/
import Derived.Test.YtminpglkipnhcaaNetC
import Derived.Deep.DrawnRows
namespace Go.Proofs.Ytminpglkipnhcaa
set_option linter.unusedVariables false
open Go.RowKit
attribute [local go_sem ↓] exec_load_m exec_store_m
attribute [local go_sem] Try.load_m row_drew Try.store_m

/-- nothing is known of calls -/
def Sp0 (_ : FuncId) (_ : Array Value) (_ : Value) (_ : World) : Prop := True
theorem sp0_law : RelLaw (Step []) Sp0 where
  refl := fun w => Step.refl [] w
  trans := fun w w' w'' h h' => h.then h' (by simp)
  stable := fun f args v w w' h hs => trivial

set_option maxRecDepth 20000 in
set_option maxHeartbeats 2000000 in
theorem del_any (base g n cap i : Nat) (L : List Ms) (w : World) (h : w.ownsRow base 31 11 (.slice (some ⟨g, 0, none⟩) n cap) n (flatM L)) (hi : i < n) (hn : n ≤ 1000) :
    Calls Try.prog 35 #[.slice (some ⟨g, 0, none⟩) n cap, .int .i64 (i : Int), .int .i64 ((i : Int) + 1)] w fun e w' =>
      e = .returned (.slice (some ⟨g, 0, none⟩) (n - 1) cap) ∧ w'.ownsRow base 31 11 (.slice (some ⟨g, 0, none⟩) (n - 1) cap) (n - 1) (flatM (L.eraseIdx i)) ∧ Step [g] w w' := by
  obtain ⟨i0, hi0', hz0, hz1, hz2⟩ := infoM_parts
  have hi0 := hi0'
  have hcap : n ≤ cap ∧ cap ≤ maxLen := by
    rcases h.2 with ⟨hv, _⟩ | ⟨g', cap', cur, hv, _, _, h1, h2, _⟩
    · cases hv
    · cases hv
      exact ⟨h1, h2⟩
  obtain ⟨hc1, hc2⟩ := hcap
  unfold maxLen at hc2
  have hml : (flatM L).length = n * 11 := h.1
  have hLn : L.length = n := by rw [flatM_len] at hml; omega
  obtain ⟨m, rfl⟩ : ∃ m, n = m + 1 := ⟨n - 1, by omega⟩
  have hp1 : ((i : Int) == (i : Int) + 1) = false := by simp; omega
  have hp2 : (0 : Int) ≤ (i : Int) := by omega
  have hp3 : (i : Int) ≤ (i : Int) + 1 := by omega
  have hp4 : (i : Int) + 1 ≤ ((m + 1 : Nat) : Int) := by omega
  have hp5 : ((m + 1 : Nat) : Int) ≤ (cap : Int) := by omega
  have hp6 : (i : Int) ≤ (cap : Int) := by omega
  have hp7 : (i : Int) + 1 ≤ (cap : Int) := by omega
  rw [show m + 1 - 1 = m from rfl]
  have hown0 := owns_shrink h (show i ≤ m + 1 by omega)
  have HT := Lib.hid (show (flatM L).take (i * 11) ++ (flatM L).drop ((i + 1) * 11) = flatM (L.eraseIdx i) from (flatF_erase msC_len L i).symm)
  have HO := Lib.hid hown0
  have H1 := Lib.hid (fun u hu => flatM_one L u (List.mem_of_mem_drop (i := (i + 1) * 11) hu))
  have HC := Lib.hid (fun (j : Nat) (u : Value) (hu : ((flatM L).drop ((i + 1) * 11))[j]? = some u) => (show w.cell? ⟨g, (i + 1) * 11 + j, none⟩ = some u from by
    rw [List.getElem?_drop] at hu
    exact owns_range h ((i + 1) * 11) ((flatM L).drop ((i + 1) * 11)) (fun j u hu => by rwa [List.getElem?_drop] at hu) j u (by rw [List.getElem?_drop]; exact hu)))
  have HL := Lib.hid hml
  clear hown0 hml h
  go_enter Try.func35, Try.ntmps35
  go_wp2_with fail
  have hne : Nonempty (ClsW (Step [] w.drew)) := ⟨⟨_, Step.refl _ _⟩⟩
  have hmi : i + (m - i) = m := by omega
  have hdl : ((flatM L).drop ((i + 1) * 11)).length = (m - i) * 11 := by rw [List.length_drop, HL.out]; omega
  have fin : Hid (∀ w7 w8 : World, Step [] w.drew w7 → w8.ownsRow base 31 11 (.slice (some ⟨g, 0, none⟩) (i + (m - i)) cap) (i + (m - i)) ((flatM L).take (i * 11) ++ (flatM L).drop ((i + 1) * 11)) → w7.grownBy w8 (some g) → ∀ c, ∃ w9, (∀ ty, (Builtin.clear_ #[38] ty #[.slice (some ⟨g, m * 11, none⟩) 1 c]).run Try.prog w8 = .ok (.tuple #[]) w9) ∧ w9.ownsRow base 31 11 (.slice (some ⟨g, 0, none⟩) m cap) m (flatM (L.eraseIdx i)) ∧ Step [g] w w9) := by
    refine Lib.hid (fun w7 w8 hs7 h8 hg8 c => ?_)
    rw [hmi, HT.out] at h8
    obtain ⟨ys, hy1, hy2⟩ := owns_widen h8 (show m ≤ m + 1 by omega) hc1
    obtain ⟨w9, k1, k2, k3⟩ := clear_own (P := Try.prog) (k := m) c hy1 Try.underlying38 zeroM rfl (fun v hv => msC_one ms0 v (by have : v ∈ (msC ms0).toArray.toList := hv; simpa using this)) (by omega)
    rw [show m + 1 - m = 1 by omega] at k1
    rw [hy2] at k2
    exact ⟨w9, k1, k2, ((((Step.refl [] w).drew.then hs7 (by simp)).mono (by simp)).grown hg8 (fun k hk => by cases hk; exact .inl (by simp))).then k3 (by simp)⟩
  clear hi0 hz0 hz2
  have HI := Lib.hid (And.intro hi0' hz1)
  clear hi0' hz1
  by_cases hci : cap = i + 1
  · have hmi2 : m = i := by omega
    subst hci
    subst hmi2
    refine wp_region_rel_tail sp0_law 6 (by kernel_rfl) (by kernel_rfl) ?_
    simp only [List.take_succ_cons, List.take_zero, List.drop_succ_cons, List.drop_zero]
    refine wpR_pre sp0_law anti_tail 6 _ _ _ ?_ rfl
    simp only [List.take_succ_cons, List.take_zero, List.drop_succ_cons, List.drop_zero]
    repeat (go_big_quiet_step (fail))
    refine wpQuiet_nil ?_
    unfold wpR
    intro w7 hs7 _
    have hs70 : Step [] w w7 := (Step.refl [] w).drew.then hs7 (by simp)
    have hnil : (flatM L).drop ((m + 1) * 11) = [] := List.eq_nil_of_length_eq_zero (by rw [hdl]; simp)
    refine wpList_append_fits_any _ rfl (.tmp 22) (.tmp 25) 38 rfl base 31 i0 11 Try.underlying38 HI.out.1 HI.out.2 g m (m + 1) ((flatM L).take (m * 11)) rfl (owns_step HO.out hs70 (by simp)) (some ⟨g, 0, none⟩) 0 0 [] rfl rfl (fun h => by cases h) (fun ad he j u hu => by simp at hu) (fun u hu => by cases hu) (by omega) ?_
    intro w8 ho8 hg8
    obtain ⟨w9, k1, k2, k3⟩ := fin.out w7 w8 hs7 (by rw [hnil]; simpa using ho8) hg8 1
    have HK := Lib.hid (And.intro k2 k3)
    rw [Nat.add_zero]
    clear k2 k3 ho8 hg8 hs7 hs70 fin hdl hnil
    go_wp2_with fail
    go_ret
    exact ⟨rfl, HK.out⟩
  · have hci2 : ¬ (cap : Int) = (i : Int) + 1 := by omega
    have hci3 : ¬ cap = i := by omega
    have hci4 : ¬ cap = m := by omega
    refine wp_region_rel_tail sp0_law 6 (by kernel_rfl) (by kernel_rfl) ?_
    simp only [List.take_succ_cons, List.take_zero, List.drop_succ_cons, List.drop_zero]
    refine wpR_pre sp0_law anti_tail 6 _ _ _ ?_ rfl
    simp only [List.take_succ_cons, List.take_zero, List.drop_succ_cons, List.drop_zero]
    repeat (go_big_quiet_step (fail))
    refine wpQuiet_nil ?_
    unfold wpR
    intro w7 hs7 _
    have hs70 : Step [] w w7 := (Step.refl [] w).drew.then hs7 (by simp)
    have hglt := (foot_lt HO.out g (by simp [foot_some])).2
    refine wpList_append_fits_any _ rfl (.tmp 22) (.tmp 25) 38 rfl base 31 i0 11 Try.underlying38 HI.out.1 HI.out.2 g i cap ((flatM L).take (i * 11)) rfl (owns_step HO.out hs70 (by simp)) (some ⟨g, (i + 1) * 11, none⟩) (m - i) (cap - (i + 1)) ((flatM L).drop ((i + 1) * 11)) rfl hdl (fun h => by cases h) (fun ad he j u hu => by
      cases he
      rw [Go.Proofs.Ytminpglkipnhcaa.add_plain, hs70.cell hglt (by simp)]
      exact HC.out j u hu) H1.out (by omega) ?_
    intro w8 ho8 hg8
    obtain ⟨w9, k1, k2, k3⟩ := fin.out w7 w8 hs7 ho8 hg8 (cap - m)
    have HK := Lib.hid (And.intro k2 k3)
    rw [hmi]
    clear k2 k3 ho8 hg8 hs7 hs70 fin hdl
    go_wp2_with fail
    go_ret
    exact ⟨rfl, HK.out⟩
end Go.Proofs.Ytminpglkipnhcaa
