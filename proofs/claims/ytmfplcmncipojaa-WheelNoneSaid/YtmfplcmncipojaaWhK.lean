/- complinelaw10.lives. -/
import Derived.Test.YtmfplcmncipojaaWhI
import Derived.Test.YtmfplcmncipojaaWhJ
import Derived.Test.YtmfplcmncipojaaWhE
namespace Go.Proofs.Ytmfplcmncipojaa
set_option linter.unusedVariables false
set_option linter.unusedSimpArgs false
open Go.RowKit Go.Maps

def nA : ByteArray := ⟨#[97]⟩
def nB : ByteArray := ⟨#[98]⟩
def nC : ByteArray := ⟨#[99]⟩
def T0 : ByteArray → Option Int := fun _ => none
def T1 : ByteArray → Option Int := upd T0 nB (some 5)
def T2 : ByteArray → Option Int := upd T1 nA (some 5)
def T3 : ByteArray → Option Int := upd T2 nC (some 900000)
theorem tim0 : Tim T0 [] := ⟨by simp, (fun x hx => by cases hx), (fun x hx => by simp [T0]), (fun x a h => by cases h), by simp⟩
theorem ab : nA ≠ nB := by decide
theorem ac : nA ≠ nC := by decide
theorem bc : nB ≠ nC := by decide
theorem T3_eq (x : ByteArray) (a : Int) : T3 x = some a ↔ (x = nC ∧ a = 900000) ∨ (x = nA ∧ a = 5) ∨ (x = nB ∧ a = 5) := by
  unfold T3 T2 T1 T0 upd
  by_cases h1 : x = nC
  · subst h1
    have e1 := ac
    have e2 := bc
    simp [e1.symm, e2.symm, eq_comm]
  · by_cases h2 : x = nA
    · subst h2
      have e1 := ab
      simp [h1, e1, eq_comm]
    · by_cases h3 : x = nB
      · subst h3
        simp [h1, h2, eq_comm]
      · simp [h1, h2, h3]
theorem perm_by {l m : List (ByteArray × Int)} (h1 : (l.map Prod.fst).Nodup) (h2 : m.Nodup) (h : ∀ p, p ∈ l ↔ p ∈ m) : l.Perm m := perm_of_nodup ((List.pairwise_map.1 h1).imp fun h e => h (by rw [e])) h2 h
theorem sized (x : ByteArray) (h : x = nA ∨ x = nB ∨ x = nC) : x.size ≤ maxLen := by
  rcases h with rfl | rfl | rfl <;> decide
theorem two_of {l : List (ByteArray × Int)} (hm : ∀ x a, (x, a) ∈ l ↔ x.size ≤ maxLen ∧ T3 x = some a ∧ a ≤ 5) (hn : (l.map Prod.fst).Nodup) (hs : Srt l) : l = [(nA, 5), (nB, 5)] := by
  have hp : l.Perm [(nA, 5), (nB, 5)] := perm_by hn (by decide) (fun p => by
    obtain ⟨x, a⟩ := p
    rw [hm, T3_eq]
    constructor
    · rintro ⟨_, (⟨_, rfl⟩ | ⟨rfl, rfl⟩ | ⟨rfl, rfl⟩), h⟩
      · omega
      · simp
      · simp
    · intro h
      simp at h
      rcases h with ⟨rfl, rfl⟩ | ⟨rfl, rfl⟩
      · exact ⟨sized _ (.inl rfl), .inr (.inl ⟨rfl, rfl⟩), by omega⟩
      · exact ⟨sized _ (.inr (.inl rfl)), .inr (.inr ⟨rfl, rfl⟩), by omega⟩)
  have hl : l.length = 2 := hp.length_eq
  match l, hl, hp, hs with
  | [p, q], _, hp, hs =>
    have hq := hs 0 1 (by omega) (by simp)
    have h1 : p ∈ [(nA, (5 : Int)), (nB, 5)] := hp.mem_iff.1 (by simp)
    have h2 : q ∈ [(nA, (5 : Int)), (nB, 5)] := hp.mem_iff.1 (by simp)
    have h3 : p ≠ q := by
      have := hp.nodup_iff.2 (by decide)
      simp at this
      exact this
    simp only [List.mem_cons, List.not_mem_nil, or_false] at h1 h2
    rcases h1 with rfl | rfl <;> rcases h2 with rfl | rfl
    · exact absurd rfl h3
    · rfl
    · exact absurd hq (by decide)
    · exact absurd rfl h3
theorem one_of {l : List (ByteArray × Int)} (hm : ∀ x a, (x, a) ∈ l ↔ x.size ≤ maxLen ∧ restT 5 T3 x = some a ∧ a ≤ 1000000) (hn : (l.map Prod.fst).Nodup) : l = [(nC, 900000)] := by
  have hr : ∀ x a, restT 5 T3 x = some a ↔ x = nC ∧ a = 900000 := fun x a => by
    rw [restT_eq]
    constructor
    · intro h
      obtain ⟨b, hb, hc⟩ := Option.bind_eq_some_iff.1 h
      split at hc
      · cases hc
      · cases hc
        rcases (T3_eq x _).1 hb with h | ⟨_, rfl⟩ | ⟨_, rfl⟩
        · exact h
        · omega
        · omega
    · rintro ⟨rfl, rfl⟩
      rw [(T3_eq nC 900000).2 (.inl ⟨rfl, rfl⟩)]
      rfl
  have hp : l.Perm [(nC, 900000)] := perm_by hn (by decide) (fun p => by
    obtain ⟨x, a⟩ := p
    rw [hm, hr]
    constructor
    · rintro ⟨_, ⟨rfl, rfl⟩, _⟩
      simp
    · intro h
      simp at h
      obtain ⟨rfl, rfl⟩ := h
      exact ⟨sized _ (.inr (.inr rfl)), ⟨rfl, rfl⟩, by omega⟩)
  exact List.perm_singleton.1 hp
theorem own_first {w : World} {B n : Nat} {v : Value} {x : ByteArray} {a : Int} {r : List (ByteArray × Int)} (h : w.ownsRow B 37 2 v (n + 1) (((x, a) :: r).flatMap encT)) : ∃ g cap, v = .slice (some ⟨g, 0, none⟩) (n + 1) cap ∧ B ≤ g ∧ g < w.heap.size ∧ w.cell? ⟨g, 0, none⟩ = some (.string x) := by
  obtain ⟨hlen, h2⟩ := h
  rcases h2 with ⟨h3, h4⟩ | ⟨g, cap, cur, rfl, hb, hh, hn, hc, hsz, htake⟩
  · omega
  · have hbk : Blk w g cur 37 := hh
    refine ⟨g, cap, rfl, hb, hbk.lt, ?_⟩
    rw [hbk.cell 0]
    have h0 : (cur.toList.take ((n + 1) * 2))[0]? = some (.string x) := by
      rw [htake]
      rfl
    rw [List.getElem?_take, if_pos (by omega), Array.getElem?_toList] at h0
    exact h0
theorem wh_lt {w : World} {wb : Nat} {mb : Nat → Nat} {hb : Nat} {now most : Int} {n : Nat} {W : ByteArray → Option (Int × Int)} {S : Nat → ByteArray → Option Int} (h : Wh w wb mb hb now most n W S) : ∀ k, k ∈ wb :: mapsF mb hb → k < w.heap.size := fun k hk => by
  rcases List.mem_cons.1 hk with rfl | hk
  · exact h.blk.lt
  · rcases mem_mapsF.1 hk with rfl | ⟨s, hs, rfl⟩
    · exact h.wh.lt
    · exact (h.mp s hs).lt

set_option maxRecDepth 20000 in
set_option maxHeartbeats 4000000 in
theorem wlives_any (w : World) : Calls Try.prog 7 #[] w fun e w' => e = .returned (.bool true) ∧ Step [] w w' := by
  go_enter Try.func7, Try.ntmps7
  go_wp2_with fail
  refine (wnew_any 0 9 w).mono ?_
  rintro e w1 ⟨hs1, ⟨_, _, _, _, wb, mb, hb, rfl, hW1, hF⟩ | ⟨hbad, _⟩⟩
  · have HF := Lib.hid hF
    have HW1 := Lib.hid (show Wh w1 wb mb hb 0 9 ([] : List ByteArray).length (WL T0 (PI 0 T0)) (SL T0 (PI 0 T0)) from hW1.congr (fun _ _ => rfl) (fun s x _ => by unfold SL T0; simp))
    have HS1 := Lib.hid hs1
    clear hs1 hW1 hF
    have hnew : ∀ k, k ∈ mapsF mb hb → w.heap.size ≤ k := fun k hk => HF.out k (List.mem_cons_of_mem _ hk)
    have HNW := Lib.hid hnew
    clear hnew
    unfold ptr
    go_wp2_with fail
    have A1 := Lib.hid (wadd_any wb mb hb 0 9 T0 [] nB 5 w1 HW1.out tim0 (by omega) (by omega) (sized _ (.inr (.inl rfl))) (by simp))
    unfold ptr at A1
    refine A1.out.mono ?_
    rintro e w2 ⟨hs2, ⟨hbad, _⟩ | ⟨_, _, _, rfl, hW2⟩⟩
    · exfalso
      rcases hbad with ⟨h | h | h, _⟩ | ⟨_, h, _⟩ | ⟨_, _, h, _⟩
      · exact absurd h (by decide)
      · omega
      · omega
      · exact h rfl
      · simp at h
    have HW2 := Lib.hid (show Wh w2 wb mb hb 0 9 [nB].length (WL T1 (PI 0 T1)) (SL T1 (PI 0 T1)) from hW2)
    have HS2 := Lib.hid (HS1.out.then hs2 (fun k hk => .inr (HNW.out k hk)))
    have t1 : Tim T1 [nB] := add_tim tim0 (sized _ (.inr (.inl rfl))) rfl ⟨by omega, by omega⟩ (by simp)
    have HT1 := Lib.hid t1
    clear hs2 hW2 t1 A1 HW1 HS1
    go_wp2_with fail
    have A2 := Lib.hid (wadd_any wb mb hb 0 9 T1 [nB] nA 5 w2 HW2.out HT1.out (by omega) (by omega) (sized _ (.inl rfl)) (by simp))
    unfold ptr at A2
    refine A2.out.mono ?_
    rintro e w3 ⟨hs3, ⟨hbad, _⟩ | ⟨_, _, _, rfl, hW3⟩⟩
    · exfalso
      rcases hbad with ⟨h | h | h, _⟩ | ⟨_, h, _⟩ | ⟨_, _, h, _⟩
      · exact absurd h (by decide)
      · omega
      · omega
      · exact h rfl
      · simp at h
    have HW3 := Lib.hid (show Wh w3 wb mb hb 0 9 [nA, nB].length (WL T2 (PI 0 T2)) (SL T2 (PI 0 T2)) from hW3)
    have HS3 := Lib.hid (HS2.out.then hs3 (fun k hk => .inr (HNW.out k hk)))
    have t2 : Tim T2 [nA, nB] := add_tim HT1.out (sized _ (.inl rfl)) rfl ⟨by omega, by omega⟩ (by simp)
    have HT2 := Lib.hid t2
    clear hs3 hW3 t2 A2 HW2 HS2
    go_wp2_with fail
    have A3 := Lib.hid (wadd_any wb mb hb 0 9 T2 [nA, nB] nC 900000 w3 HW3.out HT2.out (by omega) (by omega) (sized _ (.inr (.inr rfl))) (by simp))
    unfold ptr at A3
    refine A3.out.mono ?_
    rintro e w4 ⟨hs4, ⟨hbad, _⟩ | ⟨_, _, _, rfl, hW4⟩⟩
    · exfalso
      rcases hbad with ⟨h | h | h, _⟩ | ⟨_, h, _⟩ | ⟨_, _, h, _⟩
      · exact absurd h (by decide)
      · omega
      · omega
      · exact h rfl
      · simp at h
    have HW4 := Lib.hid (show Wh w4 wb mb hb 0 9 [nC, nA, nB].length (WL T3 (PI 0 T3)) (SL T3 (PI 0 T3)) from hW4)
    have HS4 := Lib.hid (HS3.out.then hs4 (fun k hk => .inr (HNW.out k hk)))
    have t3 : Tim T3 [nC, nA, nB] := add_tim HT2.out (sized _ (.inr (.inr rfl))) rfl ⟨by omega, by omega⟩ (by simp)
    have HT3 := Lib.hid t3
    clear hs4 hW4 t3 A3 HW3 HS3
    go_wp2_with fail
    have B1 := Lib.hid (wturn_any wb mb hb 0 5 9 T3 [nC, nA, nB] w4 HW4.out HT3.out (by omega) (by omega))
    unfold ptr at B1
    refine B1.out.mono ?_
    rintro e w5 (⟨hbad, _⟩ | ⟨_, _, v1, l1, rfl, hm1, hn1, hsr1, ho1, hW5, hs5⟩)
    · omega
    have hl1 := two_of hm1 hn1 hsr1
    subst hl1
    obtain ⟨g1, cp1, rfl, hg1, hg1l, hc1⟩ := own_first ho1
    have hne1 : g1 ∉ wb :: mapsF mb hb := fun hk => by
      have := wh_lt HW4.out g1 hk
      omega
    have HW5 := Lib.hid hW5
    have HG1 := Lib.hid (And.intro hne1 (And.intro hg1l hc1))
    have HS5 := Lib.hid (HS4.out.then hs5 (fun k hk => .inr (HF.out k hk)))
    clear hm1 hn1 hsr1 ho1 hW5 hs5 hg1 hg1l hc1 hne1 B1 HW4 HS4
    go_wp2_with fail
    have B2 := Lib.hid (wturn_any wb mb hb 5 1000000 9 (restT 5 T3) _ w5 HW5.out (rest_tim HT3.out) (by omega) (by omega))
    unfold ptr at B2
    refine B2.out.mono ?_
    rintro e w6 (⟨hbad, _⟩ | ⟨_, _, v2, l2, rfl, hm2, hn2, _, ho2, _, hs6⟩)
    · omega
    have hl2 := one_of hm2 hn2
    subst hl2
    obtain ⟨g2, cp2, rfl, _, _, hc2⟩ := own_first ho2
    have hc1 : w6.cell? ⟨g1, 0, none⟩ = some (.string nA) := by rw [hs6.cell HG1.out.2.1 HG1.out.1]; exact HG1.out.2.2
    have HS6 := Lib.hid (HS5.out.then hs6 (fun k hk => .inr (HF.out k hk)))
    unfold nA at hc1
    unfold nC at hc2
    clear hm2 hn2 ho2 hs6 B2 HW5 HS5
    go_wp2_with fail
    go_ret
    exact ⟨rfl, HS6.out⟩
  · exact absurd ⟨by omega, by omega, by omega, by omega⟩ hbad
end Go.Proofs.Ytmfplcmncipojaa
