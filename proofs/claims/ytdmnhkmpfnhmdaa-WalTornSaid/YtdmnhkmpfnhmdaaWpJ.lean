/- Several texts in one: WalTn, WalTo. -/
import Derived.Test.YtdmnhkmpfnhmdaaWpH
section
namespace Go.Proofs.Ytdmnhkmpfnhmdaa
set_option linter.unusedVariables false
open Go.RowKit

theorem cut_ext {X S : List (List UInt8)} {a n : Nat} (h : ∀ j, j < n → X[a + j]? = S[a + j]?) : cutS X a n = cutS S a n := by
  apply List.ext_getElem?
  intro j
  rw [cutS_at, cutS_at]
  by_cases hj : j < n
  · rw [if_pos hj, if_pos hj, h j hj]
  · rw [if_neg hj, if_neg hj]
theorem hlf_cut (X : List (List UInt8)) (i : Nat) : hlf X [] i = cutS X (i * (X.length / 2)) (X.length / 2) := rfl
theorem told_nil (L : List (List UInt8)) (h : halfT L = 0) : toldR L = [] := by
  unfold toldR halfB
  rw [h, if_neg (by omega), scanR_bad (nextR_nil 0)]
  rfl
theorem isSeal_255 : isSeal (255, []) = true := rfl
theorem any_seal {l : List (UInt8 × List UInt8)} (h : ∀ x ∈ l, x.1.toNat ≠ 255) : l.any isSeal = false := by
  rw [List.any_eq_false]
  intro x hx hc
  have h1 := isSeal_iff x.1 x.2
  have h2 : isSeal x = isSeal (x.1, x.2) := rfl
  rw [h2, h1] at hc
  simp at hc
  exact h x hx hc
theorem torn_pick {n : Nat} {S Sc : List (List UInt8)} {Wx : List (Nat × List UInt8)} {l : List (UInt8 × List UInt8)} (hn : S.length / 2 = n) (hSc : Sc.length = S.length)
    (H : LogI n 0 1 (chainB 0 ([(255, [])] ++ l)) (chainB 0 ([(255, [])] ++ l)) S []) (H' : LogI n 1 2 (chainB 0 (l ++ [(255, [])])) (chainB 0 (l ++ [(255, [])])) Sc [])
    (hW : ∀ y ∈ Wx, ∃ q, q < n ∧ y = (n + q, Sc.getD (n + q) [])) (hk : ∀ x ∈ l, x.1.toNat ≠ 255) (hd : ∀ x ∈ l, x.2.length ≤ 1024) :
    ∃ j, j ≤ 1 ∧ pick (syncS Wx S) [] 2 = some j ∧ recsR (toldR (hlf (syncS Wx S) [] j)) = l ∧ maxT (syncS Wx S) ≤ 2 := by
  obtain ⟨X, hX⟩ : ∃ X, syncS Wx S = X := ⟨_, rfl⟩
  have hXl : X.length = S.length := by rw [← hX, syncS_len]
  have hf := H.fits
  have hpk : ∀ i s, X[i]? = some s → S[i]? = some s ∨ (i, s) ∈ Wx := fun i s h => by
    rw [← hX] at h
    exact setl_pick _ _ _ _ i s h
  have c1 := H.crash (by decide) (fun _ => false) 0
  have c2 := H'.crash (by decide) (fun _ => false) 0
  have hs0 : setl (fun _ => false) [] S 0 = S := rfl
  have hs1 : setl (fun _ => false) [] Sc 0 = Sc := rfl
  rw [hs0] at c1
  rw [hs1] at c2
  rw [hX]
  have hd0 : ∀ r ∈ [((255 : UInt8), ([] : List UInt8))] ++ l, r.2.length ≤ 1024 := fun r hr => by
    rcases List.mem_append.1 hr with h | h
    · simp at h
      subst h
      exact Nat.zero_le _
    · exact hd r h
  have hd1 : ∀ r ∈ l ++ [((255 : UInt8), ([] : List UInt8))], r.2.length ≤ 1024 := fun r hr => by
    rcases List.mem_append.1 hr with h | h
    · exact hd r h
    · simp at h
      subst h
      exact Nat.zero_le _
  have hp0 : 0 < (chainB 0 ([(255, [])] ++ l)).length := by
    rw [chain_len, flens_app, flens_seal]
    omega
  have hp1 : 0 < (chainB 0 (l ++ [(255, [])])).length := by
    rw [chain_len, flens_app, flens_seal]
    omega
  have hn0 : 0 < n := by have := H.most; omega
  -- the first half is as it was
  have hcut : cutS X (0 * n) n = cutS S (0 * n) n := cut_ext (fun j hj => by
    cases hx : X[0 * n + j]? with
    | none =>
      have := List.getElem?_eq_none_iff.1 hx
      rw [List.getElem?_eq_none (by omega)]
    | some s =>
      rcases hpk _ s hx with h | h
      · exact h.symm
      · obtain ⟨q, hq, he⟩ := hW _ h
        simp only [Prod.mk.injEq] at he
        omega)
  have hh0 : hlf X [] 0 = cutS S (0 * n) n := by rw [hlf_cut, hXl, hn, hcut]
  obtain ⟨r1, ⟨R0, r2, r3, r4⟩, -⟩ := c1.read (by decide) hp0
  rw [← hh0] at r1 r2
  obtain ⟨k, k1, k2, k3, -⟩ := told_cut (List.prefix_refl _) r3 r4 hd0
  have ht0 : toldR (hlf X [] 0) = [(255, [])] ++ l := by
    unfold toldR
    rw [r2, k3, List.take_of_length_le k1]
  have hsb0 : sealB X [] 0 = true := by
    unfold sealB
    rw [ht0]
    simp [isSeal]
  have hrec0 : recsR (toldR (hlf X [] 0)) = l := by
    rw [ht0]
    exact recs_sealed [] l (by simp)
  -- the other one
  obtain ⟨L1, hL1⟩ : ∃ L1, hlf X [] 1 = L1 := ⟨_, rfl⟩
  have hL1c : L1 = cutS X (1 * n) n := by rw [← hL1, hlf_cut, hXl, hn]
  have hkey : ∀ j s, L1[j]? = some s → j < n ∧ ((S[1 * n + j]? = some s ∧ turnV s < 1) ∨ Sc[1 * n + j]? = some s) := fun j s hs => by
    rw [hL1c, cutS_at] at hs
    split at hs
    · next hj =>
      refine ⟨hj, ?_⟩
      rcases hpk _ s hs with h | h
      · refine .inl ⟨h, H.old _ s h (fun j' hj' => ?_)⟩
        have := H.most
        omega
      · refine .inr ?_
        obtain ⟨q, hq, he⟩ := hW _ h
        simp only [Prod.mk.injEq] at he
        rw [he.2, ← he.1, List.getD_eq_getElem?_getD, List.getElem?_eq_getElem (by omega)]
        rfl
    · cases hs
  have hcutc : ∀ j s, j < n → Sc[1 * n + j]? = some s → (cutS Sc (1 * n) n)[j]? = some s := fun j s hj h => by
    rw [cutS_at, if_pos hj, h]
  have hmine : HalfI 2 [] (chainB 0 (l ++ [(255, [])])) L1 := ⟨List.nil_prefix, fun j s hs => by
    obtain ⟨hj, h | h⟩ := hkey j s hs
    · exact .inl ⟨by omega, Nat.zero_le _⟩
    · rcases c2.mine.2 j s (hcutc j s hj h) with ⟨h1, h2⟩ | ⟨p, h1, h2, h3, h4⟩
      · exact .inl ⟨h1, Nat.zero_le _⟩
      · exact .inr ⟨p, h1, by simp [chunk], h3, h4⟩⟩
  have hL1l : L1.length = n := by
    rw [hL1c]
    exact cutS_len (by omega)
  have hread := half_read 2 (by decide) L1 [] _ hmine (by rw [hL1l]; exact H'.most)
  have hT1 : halfT L1 = 0 ∨ halfT L1 = 2 := by
    cases hc : L1 with
    | nil => rw [hc] at hL1l; simp at hL1l; omega
    | cons s r =>
      have hs : L1[0]? = some s := by rw [hc]; rfl
      show turnV s = 0 ∨ turnV s = 2
      obtain ⟨hj, ⟨-, h⟩ | h⟩ := hkey 0 s hs
      · exact .inl (by omega)
      · have h3 := H'.there 0 (by omega)
        rw [h3] at h
        cases h
        exact .inr (sec_turn _ _ (by decide))
  have hmax : maxT X ≤ 2 := maxT_le _ _ (fun s hs => by
    obtain ⟨i, hi⟩ := List.mem_iff_getElem?.1 hs
    rcases hpk i s hi with h | h
    · have := c1.all s (List.mem_of_getElem? h)
      omega
    · obtain ⟨q, hq, he⟩ := hW _ h
      simp only [Prod.mk.injEq] at he
      have h2 : s ∈ Sc := by
        rw [he.2, List.getD_eq_getElem?_getD, List.getElem?_eq_getElem (by omega)]
        exact List.getElem_mem _
      exact c2.all s h2)
  have p1 : pick X [] 1 = some 0 := by rw [pick_none (i := 0) rfl, if_pos hsb0]
  by_cases hsb1 : sealB X [] 1 = true
  · have htl : (toldR L1).any isSeal = true := by
      unfold sealB at hsb1
      rw [hL1] at hsb1
      exact hsb1
    have hT2 : halfT L1 = 2 := by
      rcases hT1 with h | h
      · rw [told_nil _ h] at htl
        cases htl
      · exact h
    have hB1 : halfB L1 = halfF 2 L1 := by
      unfold halfB
      rw [hT2, if_pos (by omega)]
    obtain ⟨k', j1, j2, j3, -⟩ := told_cut (R := halfB L1) (rs0 := []) (rs := l ++ [(255, [])]) List.nil_prefix (by rw [hB1]; exact hread.1) (by rw [hB1]; exact hread.2) hd1
    have hk' : k' = l.length + 1 := by
      rcases Nat.lt_or_ge k' (l.length + 1) with h | h
      · exfalso
        have ht : toldR L1 = l.take k' := by
          unfold toldR
          rw [j3, List.take_append_of_le_length (by omega)]
        rw [ht, any_seal (fun x hx => hk x (List.mem_of_mem_take hx))] at htl
        cases htl
      · simp at j2
        omega
    have ht1 : toldR (hlf X [] 1) = l ++ [(255, [])] := by
      rw [hL1]
      unfold toldR
      rw [j3, hk', List.take_of_length_le (by simp)]
    refine ⟨1, Nat.le_refl _, ?_, ?_, hmax⟩
    · rw [pick_some p1, if_pos ⟨hsb1, by rw [r1, hL1, hT2]; omega⟩]
    · rw [ht1]
      have := recs_sealed l [] hk
      rw [List.append_nil, List.append_nil] at this
      exact this
  · refine ⟨0, Nat.zero_le _, ?_, hrec0, hmax⟩
    rw [pick_some p1, if_neg (fun h => hsb1 h.1)]

/-- Open, where a half is picked -/
theorem wl_open_any (base db j : Nat) (lv wv : Value) (S : List (List UInt8)) (W : List (Nat × List UInt8)) (rs : List (UInt8 × List UInt8)) (w : World) (hD : Dsk w base db lv wv S W false) (h4 : 4 ≤ S.length) (hj : j ≤ 1) (hpk : pick S W 2 = some j) (hrs : recsR (toldR (hlf S W j)) = rs) (hmx : maxT (syncS W S) + 1 < 4611686018427387904)
    (hroom : (chainB 0 (rs ++ [(255, [])])).length ≤ S.length / 2 * 55) (hl : rs.length ≤ 300) (hW : W.length + S.length / 2 + rs.length + 2 ≤ 950) (hbase : base ≤ w.heap.size) :
    Calls Try.prog 14 #[.pointer (some ⟨db, 0, none⟩)] w fun e w' => ∃ lb a c rl, e = .returned (.tuple #[.pointer (some ⟨lb, 0, none⟩), .slice a rl.length c, .int .i64 0]) ∧ rl.map Rr.pr = rs ∧ Rcs w' a c rl ∧ Step (footD db lv wv) w w' := by
  have hmx2 : maxT (readS W S 0 S.length) = maxT (syncS W S) := by rw [readS_all]
  refine open_any base db lv wv S W w (maxT (syncS W S)) 0 hD h4 hbase (.inl ⟨by rw [hmx2]; omega, hmx2.symm, rfl⟩) _ (fun hn => by rw [hpk] at hn; cases hn) (fun j' hj' => ?_)
  rw [hpk] at hj'
  cases hj'
  refine ⟨rfl, fun w' bb a c rl hs hbb hblk hrc hrp hrf => ?_⟩
  rw [hrs] at hrp
  have hall : allR rl = rs ++ [(255, [])] := by unfold allR; rw [hrp]
  have hrl : rl.length = rs.length := by simpa using congrArg List.length hrp
  have hD' := hD.step hs (by simp)
  have he : (1 : Int) - (j : Int) = ((1 - j : Nat) : Int) := by omega
  rw [he]
  refine (wl_fresh base db (1 - j) (maxT (syncS W S) + 1) lv wv S W a c rl w' hD' h4 hrc (fun x hx hm => ?_) (by omega) hmx (by omega) (fun x hx => ?_) (Nat.le_trans hbase hs.size) (by omega) (fun s hs2 => ?_)).mono ?_
  · have h1 := (hrf x hx).1
    have h2 := hD.live x hm
    omega
  · have h1 : x.pr ∈ rl.map Rr.pr := List.mem_map.2 ⟨x, hx, rfl⟩
    rw [hrp, ← hrs] at h1
    exact told_data _ _ h1
  · have := le_maxT _ s hs2
    omega
  · rintro e w2 (⟨h1, -, -⟩ | ⟨-, lb, tv, S', rfl, h2, h3, h5, h6⟩)
    · rw [hall] at h1
      omega
    · have hbD : bb ∉ footD db lv wv := fun hm => by
        have := hD.live bb hm
        omega
      refine ⟨lb, rfl, ((hblk.step h6 hbD).cell 1).trans rfl, fun w3 hs3 => ⟨lb, a, c, rl, rfl, hrp, ?_, ?_⟩⟩
      · exact (hrc.stepF h6 (fun x hx hm => by
          have h1 := (hrf x hx).1
          have h2 := hD.live x hm
          omega)).stepF hs3 (by simp)
      · exact ((hs.mono (by simp)).then h6 (fun x hx => .inl hx)).then hs3 (by simp)
end Go.Proofs.Ytdmnhkmpfnhmdaa
end

section
namespace Go.Proofs.Ytdmnhkmpfnhmdaa
set_option linter.unusedVariables false
open Go.RowKit

theorem pad_64 {s : List UInt8} (h : s.length = 64) : pad s = s := by simp [pad, h]
theorem read_one {S : List (List UInt8)} {q : Nat} (h : q < S.length) : readS [] S q 1 = [S.getD q []] := by
  unfold readS cutS
  rw [syncS_nil, List.drop_eq_getElem_cons h, List.getD_eq_getElem?_getD, List.getElem?_eq_getElem h]
  rfl
/-- one sector is read -/
theorem read_sec (base db : Nat) (lv wv : Value) (S : List (List UInt8)) (q : Nat) (w : World) (h : Dsk w base db lv wv S [] false) (hq : q < S.length) :
    Calls Try.prog 16 #[.pointer (some ⟨db, 0, none⟩), .int .i64 (q : Int), .int .i64 1] w fun e w' => ∃ g c, e = .returned (.tuple #[.slice (some ⟨g, 0, none⟩) 64 c, .int .i64 0]) ∧ Bytes w' (some ⟨g, 0, none⟩) (S.getD q []) ∧ (S.getD q []).length = 64 ∧ Step [] w w' := by
  have hl : (S.getD q []).length = 64 := h.len1 _ (by rw [List.getD_eq_getElem?_getD, List.getElem?_eq_getElem hq]; exact List.getElem_mem _)
  refine (read_ok base db lv wv S [] q 1 w h (by decide) (by omega)).mono ?_
  rintro e w' ⟨v, rfl, ho, hs⟩
  rw [read_one hq, flatS_flat] at ho
  have h1 : [S.getD q []].flatten = S.getD q [] := by simp
  rw [h1] at ho
  obtain ⟨g, c, rfl, -⟩ := owns_form ho (by decide)
  obtain ⟨a, c', hv, -, -, -, hb, -⟩ := owns_bytes ho
  cases hv
  exact ⟨g, c, rfl, hb, hl, hs⟩

set_option maxRecDepth 20000 in
set_option maxHeartbeats 2000000 in
theorem torn_any (a b : Option Addr) (cap m capb : Nat) (l : List Rr) (K : Int) (w : World) (hR : Rcs w a cap l) :
    Calls Try.prog 3 #[.slice a l.length cap, .slice b m capb, .int .u64 K] w fun e w' => e = .returned (.bool true) ∧ Step [] w w' := by
  obtain ⟨n, hn⟩ : ∃ n, l.length = n := ⟨_, rfl⟩
  rw [hn]
  have HR := Lib.hid hR
  have HN := Lib.hid hn
  clear hR hn
  go_enter Try.func3, Try.ntmps3
  go_wp2_with fail
  refine (lives_any w).mono ?_
  rintro e w1 ⟨rfl, hs1⟩
  have HS1 := Lib.hid hs1
  clear hs1
  by_cases hn20 : 20 < n
  · have p1 : decide ((20 : Int) < (n : Int)) = true := by simp; omega
    go_wp2_with fail
    refine (lives_any w1).mono ?_
    rintro e w2 ⟨rfl, hs2⟩
    have HS2 := Lib.hid (HS1.out.then hs2 (by simp))
    clear hs2
    go_wp2_with fail
    go_ret
    exact ⟨rfl, HS2.out⟩
  have p1 : decide ((20 : Int) < (n : Int)) = false := by simp; omega
  by_cases hm20 : 20 < m
  · have p2 : decide ((20 : Int) < (m : Int)) = true := by simp; omega
    go_wp2_with fail
    refine (lives_any w1).mono ?_
    rintro e w2 ⟨rfl, hs2⟩
    have HS2 := Lib.hid (HS1.out.then hs2 (by simp))
    clear hs2
    go_wp2_with fail
    go_ret
    exact ⟨rfl, HS2.out⟩
  have p2 : decide ((20 : Int) < (m : Int)) = false := by simp; omega
  go_wp2_with fail
  refine (new_any 200 w1 (by decide) (by decide)).mono ?_
  rintro e w2 ⟨db, lv, rfl, hD, hs2⟩
  have HS2 := Lib.hid (HS1.out.then hs2 (by simp))
  have hz2 := hs2.size
  have HF := Lib.hid (wl_format_new w1.heap.size db 200 lv _ w2 hD (by omega) (by omega) hz2)
  have HL2 := Lib.hid hD.base
  have HZ1 := Lib.hid HS1.out.size
  clear hD hs2
  go_wp2_with fail
  refine HF.out.mono ?_
  rintro e w3 ⟨lb, tv, S', rfl, h3, hS3, -, hs3⟩
  have HS3 := Lib.hid (HS2.out.then hs3 (fun k hk => .inr (Nat.le_trans HZ1.out (HL2.out k hk))))
  have hz3 := hs3.size
  have H3 := Lib.hid h3
  have HS3' := Lib.hid hS3
  clear h3 hs3 hS3
  go_wp2_with fail
  go_loopw [51] (fun j wr => ∃ (i : Nat) (tv wv : Value) (W : List (Nat × List UInt8)), i ≤ n ∧ j = .int .i64 (i : Int) ∧ Wl wr w1.heap.size db lb lv wv tv S' W 0 1 [(255, [])] ([(255, [])] ++ (l.take i).map Rr.pr) ∧ W.length ≤ 3 * i ∧ OkR (l.take i) ∧ Step [] w wr ∧ w2.heap.size ≤ wr.heap.size) (fun j _ => n - (intOf j).toNat)
  case atStart => exact ⟨0, tv, _, [], by omega, rfl, by simpa using H3.out, by simp, fun x hx => absurd hx (by simp), HS3.out, hz3⟩
  case round =>
    obtain ⟨i, tv, wv, W, hi, rfl, hw, hWl, hok, hs, hz⟩ := hrel
    have HW := Lib.hid (And.intro hw (And.intro hWl (And.intro hok (And.intro hs hz))))
    clear hw hWl hok hs hz
    by_cases hlt : i < n
    · have p3 : (i : Int) < (n : Int) := by omega
      have p4 : (0 : Int) ≤ (i : Int) := by omega
      have hRr := HR.out.recs.step HW.out.2.2.2.1
      obtain ⟨b, off, rfl, hblt, c0, c1⟩ := hRr.cells i (by rw [HN.out]; exact hlt)
      have hx : l.getD i rr0 ∈ l := by rw [List.getD_eq_getElem?_getD, List.getElem?_eq_getElem (by rw [HN.out]; exact hlt)]; exact List.getElem_mem _
      obtain ⟨hxr, -⟩ := hRr.data _ hx
      have hmn := map_take_next (l := l) (i := i) (by rw [HN.out]; exact hlt)
      obtain ⟨x, hxe⟩ : ∃ x, l.getD i rr0 = x := ⟨_, rfl⟩
      have HXe := Lib.hid (And.intro hxe hmn)
      rw [hxe] at c0 c1 hxr
      simp only [Rr.sl] at c1
      clear hx hxe hRr hmn
      obtain ⟨DL, hDL⟩ : ∃ DL, x.d.length = DL := ⟨_, rfl⟩
      rw [hDL] at c1
      have HDL := Lib.hid hDL
      clear hDL
      by_cases h60 : 60 < DL
      · have p5 : decide ((60 : Int) < (DL : Int)) = true := by simp; omega
        clear hxr
        go_wp2_with fail
        go_ret
        exact ⟨rfl, HW.out.2.2.2.1.alloc _⟩
      have p5 : decide ((60 : Int) < (DL : Int)) = false := by simp; omega
      by_cases hk : x.k.toNat = 255
      · have p6 : ((x.k.toNat : Int) == 255) = true := by simp; omega
        clear hxr
        go_wp2_with fail
        go_ret
        exact ⟨rfl, HW.out.2.2.2.1.alloc _⟩
      have p6 : ((x.k.toNat : Int) == 255) = false := by simp; omega
      have hfm := flen_most x.pr
      have hfm2 : flen x.pr ≤ 76 := by
        have h1 : x.pr.2.length = x.d.length := rfl
        have := HDL.out
        omega
      have hsa := (Step.refl [] wr).alloc (.cells #[.int .u8 (x.k.toNat : Int), .slice x.a DL x.c] 34)
      have hap := wl_append _ _ _ _ _ _ _ _ _ _ _ _ x.k x.a x.c x.d _ (HW.out.1.step hsa (by simp)) ⟨hxr.bytes.step hsa (by simp), hxr.nil, hxr.max⟩ hk (by rw [HDL.out]; omega) (by
        have h1 : flens ((l.take i).map Rr.pr) ≤ (l.take i).length * 76 := flens_ok HW.out.2.2.1
        have h2 : (l.take i).length ≤ 20 := by rw [List.length_take]; omega
        have h3 : flen (x.k, x.d) = flen x.pr := rfl
        rw [chain_len, flens_app, flens_seal, HS3'.out, h3]
        omega) (by have := HW.out.2.1; omega) (by rw [World.size_alloc]; have := HW.out.2.2.2.2; omega)
      rw [HDL.out] at hap
      have HAp := Lib.hid hap
      clear hap hxr hsa
      go_wp2_with fail
      refine HAp.out.mono ?_
      rintro e w4 ⟨rfl, tv4, wv4, W4, h4, hW4, hs4, -⟩
      have hok2 : OkR (l.take (i + 1)) := okR_next (by rw [HN.out]; exact hlt) HW.out.2.2.1 (by rw [HXe.out.1, HDL.out]; exact ⟨hk, by omega⟩)
      have HK := Lib.hid (And.intro h4 (And.intro hW4 (And.intro hs4 hok2)))
      clear h4 hW4 hs4 hok2
      go_wp2_with fail
      go_roundw
      case rel =>
        obtain ⟨hw, hWl, hok, hs, hz⟩ := HW.out
        obtain ⟨h4, hW4, hs4, hok2⟩ := HK.out
        refine ⟨i + 1, tv4, wv4, W4, by omega, by go_num, ?_, ?_, hok2, (hs.alloc _).then hs4 (fun k hk => .inr (Nat.le_trans HZ1.out (hw.low k hk))), ?_⟩
        · rw [HXe.out.2, HXe.out.1, ← List.append_assoc]
          exact h4
        · have h3 : flen (x.k, x.d) = flen x.pr := rfl
          rw [h3] at hW4
          omega
        · have h1 := hs4.size
          rw [World.size_alloc] at h1
          omega
      case measure => simp [intOf]; omega
    · obtain rfl : i = n := by omega
      have p3 : ¬ (i : Int) < (i : Int) := by omega
      obtain ⟨hw, hWl, hok, hs, hz⟩ := HW.out
      rw [List.take_of_length_le (by rw [HN.out]; exact Nat.le_refl _)] at hw hok
      have HSy := Lib.hid (wl_sync _ _ _ _ _ _ _ _ _ _ _ _ _ hw)
      have HOk := Lib.hid (And.intro hok (And.intro hs (And.intro hz hw.dk.base)))
      clear hw hWl hok hs hz HW
      go_wp2_with fail
      refine HSy.out.mono ?_
      rintro e w5 ⟨rfl, S5, h5, hS5, hs5⟩
      have H5 := Lib.hid (And.intro h5 (And.intro hS5 (And.intro hs5 (HOk.out.2.1.then hs5 (fun k hk => .inr (Nat.le_trans HZ1.out (HOk.out.2.2.2 k hk)))))))
      clear h5 hS5 hs5
      have hrc0 : recsR ([(255, [])] ++ l.map Rr.pr) = l.map Rr.pr := recs_sealed [] (l.map Rr.pr) (by simp)
      have hkd := okR_kinds HOk.out.1
      have h200 : S5.length = 200 := by rw [H5.out.2.1, HS3'.out]
      have hz15 : w1.heap.size ≤ w5.heap.size := Nat.le_trans hz2 (Nat.le_trans HOk.out.2.2.1 H5.out.2.2.1.size)
      have HCp := Lib.hid (copy_any _ _ _ _ _ _ _ w5 H5.out.1.dk)
      have HPl := Lib.hid (And.intro hrc0 (And.intro hkd (And.intro h200 hz15)))
      clear hrc0 hkd h200 hz15
      go_wp2_with fail
      refine HCp.out.mono ?_
      rintro e w6 ⟨dbc, lvc, wvc, rfl, hDc, hs6⟩
      have HOp := Lib.hid (wl_open w5.heap.size dbc lvc wvc S5 [] 0 1 ([(255, [])] ++ l.map Rr.pr) ([(255, [])] ++ l.map Rr.pr) w6 hDc H5.out.1.four (by
        rw [syncS_nil]
        exact H5.out.1.li.crash (by decide) (fun _ => false) 0) (List.prefix_refl _) H5.out.1.sealed H5.out.1.data (by decide) (by rw [List.length_append, List.length_map, HN.out]; simp; omega) (by rw [HPl.out.2.2.1, List.length_append, List.length_map, HN.out]; simp; omega) hs6.size)
      have H6 := Lib.hid (And.intro (H5.out.1.step hs6 (by simp)) (And.intro (H5.out.2.2.2.then hs6 (by simp)) (And.intro hs6.size hDc.base)))
      clear hDc hs6
      go_wp2_with fail
      refine HOp.out.mono ?_
      rintro e w7 ⟨lbc, tvc, Sc, oa, oc, ol, k, rfl, k1, k2, hrp, -, hc7, hSc, -, -, hs7⟩
      have hkk : (([(255, [])] ++ l.map Rr.pr) : List (UInt8 × List UInt8)).take k = [(255, [])] ++ l.map Rr.pr := List.take_of_length_le k1
      rw [hkk, HPl.out.1] at hrp
      have hall : allR ol = l.map Rr.pr ++ [(255, [])] := by unfold allR; rw [hrp]
      rw [hall] at hc7
      have hd7 := H6.out.1.step hs7 (fun k hk hm => by
        have h1 := H6.out.2.2.2 k hm
        have h2 := H5.out.1.live k hk
        omega)
      have hs07 : Step [] w w7 := H6.out.2.1.then hs7 (fun k hk => .inr (by
        have h1 := H6.out.2.2.2 k hk
        have h2 := HZ1.out
        have h3 := HPl.out.2.2.2
        omega))
      have HCx := Lib.hid (copy_any _ _ _ _ _ _ _ w7 hd7.dk)
      have H7 := Lib.hid (And.intro hd7 (And.intro hc7 (And.intro (hSc.trans HPl.out.2.2.1) (And.intro hs07 (And.intro hd7.live hc7.live)))))
      clear hkk hrp hall hc7 hd7 hs07 hSc hs7 k1 k2
      go_wp2_with fail
      refine HCx.out.mono ?_
      rintro e w8 ⟨dbx, lvx, wvx, rfl, hDx, hs8⟩
      have hd8 := H7.out.1.step hs8 (by simp)
      have HLn := Lib.hid (dlen_any _ _ _ _ _ _ _ w8 hd8.dk)
      have H8 := Lib.hid (And.intro hd8 (And.intro (H7.out.2.1.step hs8 (by simp)) (And.intro hDx (And.intro (H7.out.2.2.2.1.then hs8 (by simp)) hs8.size))))
      have e100 : IntKind.i64.wrap ((S5.length : Int) / 2) = 100 := by rw [HPl.out.2.2.1]; rfl
      have e101 : (S5.length : Int) / 2 = 100 := by rw [HPl.out.2.2.1]; rfl
      clear hd8 hDx hs8
      go_wp2_with fail
      refine HLn.out.mono ?_
      rintro e w9 ⟨rfl, rfl⟩
      go_wp2_with fail
      go_loopw [90] (fun j wr => ∃ (q : Nat) (wx : Value) (Wx : List (Nat × List UInt8)), q ≤ 100 ∧ j = .int .i64 (q : Int) ∧ Dsk wr w7.heap.size dbx lvx wx S5 Wx false ∧ (∀ y ∈ Wx, ∃ p, p < 100 ∧ y = (100 + p, Sc.getD (100 + p) [])) ∧ Wx.length ≤ q ∧ Step (footD dbx lvx wvx) w8 wr ∧ Fresh w8 (foot wvx) (foot wx)) (fun j _ => 100 - (intOf j).toNat)
      case atStart => exact ⟨0, wvx, [], by omega, rfl, H8.out.2.2.1, by simp, by simp, Step.refl _ _, fun k hk => .inl hk⟩
      case round =>
        obtain ⟨q, wx, Wx, hq, rfl, hDx, hWx, hWl, hs, hfr⟩ := hrel
        have hxlow : ∀ k, k ∈ footD dbx lvx wvx → w7.heap.size ≤ k := H8.out.2.2.1.base
        have hdr := H8.out.1.step hs (fun k hk hm => by
          have h1 := H7.out.2.2.2.2.1 k hk
          have h2 := hxlow k hm
          omega)
        have hcr := H8.out.2.1.step hs (fun k hk hm => by
          have h1 := H7.out.2.2.2.2.2 k hk
          have h2 := hxlow k hm
          omega)
        have HQ := Lib.hid (And.intro hdr (And.intro hcr (And.intro hDx (And.intro hWx (And.intro hWl (And.intro hs hfr))))))
        clear hdr hcr hDx hWx hWl hs hfr hxlow
        by_cases hlt : q < 100
        · have p7 : (q : Int) < 100 := by omega
          have e7 : IntKind.i64.wrap (100 + (q : Int)) = 100 + (q : Int) := wrap_id _ (by omega) (by omega)
          have hc : ((100 + q : Nat) : Int) = 100 + (q : Int) := by omega
          have hrc := read_sec _ _ _ _ _ (100 + q) wr HQ.out.2.1.dk (by rw [H7.out.2.2.1]; omega)
          rw [hc] at hrc
          have HRc := Lib.hid hrc
          clear hrc
          go_wp2_with fail
          refine HRc.out.mono ?_
          rintro e w10 ⟨g1, c1, rfl, hb1, hl1, hs10⟩
          have hrd := read_sec _ _ _ _ _ (100 + q) w10 (HQ.out.1.dk.step hs10 (by simp)) (by rw [HPl.out.2.2.1]; omega)
          rw [hc] at hrd
          have HRd := Lib.hid hrd
          have HB1 := Lib.hid (And.intro hb1 (And.intro hl1 hs10))
          clear hrd hb1 hl1 hs10
          go_wp2_with fail
          refine HRd.out.mono ?_
          rintro e w11 ⟨g2, c2, rfl, hb2, hl2, hs11⟩
          obtain ⟨s1, hs1⟩ : ∃ s, Sc.getD (100 + q) [] = s := ⟨_, rfl⟩
          obtain ⟨s2, hs2⟩ : ∃ s, S5.getD (100 + q) [] = s := ⟨_, rfl⟩
          have hb1 := HB1.out.1
          have hl1 := HB1.out.2.1
          rw [hs1] at hb1 hl1
          rw [hs2] at hb2 hl2
          have hb1' := hb1.step hs11 (by simp)
          have hst1 := hb1'.str (P := Try.prog) (fun h => (by cases h)) c1 32 9 5 Try.underlying32 Try.underlying5 Try.underlying9
          have hst2 := hb2.str (P := Try.prog) (fun h => (by cases h)) c2 32 9 5 Try.underlying32 Try.underlying5 Try.underlying9
          rw [hl1] at hst1
          rw [hl2] at hst2
          obtain ⟨B1, hB1⟩ : ∃ B, bstr s1 = B := ⟨_, rfl⟩
          obtain ⟨B2, hB2⟩ : ∃ B, bstr s2 = B := ⟨_, rfl⟩
          rw [hB1] at hst1
          rw [hB2] at hst2
          have hs911 : Step [] wr w11 := HB1.out.2.2.then hs11 (by simp)
          have HWr := Lib.hid (And.intro hb1' (And.intro hl1 (And.intro hs911 hs1)))
          clear hb1 hb2 hl2 hs11 hs2 hB1 hB2 hb1' hs911 hl1 hs1
          have hwt := write_ok _ dbx lvx wx S5 Wx (100 + q) (some ⟨g1, 0, none⟩) c1 s1 w11 (HQ.out.2.2.1.step HWr.out.2.2.1 (by simp)) (by rw [HPl.out.2.2.1]; omega) HWr.out.1 (fun h => (by cases h)) (by rw [HWr.out.2.1]; omega) (by have := HQ.out.2.2.2.2.1; omega)
          rw [hc, HWr.out.2.1] at hwt
          have HWt := Lib.hid hwt
          clear hc hwt
          go_wp2_with fail
          all_goals first
            | (go_roundw
               case rel =>
                 obtain ⟨hdr, hcr, hDx, hWx, hWl, hs, hfr⟩ := HQ.out
                 exact ⟨q + 1, wx, Wx, by omega, by go_num, hDx.step HWr.out.2.2.1 (by simp), hWx, by omega, hs.then HWr.out.2.2.1 (by simp), hfr⟩
               case measure => simp [intOf]; omega)
            | (refine HWt.out.mono ?_
               rintro e w12 ⟨rfl, wx2, hD12, hs12, hf12⟩
               have H12 := Lib.hid (And.intro hD12 (And.intro hs12 hf12))
               clear hD12 hs12 hf12
               go_wp2_with fail
               go_roundw
               case rel =>
                 obtain ⟨hdr, hcr, hDx, hWx, hWl, hs, hfr⟩ := HQ.out
                 obtain ⟨hD12, hs12, hf12⟩ := H12.out
                 have hsz := (hs.then HWr.out.2.2.1 (by simp)).size
                 refine ⟨q + 1, wx2, Wx ++ [(100 + q, pad s1)], by omega, by go_num, hD12, fun y hy => ?_, by rw [List.length_append]; simp; omega, (hs.then HWr.out.2.2.1 (by simp)).then hs12 (fun k hk => ?_), fun k hk => ?_⟩
                 · rcases List.mem_append.1 hy with h | h
                   · exact hWx y h
                   · simp only [List.mem_singleton] at h
                     subst h
                     exact ⟨q, hlt, by rw [pad_64 HWr.out.2.1, HWr.out.2.2.2]⟩
                 · simp only [footD, List.mem_cons, List.mem_append] at hk ⊢
                   rcases hk with h | h | h
                   · exact .inl (.inl h)
                   · exact .inl (.inr (.inl h))
                   · exact (hfr k h).imp (fun h => .inr (.inr h)) id
                 · rcases hf12 k hk with h | h
                   · exact hfr k h
                   · exact .inr (by omega)
               case measure => simp [intOf]; omega)
        · obtain rfl : q = 100 := by omega
          have p7 : ¬ ((100 : Nat) : Int) < 100 := by omega
          obtain ⟨hdr, hcr, hDx, hWx, hWl, hs, hfr⟩ := HQ.out
          have HSx := Lib.hid (sync_any _ _ _ _ _ _ wr hDx)
          have hxn := H8.out.2.2.1.base
          have hsx : Step [] w wr := H8.out.2.2.2.1.then hs (fun k hk => .inr (by
            have h1 := hxn k hk
            have h2 := H7.out.2.2.2.1.size
            omega))
          have hxlow : ∀ k, k ∈ footD dbx lvx wx → w7.heap.size ≤ k := hDx.base
          have HT := Lib.hid (torn_pick (n := 100) (by rw [HPl.out.2.2.1]) (by rw [H7.out.2.2.1, HPl.out.2.2.1]) (by have h := hdr.li; rw [HPl.out.2.2.1] at h; exact h) (by have h := hcr.li; rw [H7.out.2.2.1] at h; exact h) hWx HPl.out.2.1 (fun x hx => by
            obtain ⟨y, hy, rfl⟩ := List.mem_map.1 hx
            have := (HOk.out.1 y hy).2
            show y.d.length ≤ 1024
            omega))
          have HX := Lib.hid (And.intro hsx hxlow)
          clear hDx hWx hWl hs hfr hxn hsx hxlow
          go_wp2_with fail
          refine HSx.out.mono ?_
          rintro e w12 ⟨rfl, hD12, hs12⟩
          obtain ⟨j, hj, hpj, hrj, hmj⟩ := HT.out
          have hl12 : (syncS Wx S5).length = 200 := by rw [syncS_len, HPl.out.2.2.1]
          have hflo : flens (l.map Rr.pr) ≤ l.length * 76 := flens_ok HOk.out.1
          have HOx := Lib.hid (wl_open_any _ dbx j _ _ (syncS Wx S5) [] (l.map Rr.pr) w12 hD12 (by omega) hj hpj hrj (by rw [syncS_nil]; omega) (by
            rw [chain_len, flens_app, flens_seal, hl12]
            rw [HN.out] at hflo
            omega) (by rw [List.length_map, HN.out]; omega) (by rw [hl12, List.length_map, HN.out]; simp; omega) (Nat.le_trans H8.out.2.2.2.2 (Nat.le_trans (by have := hdr.dk.live; exact (HQ.out.2.2.2.2.2.1).size) hs12.size)))
          have hd12 := hdr.step hs12 (fun k hk hm => by
            have h1 := H7.out.2.2.2.2.1 k hk
            have h2 := HX.out.2 k hm
            omega)
          have hc12 := hcr.step hs12 (fun k hk hm => by
            have h1 := H7.out.2.2.2.2.2 k hk
            have h2 := HX.out.2 k hm
            omega)
          have H12 := Lib.hid (And.intro hd12 (And.intro hc12 (And.intro (HX.out.1.then hs12 (fun k hk => .inr (by
            have h1 := HX.out.2 k hk
            have h2 := H7.out.2.2.2.1.size
            omega))) hD12.base)))
          clear hd12 hc12 hD12 hs12 hdr hcr hflo
          go_wp2_with fail
          refine HOx.out.mono ?_
          rintro e w13 ⟨lbx, ga, gc, gl, rfl, hgp, hgr, hs13⟩
          have hgl : gl.length = i := by
            have h := congrArg List.length hgp
            rw [List.length_map, List.length_map, HN.out] at h
            exact h
          have hlow13 := H12.out.2.2.2
          have hd13 := H12.out.1.step hs13 (fun k hk hm => by
            have h1 := H7.out.2.2.2.2.1 k hk
            have h2 := hlow13 k hm
            omega)
          have hc13 := H12.out.2.1.step hs13 (fun k hk hm => by
            have h1 := H7.out.2.2.2.2.2 k hk
            have h2 := hlow13 k hm
            omega)
          have hs013 : Step [] w w13 := H12.out.2.2.1.then hs13 (fun k hk => .inr (by
            have h1 := hlow13 k hk
            have h2 := H7.out.2.2.2.1.size
            omega))
          have hal := alike_any ga a gc cap gl l w13 hgr.recs (HR.out.recs.step hs013) hgp (by omega)
          rw [hgl, HN.out] at hal
          have HAl := Lib.hid hal
          have H13 := Lib.hid (And.intro hd13 (And.intro hc13 hs013))
          rw [hgl]
          clear hal hd13 hc13 hs013 hs13 hgr hgp hgl hlow13
          go_wp2_with fail
          refine HAl.out.mono ?_
          rintro e w14 ⟨rfl, hs14⟩
          have HT1 := Lib.hid (wl_turn _ _ _ _ _ _ _ _ _ _ _ _ w14 (H13.out.2.1.step hs14 (by simp)))
          have HT2 := Lib.hid (wl_turn _ _ _ _ _ _ _ _ _ _ _ _ w14 (H13.out.1.step hs14 (by simp)))
          have HS14 := Lib.hid (H13.out.2.2.then hs14 (by simp))
          clear hs14
          go_wp2_with fail
          refine HT1.out.mono ?_
          rintro e w15 ⟨rfl, rfl⟩
          go_wp2_with fail
          refine HT2.out.mono ?_
          rintro e w15 ⟨rfl, rfl⟩
          go_wp2_with fail
          go_ret
          exact ⟨rfl, HS14.out⟩
end Go.Proofs.Ytdmnhkmpfnhmdaa
end
