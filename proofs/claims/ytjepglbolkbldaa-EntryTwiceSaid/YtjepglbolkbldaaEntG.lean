/- entry: the walk of Put. -/
import Derived.Test.YtjepglbolkbldaaEntF
namespace Go.Proofs.Ytjepglbolkbldaa
set_option linter.unusedVariables false
open Go.RowKit
attribute [local go_sem ↓] Go.wp_at_zero Go.wp_at_succ

set_option maxHeartbeats 1000000 in
theorem put_any (base lb : Nat) (a : Option Addr) (cap ix tm : Nat) (ts : List Nat) (i t : Nat) (ea : Option Addr) (ec : Nat) (l : List En) (w : World) (h : Log w base lb a cap ix tm ts) (hE : Ents w ea l)
    (hD : ∀ x ∈ l, DataOk w x) (hx : ∀ x ∈ l, 0 < x.dn → ∀ b off, x.da = some ⟨b, off, none⟩ → b ≠ lb ∧ b ∉ foot (.slice a ts.length cap)) 
    (hea : 0 < l.length → ∀ b off, ea = some ⟨b, off, none⟩ → b ≠ lb ∧ b ∉ foot (.slice a ts.length cap)) (hec : l.length ≤ ec) (hl : l.length ≤ 2000) (hi : i + l.length < 4611686018427387904) (hix : ix + ts.length < 4611686018427387904) :
    Calls Try.prog 8 #[.pointer (some ⟨lb, 0, none⟩), .int .u64 (i : Int), .int .u64 (t : Int), .slice ea l.length ec] w fun e w' => e = .returned (.tuple #[.int .u64 (((putR ix tm ts i t l).1 : Nat) : Int), .int .i64 (putR ix tm ts i t l).2.1]) ∧ Added base lb a ts.length cap ix tm (putR ix tm ts i t l).2.2 w w' := by
  obtain ⟨i0, hi0, hz0, hz1, hz2⟩ := info_parts Try.infoE
  obtain ⟨r, hr⟩ : ∃ r, putR ix tm ts i t l = r := ⟨_, rfl⟩
  have HT := Lib.hid (show r = _ from hr.symm)
  unfold putR at HT
  rw [hr]
  have HFk := Lib.hid (followF_keys l i t false)
  have HFs := Lib.hid (followF_short l i t false)
  have HF := Lib.hid (follow_any ea ec l i t w hE (by omega))
  obtain ⟨F, hF⟩ : ∃ F, followF i t false l = F := ⟨_, rfl⟩
  rw [hF] at HT HF HFk HFs
  have HH := Lib.hid h
  have HE := Lib.hid hE
  have HD := Lib.hid hD
  have HX := Lib.hid hx
  have HA := Lib.hid hea
  clear h hE hD hx hea hr hF
  go_enter Try.func8, Try.ntmps8
  go_wp2_with fail
  refine HF.out.mono ?_
  rintro e w1 ⟨rfl, hs1⟩
  have HS1 := Lib.hid hs1
  clear hs1 HF
  by_cases q0 : ¬ F = 0
  · have p0 : (F == 0) = false := by simpa using q0
    have hr := Lib.hid (HT.out.trans (if_neg q0))
    clear HT
    go_wp2_with fail
    go_ret2
    cases hr.out
    exact ⟨rfl, Added.same HH.out HS1.out⟩
  replace q0 : F = 0 := Decidable.not_not.1 q0
  subst q0
  have hk := Lib.hid (HFk.out rfl)
  have hsh := Lib.hid (HFs.out rfl).2
  have HT1 := Lib.hid (HT.out.trans (if_pos rfl))
  clear HT HFk HFs
  have HC := Lib.hid (term_any base lb a cap ix tm ts i w1 (HH.out.step0 HS1.out))
  have hin := Lib.hid (@termAt_in ix tm ts i)
  obtain ⟨⟨T, e⟩, hTe⟩ : ∃ p, termAt ix tm ts i = p := ⟨_, rfl⟩
  rw [hTe] at HC HT1 hin
  clear hTe
  go_wp2_with fail
  refine HC.out.mono ?_
  rintro e2 w2 ⟨rfl, hs2⟩
  have HS2 := Lib.hid (HS1.out.then hs2 (by simp))
  clear hs2 HC HS1
  by_cases q1 : ¬ e = 0
  · have p1 : (e == 0) = false := by simpa using q1
    have hr := Lib.hid (HT1.out.trans (if_neg q1))
    clear HT1
    go_wp2_with fail
    go_ret2
    cases hr.out
    exact ⟨rfl, Added.same HH.out HS2.out⟩
  replace q1 : e = 0 := Decidable.not_not.1 q1
  subst q1
  have hin2 := hin.out rfl
  have HT2 := Lib.hid (HT1.out.trans (if_pos rfl))
  clear HT1 hin
  by_cases q2 : ¬ T = t
  · have p1 : ((T : Int) == (t : Int)) = false := by simp; omega
    have hr := Lib.hid (HT2.out.trans (if_neg q2))
    clear HT2
    go_wp2_with fail
    go_ret2
    cases hr.out
    exact ⟨rfl, Added.same HH.out HS2.out⟩
  replace q2 : T = t := Decidable.not_not.1 q2
  subst q2
  have HT3 := Lib.hid (HT2.out.trans (if_pos rfl))
  clear HT2
  have hKin := known_in (ix := ix) (tm := tm) (ts := ts) l i _ hk.out hin2.2
  have hKle := knownN_le ix tm ts l
  have HC := Lib.hid (known_any base lb a cap ix tm ts ea ec l w2 (HH.out.step0 HS2.out) (HE.out.step HS2.out (by simp)) (by omega))
  obtain ⟨K, hK⟩ : ∃ K, knownN ix tm ts l = K := ⟨_, rfl⟩
  rw [hK] at HT3 HC hKin hKle
  clear hK
  go_wp2_with fail
  refine HC.out.mono ?_
  rintro e3 w3 ⟨rfl, hs3⟩
  have HS3 := Lib.hid (HS2.out.then hs3 (by simp))
  clear hs3 HC HS2
  by_cases q3 : K = l.length
  · have hr := Lib.hid (HT3.out.trans (if_pos q3))
    clear HT3
    subst q3
    have g1 : (0 : Int) ≤ (l.length : Int) := by omega
    have g2 : (l.length : Int) ≤ (ec : Int) := by omega
    go_wp2_with fail
    all_goals
      go_ret2
      cases hr.out
      exact ⟨rfl, Added.same HH.out HS3.out⟩
  have HT4 := Lib.hid (HT3.out.trans (if_neg q3))
  clear HT3
  have hKl : K < l.length := by omega
  have hL3 := HH.out.step0 HS3.out
  have hE3 := HE.out.step HS3.out (by simp)
  obtain ⟨b, off, rfl, hblt, -⟩ := hE3 0 (by omega)
  have hE4 := hE3.drop K
  obtain ⟨b', off', hb', -, d0, -⟩ := hE4 0 (by simp; omega)
  have hX : ((l.drop K).getD 0 en0).ix = i + K + 1 := by
    have h1 := (keys_at hk.out K (by simpa using hKl)).1
    rw [← h1]
    simp [List.getD]
  rw [hX] at d0
  cases hb'
  simp only [Nat.zero_mul, Nat.add_zero] at d0
  obtain ⟨c0, c1, c2⟩ := hL3.three
  have f2 := hL3.blk.free 2
  have hnb := HA.out (by omega) b off rfl
  have HNB := Lib.hid hnb
  have HE4 := Lib.hid hE4
  have HL3 := Lib.hid hL3
  clear hL3 hE3 hE4 hnb HA
  have g1 : (0 : Int) ≤ (K : Int) := by omega
  have g2 : (K : Int) ≤ (l.length : Int) := by omega
  have g3 : (l.length : Int) ≤ (ec : Int) := by omega
  have g4 : ¬ ec = K := by omega
  have g5 : ¬ l.length - K = 0 := by omega
  obtain ⟨X, hX2⟩ : ∃ X, i + K + 1 = X := ⟨_, rfl⟩
  obtain ⟨kp, hkp⟩ : ∃ kp, i + K - ix = kp := ⟨_, rfl⟩
  obtain ⟨m, hm⟩ : ∃ m, l.length - K = m := ⟨_, rfl⟩
  obtain ⟨of2, hof⟩ : ∃ o, off + K * 4 = o := ⟨_, rfl⟩
  have e1 : IntKind.u64.wrap ((X : Int) - (ix : Int)) = ((kp : Int) + 1) := by rw [u64_self _ (by omega) (by omega)]; omega
  have e2 : IntKind.u64.wrap (((kp : Int) + 1) - 1) = (kp : Int) := by rw [u64_self _ (by omega) (by omega)]; omega
  have e3 : IntKind.i64.wrap (kp : Int) = (kp : Int) := i64_self _ (by omega) (by omega)
  have e4 : IntKind.i64.wrap ((kp : Int) + (m : Int)) = (kp : Int) + (m : Int) := i64_self _ (by omega) (by omega)
  rw [hX2] at d0
  rw [hof] at d0 HE4
  have p0 : ((m : Int) == 0) = false := by simp; omega
  rw [hm] at g5
  rw [hm, hkp, hX2] at HT4
  have q5 : (0 : Int) < (m : Int) := by omega
  have q8 : 0 < m := by omega
  go_wp2_with fail
  go_region_held3 (fun w' => w'.cell? ⟨b, of2, none⟩ = some (.int .u64 (X : Int)) ∧ w'.cell? ⟨lb, 0, none⟩ = some (.int .u64 (ix : Int))) (go_keep) (fail)
  by_cases q6 : 1024 < kp + m
  · have p1 : decide ((1024 : Int) < (kp : Int) + (m : Int)) = true := by simp; omega
    have hr := Lib.hid (HT4.out.trans (if_pos q6))
    clear HT4
    go_wp2_with fail
    go_ret2
    cases hr.out
    exact ⟨rfl, Added.same HH.out HS3.out.drew⟩
  have p1 : decide ((1024 : Int) < (kp : Int) + (m : Int)) = false := by simp; omega
  have hr := Lib.hid (HT4.out.trans (if_neg q6))
  have hkn : kp ≤ ts.length := by omega
  clear HT4
  obtain ⟨L, hLk, hLo⟩ := HL3.out.own
  have HLK := Lib.hid hLk
  have HLO := Lib.hid hLo
  clear hLk hLo
  have hkc : (0 : Int) ≤ (kp : Int) ∧ (kp : Int) ≤ (cap : Int) := by have := (owns_cap HLO.out).1; omega
  have HP0 := Lib.hid (PutAt.start (D := l.drop K) HL3.out HS3.out HLO.out hkn)
  go_wp2_with fail
  go_loopw [74] (fun j wr => ∃ (k : Nat) (va : Option Addr) (vc : Nat) (L2 : List En), k ≤ m ∧ j = .int .i64 k ∧ PutAt base lb ix tm kp (.slice a ts.length cap) L (l.drop K) w wr k va vc L2) (fun j _ => m - (intOf j).toNat)
  case atStart => exact ⟨0, a, kp, [], Nat.zero_le _, rfl, HP0.out⟩
  case round =>
    obtain ⟨k, va, vc, L2, hkm, rfl, hP⟩ := hrel
    have HP := Lib.hid hP
    clear hP
    have hEr := (HE.out.step HP.out.step (fun b2 o2 h _ hm => by
      cases h
      rcases List.mem_cons.1 hm with h | h
      · exact HNB.out.1 h
      · exact HNB.out.2 h)).drop K
    rw [hof] at hEr
    have HER := Lib.hid hEr
    clear hEr
    have hlbw := HH.out.blk.lt
    have hlbr : lb < wr.heap.size := Nat.lt_of_lt_of_le hlbw HP.out.step.size
    by_cases hkl : k < m
    · have hkd : k < (l.drop K).length := by simp; omega
      obtain ⟨x, hx⟩ : ∃ x, (l.drop K).getD k en0 = x := ⟨_, rfl⟩
      have hxm : x ∈ l := by
        rw [← hx]
        refine List.mem_of_mem_drop (i := K) ?_
        rw [List.getD_eq_getElem?_getD, List.getElem?_eq_getElem hkd]
        exact List.getElem_mem hkd
      obtain ⟨b2, o2, hb2, hlt2, r0, r1, r2, r3⟩ := HER.out k hkd
      cases hb2
      rw [hx] at r0 r1 r2 r3
      have HXK := Lib.hid hx
      have hDk : ∀ w', Step [] wr w' → DataOk w' x := fun w' hw => ((HD.out x hxm).stepF HP.out.step (fun hq b3 o3 h hm => by
        rcases List.mem_cons.1 hm with h2 | h2
        · exact (HX.out x hxm hq _ _ h).1 h2
        · exact (HX.out x hxm hq _ _ h).2 h2)).step hw
      have HDk := Lib.hid hDk
      have hsx := hsh.out x hxm
      clear hDk hx
      have c2k : wr.cell? ⟨lb, 2, none⟩ = some (.slice va (kp + k) vc) := HP.out.blk.cell 2
      have f2k := HP.out.blk.free 2
      have hkm2 : (k : Int) < (m : Int) := by omega
      obtain ⟨xi, xt, xc, xa, xn, xk⟩ := x
      simp only at r0 r1 r2 r3 hsx
      have hnew := World.new_ne wr _ c2k
      have hbase : base ≤ wr.heap.size := by have := HL3.out.low; omega
      have hsmall : kp + k + 1 ≤ 1024 := by omega
      have n1 : kp + k + 1 ≤ maxLen := by unfold maxLen; omega
      have n2 : (kp + k + 1) * 48 ≤ 140737488355328 := by omega
      go_wp2_with fail
      go_region_law (first
        | (go_simp; go_at_call 22; refine (cloneE_any ⟨xi, xt, xc, xa, xn, xk⟩ _ (HDk.out _ ((Step.refl [] wr).alloc _).drew) hsx).mono ?_; rintro e7 w7 ⟨⟨a7, n7, k7, rfl⟩, hs7⟩
           have hs7' : Step [] wr w7 := ((Step.refl [] wr).alloc _).drew.then hs7 (by simp)
           have c7 : w7.cell? ⟨lb, 2, none⟩ = some (.slice va (kp + k) vc) := (hs7'.cell hlbr (by simp)).trans c2k
           have d7 : ∀ o, (w7.alloc o).cell? ⟨lb, 2, none⟩ = some (.slice va (kp + k) vc) := fun o => (((Step.refl [] w7).alloc o).cell (Nat.lt_of_lt_of_le hlbr hs7'.size) (by simp)).trans c7
           have hrow := Lib.hid (fun o => (RowOr.step HP.out.row (hs7'.alloc o) (by simp) : RowOr (w7.alloc o) base 42 4 (.slice va (kp + k) vc) (kp + k) (cellsL (L.take kp ++ L2))))
           have hbase7 : ∀ o, base ≤ (w7.alloc o).heap.size := fun o => by have := hs7'.size; rw [World.size_alloc]; omega
           have hs7 := Lib.hid hs7'
           clear hs7')
        | (refine step_append_row rfl (.tmp 82) (.tmp 85) 23 rfl base 42 i0 _ 4 48 Try.underlying23 hi0 hz0 hz1 hz2 rfl (by decide) (.slice va (kp + k) vc) (kp + k) (cellsL (L.take kp ++ L2)) (by rfl) ?hr ⟨w7.heap.size, 0, none⟩ 1 1 [.int .u64 (xi : Int), .int .u64 (xt : Int), .bool xc, .slice a7 n7 k7] (by rfl) (by decide) rfl (World.news_of_block (Go.heap_alloc_new _ _)) ?h1 n1 n2 ?h4 ?_
           case hr => exact hrow.out _
           case h4 => exact hbase7 _
           case h1 => intro u hu; simp at hu; rcases hu with rfl | rfl | rfl | rfl <;> rfl
           intro g8 k8 w8 hown8 hs8 hf8
           have HN := Lib.hid (PutAt.next HP.out hlbw hs7.out hkd ⟨xi, xt, xc, a7, n7, k7⟩ (congrArg key HXK.out).symm _ g8 k8 hown8 hs8 hf8)
           have hB8 := (HP.out.blk.step (hs7.out.alloc (.cells #[.int .u64 (xi : Int), .int .u64 (xt : Int), .bool xc, .slice a7 n7 k7] 42)) (by simp)).step hs8 HP.out.apart
           have c8 := hB8.cell 2
           have f8 := hB8.free 2
           simp only [List.getElem?_toArray, List.getElem?_cons_zero, List.getElem?_cons_succ] at c8
           clear hown8 hs8 hf8 hB8))
      all_goals
        go_wp2_with fail
        go_roundw
        case rel => exact ⟨k + 1, _, _, _, by omega, by go_num, HN.out⟩
        case measure => simp [intOf]; omega
    · have hke : k = m := by omega
      subst hke
      obtain ⟨b2, o2, hb2, hlt2, r0, r1, r2, r3⟩ := HER.out 0 (by simp; omega)
      cases hb2
      rw [hX, hX2] at r0
      simp only [Nat.zero_mul, Nat.add_zero] at r0
      clear r1 r2 r3
      have HA2 := Lib.hid (fun wq (hq : Step [] wr wq) => PutAt.done HL3.out HP.out hq (by simp; omega) (by omega) HLK.out hkn (by
        have h1 := congrArg (List.drop K) hk.out
        rw [keysFrom_drop _ _ _ (by simp; omega), ← List.map_drop, ← List.map_drop] at h1
        rw [h1]
        congr 1
        omega) (by omega) hix)
      have q7 : (0 : Int) < (k : Int) := by omega
      go_wp2_with fail
      try go_region
      try go_wp2_with fail
      go_ret2
      cases hr.out
      exact ⟨rfl, HA2.out _ (by first | exact Step.refl _ _ | exact (Step.refl _ _).drew)⟩
end Go.Proofs.Ytjepglbolkbldaa
