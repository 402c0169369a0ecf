/- CommandUnlike: the law walked. -/
import Derived.Test.YtdfkagpnfgmbeaaReqO
import Derived.Test.YtdfkagpnfgmbeaaCmdO
import Derived.Test.YtdfkagpnfgmbeaaCmdB
import Derived.Test.YtdfkagpnfgmbeaaCmdS
import Derived.Test.YtdfkagpnfgmbeaaRefC
import Derived.Test.YtdfkagpnfgmbeaaCmdMembersLaw
namespace Go.Proofs.Ytdfkagpnfgmbeaa
set_option linter.unusedVariables false
set_option linter.unusedSimpArgs false
open Go.RowKit
attribute [local go_sem ↓] exec_load_c exec_store_c exec_load_q exec_store_q
attribute [local go_sem] Try.load_c row_drew Try.store_c Try.load_q Try.store_q bstr_toList

theorem anti_tailU {P : Program} {ops : Array Oper} {Q : Exit → Act → World → Prop} {l : List Oper} {G : World → World → Prop} {W0 : World} (a : Act) (F F' : World → Prop) (h : ∀ w, F' w → F w)
    (hQ : ∀ w', G W0 w' → F w' → wpList P ops Q l a w') : ∀ w', G W0 w' → F' w' → wpList P ops Q l a w' := fun w' hg hf => hQ w' hg (h w' hf)
theorem cm_inj {c d : PC} {a b : Option Addr} {k j : Nat} {w : World} (h : (cmC c a c.sp.ds.length k).toArray = (cmC d b d.sp.ds.length j).toArray) (h1 : TxS w a c.sp.ds) (h2 : TxS w b d.sp.ds) : c = d := by
  have h0 : cmC c a c.sp.ds.length k = cmC d b d.sp.ds.length j := by simpa using h
  obtain ⟨c0, c1, c2, c3, c4, s0, s1, s2, s3, s4, s5, s6, s7, s8, s9, s10⟩ := c
  obtain ⟨d0, d1, d2, d3, d4, t0, t1, t2, t3, t4, t5, t6, t7, t8, t9, t10⟩ := d
  simp only [cmC, spC, List.cons.injEq, Value.int.injEq, Value.string.injEq, Value.slice.injEq, true_and, and_true] at h0
  obtain ⟨e0, e1, e2, e3, e4, f0, f1, f2, f3, ⟨fa, fn, _⟩, f5, f6, f7, f8, f9, f10⟩ := h0
  have e1 := bstr_inj e1
  have e2 := bstr_inj e2
  have f0 := bstr_inj f0
  have f1 := bstr_inj f1
  have f9 := bstr_inj f9
  have e3 : c3 = d3 := by omega
  have f4 : s4 = t4 := by
    apply List.ext_getElem fn
    intro i hi hj
    obtain ⟨b1, o1, ha1, _, hc1⟩ := h1 i hi
    obtain ⟨b2, o2, ha2, _, hc2⟩ := h2 i hj
    simp only at fa ha1 ha2 hc1 hc2
    rw [fa, ha2] at ha1
    cases ha1
    rw [hc1] at hc2
    have := bstr_inj (Value.string.inj (Option.some.inj hc2))
    simpa [List.getD, hi, hj] using this
  subst e0 e1 e2 e3 e4 f0 f1 f2 f3 f4 f5 f6 f7 f8 f9 f10
  rfl
/-- what is known of Only's value -/
def OnV (c : PC) (v : Value) (w : World) : Prop := ∃ (a : Option Addr) (k : Nat), v = .agg (cmC (onlyC c) a (onlyC c).sp.ds.length k).toArray ∧ TxS w a (onlyC c).sp.ds
def SpU (c d : PC) (A B : Array Value) (_ : FuncId) (args : Array Value) (v : Value) (w : World) : Prop := (args = A → OnV c v w) ∧ (args = B → OnV d v w)
theorem OnV.step {c : PC} {v : Value} {w w' : World} (h : OnV c v w) (hs : Step [] w w') : OnV c v w' := by
  obtain ⟨a, k, h1, h2⟩ := h
  exact ⟨a, k, h1, h2.step0 hs⟩
theorem spU_law (c d : PC) (A B : Array Value) : RelLaw (Step []) (SpU c d A B) := ⟨fun w => Step.refl _ _, fun w w' w'' h1 h2 => h1.then h2 (by simp), fun f args v w w' h hs => ⟨fun hf => (h.1 hf).step hs, fun hf => (h.2 hf).step hs⟩⟩
theorem few_in' {w W : World} {a : Option Addr} {c : Nat} {s : PS} (h : SpIn w a c s) (hs : Step [] w W) : Calls Try.prog 29 #[.agg (spC s a s.ds.length c).toArray] W fun e w' => e = .returned (.bool (fewS s)) ∧ Step [] W w' :=
  few_any s a c W (h.ds.step0 hs) (Nat.le_trans h.dl (by unfold maxLen; omega)) (Nat.le_trans h.nm (by unfold maxLen; omega)) (Nat.le_trans h.tn (by unfold maxLen; omega)) (Nat.le_trans h.cr (by unfold maxLen; omega)) (fun d hd => Nat.le_trans (h.dm d hd) (by unfold maxLen; omega))
theorem fewc_in {w W : World} {a : Option Addr} {k : Nat} {c : PC} (h : CmIn w a k c) (hs : Step [] w W) : Calls Try.prog 11 #[.agg (cmC c a c.sp.ds.length k).toArray] W fun e w' => e = .returned (.bool (fewC c)) ∧ Step [] W w' :=
  fewc_any c a k W (Nat.le_trans h.nm (by unfold maxLen; omega)) (Nat.le_trans h.wk (by unfold maxLen; omega)) (fun X hX => few_in' h.sp (hs.then hX (by simp)))
theorem CmIn.wf {w : World} {a : Option Addr} {k : Nat} {c : PC} (h : CmIn w a k c) : WfC c := ⟨h.kd, h.tk, h.vl, h.sp.wf⟩
/-- a slice's bytes as a string, wherever -/
theorem str_of {w w' : World} {base : Nat} {v : Value} {l : List UInt8} (h : w.ownsRow base 5 1 v l.length (l.map byteVal)) (hs : Step [] w w') : (convert 23 9 v).run Try.prog w' = .ok (.string (bstr l)) w' := by
  obtain ⟨g, c, rfl, hl, hm, hc, hB, hn, _⟩ := owns_bytes h
  exact (hB.step hs (by simp)).str (P := Try.prog) (fun h => (hn h).1) c 23 9 5 Try.underlying23 Try.underlying5 Try.underlying9

theorem onlyC_sp (c : PC) : (onlyC c).sp = c.sp ∨ (onlyC c).sp = ps0 := by
  unfold onlyC
  repeat' split
  all_goals first | exact .inl rfl | exact .inr rfl
theorem onlyC_lit {c : PC} (h : LitS c.sp) : LitS (onlyC c).sp := by
  rcases onlyC_sp c with e | e <;> rw [e]
  · exact h
  · exact LitS_zero
theorem onlyC_wf {c : PC} (h : WfS c.sp) : WfS (onlyC c).sp := by
  rcases onlyC_sp c with e | e <;> rw [e]
  · exact h
  · exact WfS_zero
set_option maxRecDepth 100000 in
set_option maxHeartbeats 4000000 in
theorem unlike_any (p q : PQ) (a b : Option Addr) (k j : Nat) (w : World) (hp : RqIn w a k p) (hq : RqIn w b j q) :
    Calls Try.prog 4 #[.agg (rqC p a p.c.sp.ds.length k).toArray, .agg (rqC q b q.c.sp.ds.length j).toArray] w fun e w' => e = .returned (.bool true) ∧ Step [] w w' := by
  obtain ⟨n1, hn1⟩ : ∃ n, p.c.sp.ds.length = n := ⟨_, rfl⟩
  obtain ⟨n2, hn2⟩ : ∃ n, q.c.sp.ds.length = n := ⟨_, rfl⟩
  have HN1 := Lib.hid hn1
  have HN2 := Lib.hid hn2
  have HP := Lib.hid hp
  have HQ := Lib.hid hq
  rw [hn1, hn2]
  obtain ⟨W1, W, cb, db, x1, x2, b1, b2, hst⟩ := two_box w (rqC p a n1 k).toArray (rqC q b n2 j).toArray 40
  have X1 := Lib.hid x1
  have X2 := Lib.hid x2
  have B1 := Lib.hid b1
  have B2 := Lib.hid b2
  have HS := Lib.hid hst
  clear hn1 hn2 hp hq x1 x2 b1 b2 hst
  obtain ⟨f1, hf1⟩ : ∃ f, fewC p.c = f := ⟨_, rfl⟩
  obtain ⟨f2, hf2⟩ : ∃ f, fewC q.c = f := ⟨_, rfl⟩
  have HF1 := Lib.hid hf1
  have HF2 := Lib.hid hf2
  clear hf1 hf2
  go_enter Try.func4, Try.ntmps4
  go_wp2_with (first | rw [X1.out.1, X1.out.2] | rw [X2.out.1, X2.out.2])
  refine (lives_any _).mono ?_
  rintro e w1 ⟨rfl, h1⟩
  have HS1 := Lib.hid (HS.out.then h1 (by simp))
  have C1 := Lib.hid (B1.out.step h1 (by simp))
  have C2 := Lib.hid (B2.out.step h1 (by simp))
  clear h1 HS
  have r1 := rq_cm C1.out
  have HC1 := Lib.hid (fewc_in HP.out.c HS1.out)
  rw [HN1.out, HF1.out] at HC1
  go_wp2_with fail
  refine HC1.out.mono ?_
  rintro e w2 ⟨rfl, h2⟩
  have HS2 := Lib.hid (HS1.out.then h2 (by simp))
  have D1 := Lib.hid (C1.out.step h2 (by simp))
  have D2 := Lib.hid (C2.out.step h2 (by simp))
  clear h2 r1 HC1 C1 C2 HS1
  cases f1 with
  | false =>
    go_wp2_with fail
    refine (lives_any _).mono ?_
    rintro e w3 ⟨rfl, h3⟩
    go_wp2_with fail
    go_ret
    exact ⟨rfl, HS2.out.then h3 (by simp)⟩
  | true =>
    have r2 := rq_cm D2.out
    have HC2 := Lib.hid (fewc_in HQ.out.c HS2.out)
    rw [HN2.out, HF2.out] at HC2
    go_wp2_with fail
    refine HC2.out.mono ?_
    rintro e w3 ⟨rfl, h3⟩
    have HS3 := Lib.hid (HS2.out.then h3 (by simp))
    have E1 := Lib.hid (D1.out.step h3 (by simp))
    have E2 := Lib.hid (D2.out.step h3 (by simp))
    clear h3 r2 HC2 D1 D2 HS2
    cases f2 with
    | false =>
      go_wp2_with fail
      refine (lives_any _).mono ?_
      rintro e w4 ⟨rfl, h4⟩
      go_wp2_with fail
      go_ret
      exact ⟨rfl, HS3.out.then h4 (by simp)⟩
    | true =>
      have HL := Lib.hid (And.intro (fewC_lit HF1.out) (fewC_lit HF2.out))
      have r1 := rq_row E1.out
      have HB1 := Lib.hid (cmdBytes_any p a k w3 (HP.out.c.sp.ds.step0 HS3.out) HL.out.1 HP.out.c.wf HP.out.cl HP.out.no)
      rw [HN1.out] at HB1
      go_wp2_with fail
      refine HB1.out.mono ?_
      rintro e w4 ⟨hs4, v1, er1, rfl, hz1⟩
      have HS4 := Lib.hid (HS3.out.then hs4 (by simp))
      have F2 := Lib.hid (E2.out.step hs4 (by simp))
      have F1 := Lib.hid (E1.out.step hs4 (by simp))
      have HZ1 := Lib.hid hz1
      clear hs4 hz1 HB1 r1 E1 E2
      have r2 := rq_row F2.out
      have HB2 := Lib.hid (cmdBytes_any q b j w4 (HQ.out.c.sp.ds.step0 HS4.out) HL.out.2 HQ.out.c.wf HQ.out.cl HQ.out.no)
      rw [HN2.out] at HB2
      go_wp2_with fail
      refine HB2.out.mono ?_
      rintro e w5 ⟨hs5, v2, er2, rfl, hz2⟩
      have HS5 := Lib.hid (HS4.out.then hs5 (by simp))
      have G2 := Lib.hid (F2.out.step hs5 (by simp))
      have G1 := Lib.hid (F1.out.step hs5 (by simp))
      have HZ2 := Lib.hid hz2
      have H45 := Lib.hid hs5
      clear hs5 hz2 HB2 r2 F1 F2
      by_cases hr1 : er1 = 0
      · by_cases hr2 : er2 = 0
        · obtain ⟨hk1, ho1⟩ := HZ1.out hr1
          obtain ⟨hk2, ho2⟩ := HZ2.out hr2
          have HRS := Lib.hid (req_same hk1 hk2 HL.out.1 HL.out.2 HP.out.c.wf HQ.out.c.wf HP.out.cl HQ.out.cl HP.out.no HQ.out.no)
          have HK := Lib.hid (And.intro hk1 hk2)
          have HV1 := Lib.hid (fun (X : World) (hX : Step [] w5 X) => str_of ho1 (H45.out.then hX (by simp)))
          have HV2 := Lib.hid (fun (X : World) (hX : Step [] w5 X) => str_of ho2 hX)
          clear hk1 hk2 ho1 ho2 HZ1 HZ2
          go_wp2_with fail
          clear hr1 hr2
          have hne : Nonempty (ClsW (Step [] w5.drew)) := ⟨⟨_, Step.refl _ _⟩⟩
          have q0 : ∀ y : ClsW (Step [] w5.drew), y.val.cell? ⟨cb, 0, none⟩ = some (.int .u64 (p.cl : Int)) := fun y => (G1.out.drew.step y.ok (by simp)).cell 0
          by_cases hc : p.cl = q.cl
          · have r0 : ∀ y : ClsW (Step [] w5.drew), y.val.cell? ⟨db, 0, none⟩ = some (.int .u64 (p.cl : Int)) := fun y => by rw [hc]; exact (G2.out.drew.step y.ok (by simp)).cell 0
            have q1 : ∀ y : ClsW (Step [] w5.drew), y.val.cell? ⟨cb, 1, none⟩ = some (.int .u64 (p.no : Int)) := fun y => (G1.out.drew.step y.ok (by simp)).cell 1
            by_cases hno : p.no = q.no
            · have r1 : ∀ y : ClsW (Step [] w5.drew), y.val.cell? ⟨db, 1, none⟩ = some (.int .u64 (p.no : Int)) := fun y => by rw [hno]; exact (G2.out.drew.step y.ok (by simp)).cell 1
              have q2 : ∀ y : ClsW (Step [] w5.drew), rowC y.val cb 2 16 = some (cmC p.c a n1 k) := fun y => rq_cm (G1.out.drew.step y.ok (by simp))
              have r2 : ∀ y : ClsW (Step [] w5.drew), rowC y.val db 2 16 = some (cmC q.c b n2 j) := fun y => rq_cm (G2.out.drew.step y.ok (by simp))
              obtain ⟨r, hr⟩ : ∃ r, sameC (onlyC p.c) (onlyC q.c) = r := ⟨_, rfl⟩
              have hfin : (reqB p == reqB q) = r := by
                have h := HRS.out
                rw [hr] at h
                cases r with
                | true => simpa using h.2 ⟨hc, hno, rfl⟩
                | false =>
                  have : ¬ reqB p = reqB q := fun he => by
                    have := (h.1 he).2.2
                    cases this
                  simpa using this
              have HR := Lib.hid (And.intro hr hfin)
              clear hr hfin hc hno
              have hinj : #[Value.agg (cmC p.c a n1 k).toArray] = #[Value.agg (cmC q.c b n2 j).toArray] → p.c = q.c := fun h => by
                rw [← HN1.out, ← HN2.out] at h
                have h2 : (cmC p.c a p.c.sp.ds.length k).toArray = (cmC q.c b q.c.sp.ds.length j).toArray := by simpa using h
                exact cm_inj h2 HP.out.c.sp.ds HQ.out.c.sp.ds
              have HO1 := Lib.hid (fun (X : World) (hX : Step [] w5.drew X) => (only_any p.c a k X HK.out.1 HP.out.c.sp.nil (HP.out.c.sp.ds.step0 (HS5.out.drew.then hX (by simp))) HL.out.1).mono fun e w' h => (show ∃ v, e = Ending.returned v ∧ SpU p.c q.c #[.agg (cmC p.c a n1 k).toArray] #[.agg (cmC q.c b n2 j).toArray] 14 #[.agg (cmC p.c a n1 k).toArray] v w' ∧ Step [] X w' from by
                obtain ⟨a', k', h1, h2, h3⟩ := h
                exact ⟨_, h1, ⟨fun _ => ⟨a', k', rfl, h2⟩, fun he => by rw [← hinj he]; exact ⟨a', k', rfl, h2⟩⟩, h3⟩))
              have HO2 := Lib.hid (fun (X : World) (hX : Step [] w5.drew X) => (only_any q.c b j X HK.out.2 HQ.out.c.sp.nil (HQ.out.c.sp.ds.step0 (HS5.out.drew.then hX (by simp))) HL.out.2).mono fun e w' h => (show ∃ v, e = Ending.returned v ∧ SpU p.c q.c #[.agg (cmC p.c a n1 k).toArray] #[.agg (cmC q.c b n2 j).toArray] 14 #[.agg (cmC q.c b n2 j).toArray] v w' ∧ Step [] X w' from by
                obtain ⟨a', k', h1, h2, h3⟩ := h
                exact ⟨_, h1, ⟨fun he => by rw [hinj he.symm]; exact ⟨a', k', rfl, h2⟩, fun _ => ⟨a', k', rfl, h2⟩⟩, h3⟩))
              rw [HN1.out] at HO1
              rw [HN2.out] at HO2
              clear hinj
              have HLaw := Lib.hid (spU_law p.c q.c #[.agg (cmC p.c a n1 k).toArray] #[.agg (cmC q.c b n2 j).toArray])
              refine wp_region_rel_tail HLaw.out 19 (by kernel_rfl) (by kernel_rfl) ?_
              simp only [List.take_succ_cons, List.take_zero, List.drop_succ_cons, List.drop_zero]
              refine wpR_pre HLaw.out anti_tailU 15 _ _ _ ?_ rfl
              simp only [List.take_succ_cons, List.take_zero, List.drop_succ_cons, List.drop_zero]
              repeat (go_big_quiet_step (fail))
              refine wpQuiet_nil ?_
              refine wpR_callF 14 _ _ rfl (by rfl) Try.func14 (by kernel_rfl) (by kernel_rfl) #[.agg (cmC p.c a n1 k).toArray] (by simp [Act.eval]) (fun X hX => HO1.out X hX) ?_
              intro v3 _
              refine wpR_pre HLaw.out anti_tailU 2 _ _ _ ?_ rfl
              simp only [List.take_succ_cons, List.take_zero, List.drop_succ_cons, List.drop_zero]
              go_simp
              repeat (go_big_quiet_step (fail))
              refine wpQuiet_nil ?_
              refine wpR_callF 14 _ _ rfl (by rfl) Try.func14 (by kernel_rfl) (by kernel_rfl) #[.agg (cmC q.c b n2 j).toArray] (by simp [Act.eval]) (fun X hX => HO2.out X hX) ?_
              intro v4 _
              unfold wpR
              intro w7 hs7 hF7
              obtain ⟨a5, k5, rfl, t5⟩ := hF7.1.1 rfl
              obtain ⟨a6, k6, rfl, t6⟩ := hF7.2.2 rfl
              have s7 := (Step.refl [] w5).drew.then hs7 (by simp)
              have HS7 := Lib.hid (HS5.out.then s7 (by simp))
              have S7 := Lib.hid s7
              have HC := Lib.hid (same_any (onlyC p.c) (onlyC q.c) a5 a6 k5 k6 w7 t5 t6 (onlyC_lit HL.out.1.sp) (onlyC_lit HL.out.2.sp) (onlyC_wf HP.out.c.wf.sp) (onlyC_wf HQ.out.c.wf.sp))
              rw [HR.out.1] at HC
              clear hne hs7 hF7 t5 t6 s7 q0 r0 q1 r1 q2 r2 HO1 HO2 HLaw
              go_wp2_with fail
              refine HC.out.mono ?_
              rintro e w8 ⟨rfl, hs8⟩
              have s8 := S7.out.then hs8 (by simp)
              have HS8 := Lib.hid (HS7.out.then hs8 (by simp))
              have cv1 := HV1.out w8 s8
              have cv2 := HV2.out w8 s8
              have hfin := HR.out.2
              clear hs8 s8
              go_wp2_with fail
              go_ret
              exact ⟨by simp, HS8.out⟩
            · have r1 : ∀ y : ClsW (Step [] w5.drew), y.val.cell? ⟨db, 1, none⟩ = some (.int .u64 (q.no : Int)) := fun y => (G2.out.drew.step y.ok (by simp)).cell 1
              have hb : ((p.no : Int) == (q.no : Int)) = false := by simp only [beq_eq_false_iff_ne, ne_eq]; omega
              have hfin : (reqB p == reqB q) = false := by
                have : ¬ reqB p = reqB q := fun he => hno (HRS.out.1 he).2.1
                simpa using this
              clear hc
              refine region_cls (G := Step [] w5.drew) (by kernel_rfl) (by kernel_rfl) (Step.refl _ _) ?_
              repeat (go_big_quiet_step (fail))
              refine wpQuiet_nil ?_
              rintro w7 ⟨⟨w7i, hw7⟩, he⟩
              have he' : w7 = w7i := he
              subst he'
              clear he
              have s7 := (Step.refl [] w5).drew.then hw7 (by simp)
              have HS7 := Lib.hid (HS5.out.then s7 (by simp))
              have cv1 := HV1.out w7 s7
              have cv2 := HV2.out w7 s7
              clear hne hw7 s7 q0 r0 q1 r1 hb hno
              go_wp2_with fail
              go_ret
              exact ⟨rfl, HS7.out⟩
          · have r0 : ∀ y : ClsW (Step [] w5.drew), y.val.cell? ⟨db, 0, none⟩ = some (.int .u64 (q.cl : Int)) := fun y => (G2.out.drew.step y.ok (by simp)).cell 0
            have hb : ((p.cl : Int) == (q.cl : Int)) = false := by simp only [beq_eq_false_iff_ne, ne_eq]; omega
            have hfin : (reqB p == reqB q) = false := by
              have : ¬ reqB p = reqB q := fun he => hc (HRS.out.1 he).1
              simpa using this
            refine region_cls (G := Step [] w5.drew) (by kernel_rfl) (by kernel_rfl) (Step.refl _ _) ?_
            repeat (go_big_quiet_step (fail))
            refine wpQuiet_nil ?_
            rintro w7 ⟨⟨w7i, hw7⟩, he⟩
            have he' : w7 = w7i := he
            subst he'
            clear he
            have s7 := (Step.refl [] w5).drew.then hw7 (by simp)
            have HS7 := Lib.hid (HS5.out.then s7 (by simp))
            have cv1 := HV1.out w7 s7
            have cv2 := HV2.out w7 s7
            clear hne hw7 s7 q0 r0 hb hc
            go_wp2_with fail
            go_ret
            exact ⟨rfl, HS7.out⟩
        · clear HZ1 HZ2
          go_wp2_with fail
          go_ret
          exact ⟨rfl, HS5.out⟩
      · clear HZ1 HZ2
        go_wp2_with fail
        go_ret
        exact ⟨rfl, HS5.out⟩
theorem commandUnlike_any (p q : PQ) (a b : Option Addr) (k j : Nat) (w : World) (hp : RqIn w a k p) (hq : RqIn w b j q) :
    Calls Try.prog 4 #[.agg (rqC p a p.c.sp.ds.length k).toArray, .agg (rqC q b q.c.sp.ds.length j).toArray] w fun e w' => e = .returned (.bool true) ∧ Below w.heap.size w w' :=
  (unlike_any p q a b k j w hp hq).mono fun e w1 h => ⟨h.1, h.2.below'⟩
end Go.Proofs.Ytdfkagpnfgmbeaa
