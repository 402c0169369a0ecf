/- command.MembersOf. -/
import Derived.Test.YtdfkagpnfgmbeaaCmdM
import Derived.Test.YtdfkagpnfgmbeaaOctetG
import Derived.Test.YtdfkagpnfgmbeaaOctetEnd
import Derived.Test.YtdfkagpnfgmbeaaOctetRead
import Derived.Deep.AppendLies
namespace Go.Proofs.Ytdfkagpnfgmbeaa
set_option linter.unusedVariables false
open Go.RowKit

theorem countR_back {most : Nat} {l : List UInt8} {x : Nat} {m : List UInt8} (h : countR most (numR l 0) = (x, m, 0)) : l = numB x ++ m := by
  have h2 : numR l 0 = (x, m, 0) := by
    unfold countR at h
    split at h
    · obtain ⟨y, n, e⟩ := numR l 0
      simp only [Prod.mk.injEq] at h
      split at h
      · exact absurd h.2.2 (by decide)
      · next hne => exact absurd h.2.2 hne
    · exact h
  exact (numR_back h2).1
theorem countR_most (most : Nat) (p : Nat × List UInt8 × Int) : (countR most p).1 ≤ most := by
  unfold countR
  split
  · exact Nat.zero_le _
  · omega
theorem countR_err (most : Nat) (l : List UInt8) (h : (countR most (numR l 0)).2.2 ≠ 0) : (countR most (numR l 0)).1 = 0 := by
  unfold countR at h ⊢
  split
  · rfl
  · next hn =>
    rw [if_neg hn] at h
    exact numR_err l 0 h

/-- what Get reads: so many numbers, each at most 8 -/
def getF : Nat → List Int → List UInt8 → List Int × List UInt8 × Int
  | 0, acc, l => (acc, l, 0)
  | n + 1, acc, l => if (numR l 0).2.2 = 0 then getF n (acc ++ [((min (numR l 0).1 8 : Nat) : Int)]) (numR l 0).2.1 else ([], (numR l 0).2.1, (numR l 0).2.2)
def getR (l : List UInt8) : List Int × List UInt8 × Int :=
  if (countR 7 (numR l 0)).2.2 = 0 then getF (countR 7 (numR l 0)).1 [] (countR 7 (numR l 0)).2.1 else ([], (countR 7 (numR l 0)).2.1, (countR 7 (numR l 0)).2.2)

theorem getF_back : ∀ (n : Nat) (acc : List Int) (l : List UInt8) (out : List Int) (rest : List UInt8), getF n acc l = (out, rest, 0) →
    ∃ xs : List Nat, xs.length = n ∧ out = acc ++ xs.map (fun x => ((min x 8 : Nat) : Int)) ∧ l = xs.flatMap numB ++ rest := by
  intro n
  induction n with
  | zero =>
    intro acc l out rest h
    simp only [getF, Prod.mk.injEq, and_true] at h
    exact ⟨[], rfl, by simp [h.1], by simp [h.2]⟩
  | succ n ih =>
    intro acc l out rest h
    unfold getF at h
    by_cases q : (numR l 0).2.2 = 0
    · rw [if_pos q] at h
      obtain ⟨xs, h1, h2, h3⟩ := ih _ _ _ _ h
      obtain ⟨⟨x, m, e⟩, hp⟩ : ∃ p, numR l 0 = p := ⟨_, rfl⟩
      rw [hp] at q h2 h3
      simp only at q h2 h3
      subst q
      obtain ⟨hl, -⟩ := numR_back hp
      refine ⟨x :: xs, by simp [h1], by rw [h2]; simp, ?_⟩
      rw [hl, h3]
      simp
    · rw [if_neg q] at h
      simp only [Prod.mk.injEq] at h
      exact absurd h.2.2 q

theorem getF_ok : ∀ (l : List Int) (acc : List Int) (rest : List UInt8), (∀ x ∈ l, 0 ≤ x ∧ x ≤ 7) → getF l.length acc (eachB l ++ rest) = (acc ++ l, rest, 0) := by
  intro l
  induction l with
  | nil => intro acc rest _; simp [getF, eachB]
  | cons x r ih =>
    intro acc rest h
    have hx := h x (by simp)
    have hn := numR_ok x.toNat (eachB r ++ rest) (by unfold M64; omega)
    have he : eachB (x :: r) ++ rest = numB x.toNat ++ (eachB r ++ rest) := by simp [eachB]
    rw [he]
    show getF (r.length + 1) acc _ = _
    unfold getF
    rw [hn]
    simp only [if_true]
    rw [ih _ _ (fun y hy => h y (by simp [hy]))]
    have hm : ((min x.toNat 8 : Nat) : Int) = x := by
      rw [Nat.min_eq_left (by omega)]
      omega
    rw [hm]
    simp

theorem getF_len : ∀ (n : Nat) (acc : List Int) (l : List UInt8), (getF n acc l).1.length ≤ acc.length + n := by
  intro n
  induction n with
  | zero => intro acc l; simp [getF]
  | succ n ih =>
    intro acc l
    unfold getF
    split
    · have := ih (acc ++ [((min (numR l 0).1 8 : Nat) : Int)]) (numR l 0).2.1
      rw [List.length_append] at this
      simp only [List.length_cons, List.length_nil] at this
      omega
    · simp
theorem getR_len (l : List UInt8) : (getR l).1.length ≤ 7 := by
  unfold getR
  split
  · have h1 := getF_len (countR 7 (numR l 0)).1 [] (countR 7 (numR l 0)).2.1
    have h2 := countR_most 7 (numR l 0)
    simp only [List.length_nil] at h1
    omega
  · simp

/-- what MembersOf answers -/
def membersR (b : List UInt8) : Option (List Int) × Int :=
  if endR (getR b).2.1 (getR b).2.2 ≠ 0 then (none, endR (getR b).2.1 (getR b).2.2)
  else if goodM (getR b).1 then (some (getR b).1, 0) else (none, 2)

theorem membersR_row {l : List Int} (h : goodM l = true) : membersR (rowB l) = (some l, 0) := by
  have hl := good_len h
  have hb := good_bounds h
  have h1 : countR 7 (numR (rowB l) 0) = (l.length, eachB l, 0) := by
    unfold rowB
    rw [numR_ok _ _ (by unfold M64; omega)]
    unfold countR
    rw [if_neg (by simp; omega)]
  have h2 := getF_ok l [] [] hb
  rw [List.append_nil] at h2
  have h3 : getR (rowB l) = (l, [], 0) := by
    unfold getR
    rw [h1]
    simp only [if_true]
    rw [h2]
    simp
  unfold membersR
  rw [h3]
  simp [endR, h]
theorem membersR_ok {b : List UInt8} {l : List Int} {e : Int} (h : membersR b = (some l, e)) : e = 0 ∧ goodM l = true ∧ rowB l = b := by
  unfold membersR at h
  split at h
  · cases h
  · next hE =>
    have hE' : endR (getR b).2.1 (getR b).2.2 = 0 := Decidable.not_not.1 hE
    split at h
    · next hg =>
      simp only [Prod.mk.injEq, Option.some.injEq] at h
      obtain ⟨hl, he⟩ := h
      refine ⟨he.symm, by rw [← hl]; exact hg, ?_⟩
      obtain ⟨⟨out, rest, e1⟩, hp⟩ : ∃ p, getR b = p := ⟨_, rfl⟩
      rw [hp] at hE' hl hg
      simp only at hE' hl hg
      subst hl
      have he1 : e1 = 0 := by
        unfold endR at hE'
        split at hE'
        · exact absurd hE' (by decide)
        · exact hE'
      subst he1
      have hr : rest = [] := by
        unfold endR at hE'
        split at hE'
        · exact absurd hE' (by decide)
        · next hn => exact List.eq_nil_of_length_eq_zero (by omega)
      subst hr
      unfold getR at hp
      split at hp
      · next h0 =>
        obtain ⟨⟨c, l1, e2⟩, hc⟩ : ∃ p, countR 7 (numR b 0) = p := ⟨_, rfl⟩
        rw [hc] at hp h0
        simp only at hp h0
        subst h0
        have hb := countR_back hc
        obtain ⟨xs, x1, x2, x3⟩ := getF_back _ _ _ _ _ hp
        rw [List.nil_append] at x2
        rw [List.append_nil] at x3
        have hx : ∀ x ∈ xs, x ≤ 7 := by
          intro x hx
          have h7 := (good_bounds hg) ((min x 8 : Nat) : Int) (by rw [x2]; exact List.mem_map.2 ⟨x, hx, rfl⟩)
          omega
        have hol : out.length = c := by rw [x2, List.length_map, x1]
        rw [hb, x3]
        unfold rowB
        rw [hol]
        congr 1
        rw [x2]
        unfold eachB
        rw [List.flatMap_map]
        clear x1 x2 x3 hol hp hb hc
        induction xs with
        | nil => rfl
        | cons x r ih =>
          have h1 := hx x (by simp)
          rw [List.flatMap_cons, List.flatMap_cons, ih (fun y hy => hx y (by simp [hy]))]
          congr 1
          rw [Nat.min_eq_left (by omega)]
          rfl
      · next h0 =>
        simp only [Prod.mk.injEq] at hp
        exact absurd hp.2.2 h0
    · cases h

set_option maxHeartbeats 1000000 in
theorem read_one (rb db : Nat) (l : List UInt8) (e : Int) (w : World) (h : Rd w rb db l e) :
    Calls Try.prog 19 #[.pointer (some ⟨rb, 0, none⟩)] w fun en w' => en = .returned (.int .i64 ((min (numR l e).1 8 : Nat) : Int)) ∧ Left rb db (numR l e).2.1 (numR l e).2.2 w w' := by
  have HN := Lib.hid (rnum_any rb db l e w h)
  clear h
  obtain ⟨⟨x, m, e1⟩, hp⟩ : ∃ p, numR l e = p := ⟨_, rfl⟩
  rw [hp] at HN ⊢
  simp only at HN ⊢
  clear hp
  go_enter Try.func19, Try.ntmps19
  go_wp2_with fail
  refine HN.out.mono ?_
  rintro en w1 ⟨rfl, hL⟩
  have HL := Lib.hid hL
  clear hL HN
  go_wp2_with fail
  · go_ret
    exact ⟨by rw [Nat.min_eq_right (by omega)]; rfl, HL.out⟩
  · go_ret
    exact ⟨by rw [Nat.min_eq_left (by omega)]; rfl, HL.out⟩

theorem readF_rest : ∀ (l : List UInt8) (i acc : Nat), (readF i acc l).2.1.length ≤ l.length := by
  intro l
  induction l with
  | nil => intro i acc; simp [readF]
  | cons b r ih =>
    intro i acc
    unfold readF
    split
    · simp
    · split
      · simp
      · have := ih (i + 1) (acc + b.toNat % 128 * 2 ^ (7 * i))
        simp
        omega
theorem numR_rest (l : List UInt8) : (numR l 0).2.1.length ≤ l.length := by
  unfold numR
  rw [if_pos rfl]
  exact readF_rest l 0 0

theorem Rd.stepN {F : List Nat} {w w' : World} {rb db : Nat} {l : List UInt8} {e : Int} (h : Rd w rb db l e) (hs : Step F w w') (h1 : rb ∉ F) (h2 : 0 < l.length → db ∉ F) : Rd w' rb db l e := by
  obtain ⟨a, cap, hb, hsl, hd, hne⟩ := h
  refine ⟨a, cap, hb.step hs h1, ⟨?_, hsl.nil, hsl.len, hsl.max, hsl.plain⟩, hd, hne⟩
  by_cases q : 0 < l.length
  · exact hsl.bytes.step hs (fun b off hb => by rw [hd b (by rw [hb]; rfl)]; exact h2 q)
  · have : l = [] := List.eq_nil_of_length_eq_zero (by omega)
    subst this
    exact Bytes.nil _ _
theorem Rd.lts {w : World} {rb db : Nat} {l : List UInt8} {e : Int} (h : Rd w rb db l e) : rb < w.heap.size ∧ (0 < l.length → db < w.heap.size) := by
  obtain ⟨a, cap, hb, hsl, hd, hne⟩ := h
  refine ⟨hb.lt, fun q => ?_⟩
  obtain ⟨b, off, ha, hlt, -⟩ := hsl.bytes 0 q
  have := hd b (by rw [ha]; rfl)
  omega

set_option maxRecDepth 20000 in
set_option maxHeartbeats 2000000 in
theorem get_any (rb db : Nat) (l : List UInt8) (w : World) (h : Rd w rb db l 0) :
    Calls Try.prog 18 #[.pointer (some ⟨rb, 0, none⟩), .int .i64 7, .func (.func 19) #[] #[]] w fun en w' => (∃ v, en = .returned v ∧ w'.ownsRow w.heap.size 3 1 v (getR l).1.length ((getR l).1.map iVal)) ∧ Left rb db (getR l).2.1 (getR l).2.2 w w' := by
  obtain ⟨i0, hi0, hz0, hz1, hz2⟩ := info_parts Try.infoI
  have HC := Lib.hid (rcount_any rb db 7 l 0 w (by decide) h)
  have hcm := countR_most 7 (numR l 0)
  have hce := countR_err 7 l
  obtain ⟨⟨r1, r2, r3⟩, hr⟩ : ∃ r, getR l = r := ⟨_, rfl⟩
  rw [hr]
  unfold getR at hr
  obtain ⟨⟨c, l1, e1⟩, hp⟩ : ∃ p, countR 7 (numR l 0) = p := ⟨_, rfl⟩
  rw [hp] at HC hcm hce hr
  simp only at HC hcm hce hr ⊢
  clear hp h
  have HCE := Lib.hid hce
  have HR := Lib.hid hr
  clear hce hr
  go_enter Try.func18, Try.ntmps18
  go_wp2_with fail
  refine HC.out.mono ?_
  rintro en w1 ⟨rfl, hL⟩
  have HL1 := Lib.hid hL
  have hrlt : rb < w.heap.size ∨ True := .inr trivial
  clear hL HC hrlt
  go_wp2_with fail
  go_loopw [7, 12] (fun v i wr => ∃ (k : Nat) (out : List Int) (m : List UInt8), k ≤ c ∧ i = .int .i64 k ∧ out.length = k ∧ wr.ownsRow w.heap.size 3 1 v k (out.map iVal) ∧ rb ∉ foot v ∧ (0 < m.length → db ∉ foot v) ∧ Rd wr rb db m e1 ∧ Step [rb] w wr ∧ (if e1 = 0 then getF (c - k) out m else ([], m, e1)) = (r1, r2, r3) ∧ (e1 ≠ 0 → out = [])) (fun _ i _ => c - (intOf i).toNat)
  case atStart => exact ⟨0, [], l1, Nat.zero_le _, rfl, rfl, World.ownsRow_nil _ _ _ _, by simp [foot, Value.ownBlock], by simp [foot, Value.ownBlock], HL1.out.1, HL1.out.2, HR.out, fun _ => rfl⟩
  case round =>
    obtain ⟨k, out, m, hk, rfl, hol, hown, hap, hap2, hRd, hs, hF, ho0⟩ := hrel
    have HO := Lib.hid hown
    have HAp := Lib.hid hap
    have HAp2 := Lib.hid hap2
    have HRd := Lib.hid hRd
    have HS := Lib.hid hs
    have HF := Lib.hid hF
    have HO0 := Lib.hid ho0
    have HOL := Lib.hid hol
    clear hown hap hap2 hRd hs hF ho0 hol HL1 HR
    by_cases hkc : k < c
    · have hkm : (k : Int) < (c : Int) := by omega
      have he1 : e1 = 0 := by
        rcases Decidable.em (e1 = 0) with h | h
        · exact h
        · have := HCE.out h; omega
      subst he1
      have HF2 := Lib.hid ((if_pos rfl).symm.trans HF.out)
      obtain ⟨q, hq⟩ : ∃ q, c - k = q + 1 := ⟨c - k - 1, by omega⟩
      rw [hq] at HF2
      have HQ := Lib.hid hq
      clear hq HF
      have hF3 := HF2.out
      unfold getF at hF3
      have hrs := numR_rest m
      have HN := Lib.hid (read_one rb db m 0 wr HRd.out)
      obtain ⟨⟨x, m2, e2⟩, hp⟩ : ∃ p, numR m 0 = p := ⟨_, rfl⟩
      rw [hp] at HN hF3 hrs
      simp only at HN hF3 hrs
      have HF3 := Lib.hid hF3
      clear hF3 hp HF2
      obtain ⟨y, hy⟩ : ∃ y, min x 8 = y := ⟨_, rfl⟩
      rw [hy] at HN HF3
      clear hy
      go_wp2_with fail
      refine HN.out.mono ?_
      rintro en w2 ⟨rfl, hL⟩
      have HE := Lib.hid (rerr_any rb db _ _ w2 hL.1)
      have HL := Lib.hid hL
      clear hL HN
      go_wp2_with fail
      refine HE.out.mono ?_
      rintro en w3 ⟨rfl, rfl⟩
      by_cases he2 : ¬ e2 = 0
      · have p2 : (e2 == 0) = false := by simpa using he2
        have hv := Lib.hid ((if_neg he2).symm.trans HF3.out)
        clear HF3
        go_wp2_with fail
        go_ret
        have h1 := hv.out
        simp only [Prod.mk.injEq] at h1
        obtain ⟨rfl, rfl, rfl⟩ := h1
        exact ⟨⟨_, rfl, World.ownsRow_nil _ _ _ _⟩, HL.out.1, HS.out.then HL.out.2 (fun j hj => .inl hj)⟩
      replace he2 : e2 = 0 := Decidable.not_not.1 he2
      subst he2
      have HV := Lib.hid ((if_pos rfl).symm.trans HF3.out)
      clear HF3
      have hO2 := owns_step HO.out HL.out.2 (fun j hj hm => by simp at hm; subst hm; exact HAp.out hj)
      have HO2 := Lib.hid hO2
      have HS2 := Lib.hid (HS.out.then HL.out.2 (fun j hj => .inl hj))
      have hsz2 := HS2.out.size
      clear hO2
      go_wp2_with (at_builtin; refine wpList_append_sep rfl (.tmp 20) (.tmp 22) 22 rfl w.heap.size 3 i0 _ 1 8 Try.underlying22 hi0 hz0 hz1 hz2 rfl (by decide) _ k (out.map iVal) rfl (owns_step HO2.out ((Step.refl [] w2).alloc _) (by simp)) (some ⟨w2.heap.size, 0, none⟩) 1 1 [.int .i64 (y : Int)] rfl (by intro h; cases h) rfl (fun ad h => by cases h; exact World.news_of_block (Go.heap_alloc_new _ _)) (by intro u hu; simp at hu; subst hu; rfl) (by unfold maxLen; omega) (by omega) (by rw [World.size_alloc]; omega) ?_)
      intro v3 w3 hown3 hg3 hf3
      have hst : Step (foot u7) (w2.alloc (.cells #[.int .i64 (y : Int)] 3)) w3 := (Step.refl _ _).grown hg3 (fun r hr => .inl (mem_foot.2 hr))
      have hst2 : Step (foot u7) w2 w3 := ((Step.refl (foot u7) w2).alloc _).then hst (fun r hr => .inl hr)
      have hlts := HL.out.1.lts
      have hRd3 := HL.out.1.stepN hst2 HAp.out (fun h => HAp2.out (by omega))
      have hap3 : rb ∉ foot v3 := fun hm => by
        rcases hf3 _ hm with h | h
        · exact HAp.out h
        · rw [World.size_alloc] at h; omega
      have hap4 : 0 < m2.length → db ∉ foot v3 := fun hq hm => by
        rcases hf3 _ hm with h | h
        · exact HAp2.out (by omega) h
        · rw [World.size_alloc] at h; have := hlts.2 hq; omega
      have hS3 := HS2.out.then hst2 (fun r hr => .inr (owns_base HO.out r hr))
      have hm3 : out.map iVal ++ [.int .i64 (y : Int)] = (out ++ [(y : Int)]).map iVal := by simp [iVal]
      rw [hm3] at hown3
      have HO3 := Lib.hid hown3
      have HR3 := Lib.hid hRd3
      have HA3 := Lib.hid hap3
      have HA4 := Lib.hid hap4
      have HS3 := Lib.hid hS3
      have hq2 : c - (k + 1) = q := by have := HQ.out; omega
      have HQ2 := Lib.hid hq2
      have hol2 : (out ++ [(y : Int)]).length = k + 1 := by rw [List.length_append, HOL.out]; rfl
      have HOL2 := Lib.hid hol2
      clear hown3 hg3 hf3 hst hst2 hlts hRd3 hap3 hap4 hS3 hm3 hq2 hol2
      go_wp2_with fail
      go_roundw
      case rel => exact ⟨k + 1, _, m2, by omega, by go_num, HOL2.out, HO3.out, HA3.out, HA4.out, HR3.out, HS3.out, by rw [HQ2.out]; exact HV.out, fun h => absurd rfl h⟩
      case measure => simp [intOf]; omega
    · have hke : k = c := by omega
      subst hke
      have hv : (out, m, e1) = (r1, r2, r3) := by
        have h := HF.out
        rw [Nat.sub_self] at h
        by_cases he : e1 = 0
        · rw [if_pos he] at h
          rw [he]
          exact h
        · rw [if_neg he] at h
          rw [HO0.out he]
          exact h
      have HV := Lib.hid hv
      clear hv
      go_wp2_with fail
      go_ret
      have h1 := HV.out
      simp only [Prod.mk.injEq] at h1
      obtain ⟨rfl, rfl, rfl⟩ := h1
      refine ⟨⟨_, rfl, ?_⟩, HRd.out, HS.out⟩
      rw [HOL.out]
      exact HO.out
set_option maxHeartbeats 1000000 in
theorem rread_arg (a : Option Addr) (cap : Nat) (l : List UInt8) (w : World) (hn : a = none → l.length = 0 ∧ cap = 0) (hB : Bytes w a l) (hlen : l.length ≤ 70368744177664) :
    Calls Try.prog 17 #[.slice a l.length cap] w fun en w' => ∃ rb db, en = .returned (.pointer (some ⟨rb, 0, none⟩)) ∧ Rd w' rb db l 0 ∧ Step [] w w' ∧ w.heap.size ≤ rb ∧ w.heap.size ≤ db := by
  have HC := Lib.hid (clone_bytes a cap l w hn hB hlen)
  clear hn hB
  go_enter Try.func17, Try.ntmps17
  go_wp2_with fail
  refine HC.out.mono ?_
  rintro e w1 ⟨v, rfl, hown, hst⟩
  obtain ⟨a', cap', rfl, -, hsl, hft, hbk⟩ := owns_slb hown
  have HS := Lib.hid hsl
  have HB := Lib.hid hbk
  have HT := Lib.hid hst
  clear hsl hft hbk hst hown
  go_wp2_with fail
  go_ret
  have hsz := HT.out.size
  refine ⟨w1.heap.size, (blkOf a').getD (w1.heap.size + 1), rfl, ⟨a', cap', Blk.new _ _ _, HS.out.step ((Step.refl [] _).alloc _) (by simp), fun b hb => by rw [hb]; rfl, ?_⟩, HT.out.alloc _, hsz, ?_⟩
  · cases hb : blkOf a' with
    | none => simp
    | some b => have := HB.out b hb; simp; omega
  · cases hb : blkOf a' with
    | none => simp; omega
    | some b => have := HB.out b hb; simp; omega

set_option maxHeartbeats 1000000 in
theorem clip_any (a : Option Addr) (n cap : Nat) (w : World) (h : n ≤ cap) :
    Calls Try.prog 23 #[.slice a n cap] w fun e w' => e = .returned (.slice a n n) ∧ w = w' := by
  have g1 : (0 : Int) ≤ (n : Int) ∧ (n : Int) ≤ (cap : Int) := by omega
  go_enter Try.func23, Try.ntmps23
  go_wp2_with fail
  all_goals
    go_ret
    exact ⟨rfl, rfl⟩

/-- what MembersOf leaves -/
def MembersOfd (r : Option (List Int) × Int) (w : World) (en : Ending) (w' : World) : Prop :=
  match r.1 with
  | none => en = .returned (.tuple #[.slice none 0 0, .int .i64 r.2]) ∧ Step [] w w'
  | some l => (∃ a, en = .returned (.tuple #[.slice a l.length l.length, .int .i64 r.2]) ∧ Ints w' a l) ∧ Step [] w w'

set_option maxHeartbeats 2000000 in
theorem membersOf_any (a : Option Addr) (cap : Nat) (b : List UInt8) (w : World) (hn : a = none → b.length = 0 ∧ cap = 0) (hB : Bytes w a b) (hlen : b.length ≤ 1000000) :
    Calls Try.prog 7 #[.slice a b.length cap] w (MembersOfd (membersR b) w) := by
  have HC := Lib.hid (rread_arg a cap b w hn hB (by omega))
  clear hn hB
  obtain ⟨r, hr⟩ : ∃ r, membersR b = r := ⟨_, rfl⟩
  rw [hr]
  unfold membersR at hr
  have HR := Lib.hid hr
  clear hr
  go_enter Try.func7, Try.ntmps7
  go_wp2_with fail
  refine HC.out.mono ?_
  rintro en w1 ⟨rb, db, rfl, hRd, hs1, hrb, hdb⟩
  have HG := Lib.hid (get_any rb db b w1 hRd)
  have HS1 := Lib.hid hs1
  clear hRd hs1 HC
  obtain ⟨⟨out, rest, e⟩, hp⟩ : ∃ p, getR b = p := ⟨_, rfl⟩
  have h7 := getR_len b
  rw [hp] at HG HR h7
  simp only at HG HR h7
  clear hp
  go_wp2_with fail
  refine HG.out.mono ?_
  rintro en w2 ⟨⟨v, rfl, hown⟩, hRd, hs2⟩
  have HE := Lib.hid (rend_any rb db rest e w2 hRd)
  have HS2 := Lib.hid (HS1.out.then hs2 (fun k hk => by simp at hk; exact .inr (by omega)))
  have HO := Lib.hid hown
  clear hRd hs2 hown HG HS1
  obtain ⟨E, hE⟩ : ∃ E, endR rest e = E := ⟨_, rfl⟩
  rw [hE] at HE HR
  clear hE
  go_wp2_with fail
  refine HE.out.mono ?_
  rintro en w3 ⟨rfl, rfl⟩
  by_cases hE : E ≠ 0
  · have p1 : (E == 0) = false := by simpa using hE
    have hv := Lib.hid ((if_pos hE).symm.trans HR.out)
    clear HR
    go_wp2_with fail
    go_ret2
    rw [← hv.out]
    exact ⟨rfl, HS2.out⟩
  have HR2 := Lib.hid ((if_neg hE).symm.trans HR.out)
  replace hE : E = 0 := Decidable.not_not.1 hE
  subst hE
  clear HR
  obtain ⟨g, cg, rfl, hol, hm, hnc, hints, hnil, -⟩ := owns_ints HO.out
  have HM := Lib.hid (members_any g cg out w2 hints (by omega))
  have HI := Lib.hid hints
  have HNC := Lib.hid hnc
  have HCl := Lib.hid (clip_any g out.length cg w2 hnc)
  clear hints hnil hnc hm hol
  obtain ⟨G, hG⟩ : ∃ G, goodM out = G := ⟨_, rfl⟩
  rw [hG] at HM HR2
  clear hG
  cases G with
  | false =>
    have hv := Lib.hid ((if_neg (by decide)).symm.trans HR2.out)
    clear HR2
    go_wp2_with fail
    refine HM.out.mono ?_
    rintro en w4 ⟨rfl, rfl⟩
    go_wp2_with fail
    go_ret2
    rw [← hv.out]
    exact ⟨rfl, HS2.out⟩
  | true =>
    have hv := Lib.hid ((if_pos rfl).symm.trans HR2.out)
    clear HR2
    go_wp2_with fail
    refine HM.out.mono ?_
    rintro en w4 ⟨rfl, rfl⟩
    go_wp2_with fail
    refine HCl.out.mono ?_
    rintro en w5 ⟨rfl, rfl⟩
    go_wp2_with fail
    go_ret2
    rw [← hv.out]
    exact ⟨⟨g, rfl, HI.out⟩, HS2.out⟩
end Go.Proofs.Ytdfkagpnfgmbeaa
