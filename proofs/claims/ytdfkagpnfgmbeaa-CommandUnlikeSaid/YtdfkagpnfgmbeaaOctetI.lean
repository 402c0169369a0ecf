/- octet: Writer.Int, Text; Reader.Num, Int, Count, Text of ANY bytes: what was there, if nothing is wrong. -/
import Derived.Test.YtdfkagpnfgmbeaaNumQ
import Derived.Test.YtdfkagpnfgmbeaaOctetRaw
import Derived.Lib.ConvBytes
import Derived.Laws.DeepNot64
namespace Go.Proofs.Ytdfkagpnfgmbeaa
set_option linter.unusedVariables false
open Go.RowKit

set_option maxHeartbeats 400000 in
theorem fold_any (x : Int) (w : World) (h : I64 x) :
    Calls Try.prog 57 #[.int .i64 x] w fun e w' => e = .returned (.int .u64 (foldN x : Nat)) ∧ w = w' := by
  go_enter Try.func57, Try.ntmps57
  go_wp2
  go_ret
  exact ⟨ret_int (fold_eq x h), rfl⟩

set_option maxHeartbeats 400000 in
theorem wint_any (base pb : Nat) (v : Value) (bs : List UInt8) (x : Int) (w : World) (hW : Wr w base pb v bs) (hx : I64 x) (hlen : bs.length ≤ 35184372088832) :
    Calls Try.prog 53 #[.pointer (some ⟨pb, 0, none⟩), .int .i64 x] w (Wrote base pb v (bs ++ numB (foldN x)) w) := by
  have HN := Lib.hid (num_any base pb v bs (foldN x) w hW (foldN_lt x hx) hlen)
  have HX := Lib.hid hx
  clear hW hx hlen
  go_enter Try.func53, Try.ntmps53
  go_wp2_with fail
  refine (fold_any _ _ HX.out).mono ?_
  rintro e w1 ⟨rfl, rfl⟩
  go_wp2_with fail
  refine HN.out.mono ?_
  rintro e w1 ⟨rfl, hw⟩
  go_wp2_with fail
  go_end0
  exact ⟨rfl, hw⟩

theorem Step.bytesWorld {F : List Nat} {w w' : World} (h : Step F w w') (e : TypeId) (s : ByteArray) : Step F w (Lib.bytesWorld w' e s) :=
  ⟨h.os, h.tape, h.output, by rw [Lib.bytesWorld_size]; exact Nat.le_succ_of_le h.size, fun k hk hn => (Lib.bytesWorld_at_old w' e s k (Nat.lt_of_lt_of_le hk h.size)).trans (h.block k hk hn)⟩

theorem bytesWorld_bytes (w : World) (e : TypeId) (s : List UInt8) : Bytes (Lib.bytesWorld w e (bstr s)) (some ⟨w.heap.size, 0, none⟩) s := fun i hi => by
  refine ⟨w.heap.size, 0, rfl, by rw [Lib.bytesWorld_size]; omega, ?_⟩
  rw [Nat.zero_add, Lib.bytesWorld_cell w e (bstr s) i (by rw [bstr_size]; exact hi)]
  rfl

set_option maxHeartbeats 1000000 in
theorem wtext_any (base pb : Nat) (v : Value) (bs s : List UInt8) (w : World) (hW : Wr w base pb v bs) (hlen : bs.length + s.length ≤ 17592186044416) :
    Calls Try.prog 52 #[.pointer (some ⟨pb, 0, none⟩), .string (bstr s)] w (Wrote base pb v (bs ++ (numB s.length ++ s)) w) := by
  have HN := Lib.hid (num_any base pb v bs s.length w hW (by unfold M64; omega) (by omega))
  have hz := bstr_size s
  have hnl := numB_len s.length
  have HW := Lib.hid hW
  clear hW
  go_enter Try.func52, Try.ntmps52
  go_wp2_with fail
  refine HN.out.mono ?_
  rintro e w1 ⟨rfl, v1, hW1, hs1, hf1⟩
  have hcv := Lib.run_convert_string_bytes (P := Try.prog) w1 9 23 5 (bstr s) Try.underlying9 Try.underlying23 Try.underlying5
  rw [hz] at hcv
  have hsB : Step [] w1 (Lib.bytesWorld w1 5 (bstr s)) := (Step.refl [] w1).bytesWorld _ _
  have hW2 := hW1.step hsB (by simp) (fun k hk => by simp)
  have HW2 := Lib.hid hW2
  have HB := Lib.hid (bytesWorld_bytes w1 5 s)
  have HS := Lib.hid (hs1.then hsB (fun k hk => by cases hk))
  have HF := Lib.hid hf1
  clear hW1 hs1 hsB hW2 hf1 HN
  go_wp2_with fail
  refine (raw_any base pb v1 _ _ _ s _ HW2.out (fun h => by cases h) HB.out (by simp; omega)).mono ?_
  rintro e w2 ⟨rfl, v2, hW3, hs3, hf3⟩
  go_wp2_with fail
  go_end0
  refine ⟨rfl, v2, by rw [← List.append_assoc]; exact hW3, HS.out.trans hs3 (fun k hk => ?_), fun k hk => ?_⟩
  · rcases List.mem_cons.1 hk with rfl | hk
    · exact .inl List.mem_cons_self
    · exact (HF.out k hk).imp (fun h => List.mem_cons_of_mem _ h) id
  · rcases hf3 k hk with h | h
    · exact HF.out k h
    · exact .inr (Nat.le_trans HS.out.size h)


/-- the signed number that is folded to this one -/
def intOfN (n : Nat) : Int := if n % 2 = 0 then ((n / 2 : Nat) : Int) else -((n / 2 : Nat) : Int) - 1
theorem intOfN_i64 {n : Nat} (h : n < M64) : I64 (intOfN n) := by
  unfold I64 intOfN
  unfold M64 at h
  split <;> omega
theorem foldN_intOfN (n : Nat) : foldN (intOfN n) = n := by
  unfold foldN intOfN
  split <;> split <;> omega

theorem numR_lt (l : List UInt8) (e : Int) : (numR l e).1 < M64 := by
  by_cases he : e = 0
  · subst he
    obtain ⟨⟨x, m, e1⟩, hp⟩ : ∃ p, numR l 0 = p := ⟨_, rfl⟩
    by_cases h1 : e1 = 0
    · subst h1
      rw [hp]
      exact (numR_back hp).2
    · have := numR_err l 0 (by rw [hp]; exact h1)
      rw [this]
      decide
  · unfold numR
    rw [if_neg he]
    show 0 < M64
    decide
theorem readF_rst : ∀ (l : List UInt8) (i acc : Nat), (readF i acc l).2.1.length ≤ l.length := by
  intro l
  induction l with
  | nil => intro i acc; simp [readF]
  | cons b r ih =>
    intro i acc
    unfold readF
    split
    · simp
    · split
      · simp
      · have := ih (i + 1) (acc + b.toNat % 128 * 2 ^ (7 * i))
        simp
        omega
theorem numR_rst (l : List UInt8) (e : Int) : (numR l e).2.1.length ≤ l.length := by
  unfold numR
  split
  · exact readF_rst l 0 0
  · exact Nat.le_refl _
theorem numR_zero {l : List UInt8} {e : Int} (h : (numR l e).2.2 = 0) : e = 0 := by
  unfold numR at h
  split at h
  · assumption
  · exact h

/-- what reading a number leaves -/
def NumRd (rb db : Nat) (l : List UInt8) (e : Int) (w : World) (en : Ending) (w' : World) : Prop :=
  ∃ (x : Nat) (m : List UInt8) (e1 : Int), en = .returned (.int .u64 x) ∧ Left rb db m e1 w w' ∧ m.length ≤ l.length ∧ x < M64 ∧ (e1 = 0 → e = 0 ∧ l = numB x ++ m) ∧ (e1 ≠ 0 → x = 0)
theorem rnum_rel (rb db : Nat) (l : List UInt8) (e : Int) (w : World) (h : Rd w rb db l e) :
    Calls Try.prog 20 #[.pointer (some ⟨rb, 0, none⟩)] w (NumRd rb db l e w) :=
  (rnum_any rb db l e w h).mono fun en w' h => by
    refine ⟨(numR l e).1, (numR l e).2.1, (numR l e).2.2, h.1, h.2, numR_rst l e, numR_lt l e, fun h1 => ?_, fun h1 => numR_err l e h1⟩
    have he := numR_zero h1
    subst he
    refine ⟨rfl, ?_⟩
    obtain ⟨⟨x, m, e1⟩, hp⟩ : ∃ p, numR l 0 = p := ⟨_, rfl⟩
    rw [hp] at h1 ⊢
    simp only at h1
    subst h1
    exact (numR_back hp).1

/-- what reading a signed number leaves -/
def IntRd (rb db : Nat) (l : List UInt8) (e : Int) (w : World) (en : Ending) (w' : World) : Prop :=
  ∃ (x : Int) (m : List UInt8) (e1 : Int), en = .returned (.int .i64 x) ∧ Left rb db m e1 w w' ∧ m.length ≤ l.length ∧ I64 x ∧ (e1 = 0 → e = 0 ∧ l = intB x ++ m)
set_option maxHeartbeats 1000000 in
theorem rint_rel (rb db : Nat) (l : List UInt8) (e : Int) (w : World) (h : Rd w rb db l e) :
    Calls Try.prog 50 #[.pointer (some ⟨rb, 0, none⟩)] w (IntRd rb db l e w) := by
  have HN := Lib.hid (rnum_rel rb db l e w h)
  clear h
  go_enter Try.func50, Try.ntmps50
  go_wp2_with fail
  refine HN.out.mono ?_
  rintro en w1 ⟨n, m, e1, rfl, hL, hlen, hn, h0, -⟩
  have HX := Lib.hid (And.intro hL (And.intro hlen (And.intro hn h0)))
  clear hL hlen hn h0
  go_wp2_with fail
  go_ret
  refine ⟨intOfN n, m, e1, ret_int (unfold_eq n (intOfN n) (intOfN_i64 HX.out.2.2.1) (foldN_intOfN n).symm), HX.out.1, HX.out.2.1, intOfN_i64 HX.out.2.2.1, fun h => ?_⟩
  have := HX.out.2.2.2 h
  refine ⟨this.1, ?_⟩
  unfold intB
  rw [foldN_intOfN]
  exact this.2

/-- what reading a number that is at most so great leaves -/
def CountRd (most : Nat) (rb db : Nat) (l : List UInt8) (e : Int) (w : World) (en : Ending) (w' : World) : Prop :=
  ∃ (n : Nat) (m : List UInt8) (e1 : Int), en = .returned (.int .i64 n) ∧ Left rb db m e1 w w' ∧ m.length ≤ l.length ∧ n ≤ most ∧ (e1 = 0 → e = 0 ∧ l = numB n ++ m) ∧ (e1 ≠ 0 → n = 0)
theorem rcount_rel (rb db : Nat) (most : Nat) (l : List UInt8) (e : Int) (w : World) (hm : most ≤ 1000000) (h : Rd w rb db l e) :
    Calls Try.prog 37 #[.pointer (some ⟨rb, 0, none⟩), .int .i64 (most : Int)] w (CountRd most rb db l e w) :=
  (rcount_any rb db most l e w hm h).mono fun en w' h => by
    have hrs := numR_rst l e
    have her := numR_err l e
    have hz := @numR_zero l e
    have hbk : (numR l e).2.2 = 0 → l = numB (numR l e).1 ++ (numR l e).2.1 := fun h1 => by
      have he := hz h1
      subst he
      obtain ⟨⟨x, m, e1⟩, hp⟩ : ∃ p, numR l 0 = p := ⟨_, rfl⟩
      rw [hp] at h1 ⊢
      simp only at h1
      subst h1
      exact (numR_back hp).1
    obtain ⟨⟨x, m, e1⟩, hp⟩ : ∃ p, numR l e = p := ⟨_, rfl⟩
    rw [hp] at h hrs her hz hbk
    simp only at h hrs her hz hbk
    refine ⟨(countR most (x, m, e1)).1, (countR most (x, m, e1)).2.1, (countR most (x, m, e1)).2.2, h.1, h.2, ?_, ?_, fun h1 => ?_, fun h1 => ?_⟩
    · unfold countR
      split
      · simp only
        split
        · simp
        · exact hrs
      · exact hrs
    · unfold countR
      split
      · exact Nat.zero_le _
      · next hn => exact Nat.le_of_not_lt hn
    · unfold countR at h1 ⊢
      split at h1
      · simp only at h1
        split at h1
        · exact absurd h1 (by decide)
        · next h2 => exact absurd h1 h2
      · next hn =>
        rw [if_neg hn]
        exact ⟨hz h1, hbk h1⟩
    · unfold countR at h1 ⊢
      split
      · rfl
      · next hn =>
        rw [if_neg hn] at h1
        exact her h1

/-- what reading a text leaves -/
def TextRd (most : Nat) (rb db : Nat) (l : List UInt8) (e : Int) (w : World) (en : Ending) (w' : World) : Prop :=
  ∃ (s m : List UInt8) (e1 : Int), en = .returned (.string (bstr s)) ∧ Left rb db m e1 w w' ∧ m.length ≤ l.length ∧ s.length ≤ most ∧ (e1 = 0 → e = 0 ∧ l = txtB s ++ m)
set_option maxRecDepth 20000 in
set_option maxHeartbeats 1000000 in
theorem rtext_rel (rb db : Nat) (most : Nat) (l : List UInt8) (e : Int) (w : World) (hm : most ≤ 1000000) (h : Rd w rb db l e) :
    Calls Try.prog 55 #[.pointer (some ⟨rb, 0, none⟩), .int .i64 (most : Int)] w (TextRd most rb db l e w) := by
  have HN := Lib.hid (rcount_rel rb db most l e w hm h)
  clear h
  go_enter Try.func55, Try.ntmps55
  go_wp2_with fail
  refine HN.out.mono ?_
  rintro en w1 ⟨n, m, e1, rfl, hL, hlen, hn, h0, h00⟩
  have HL := Lib.hid hL
  have HE := Lib.hid (rerr_any rb db _ _ w1 hL.1)
  have HX := Lib.hid (And.intro hlen (And.intro hn h0))
  clear hlen hn h0 h00 HN
  by_cases he : ¬ e1 = 0
  · have p0 : (e1 == 0) = false := by simpa using he
    have p1 : (e1 != 0) = true := by simpa using he
    have HNE := Lib.hid he
    clear he hL
    go_wp2_with fail
    refine HE.out.mono ?_
    rintro en w2 ⟨rfl, rfl⟩
    go_wp2_with fail
    refine HE.out.mono ?_
    rintro en w2 ⟨rfl, rfl⟩
    go_wp2_with fail
    go_ret
    exact ⟨[], m, e1, rfl, HL.out, HX.out.1, Nat.zero_le _, fun h => absurd h HNE.out⟩
  replace he : e1 = 0 := Decidable.not_not.1 he
  subst he
  by_cases hlt : m.length < n
  · obtain ⟨a, cap, hb, hsl, hd, hne⟩ := hL.1
    have hc0 : w1.cell? ⟨rb, 0, none⟩ = some (.slice a m.length cap) := (hb.cell 0).trans rfl
    have HF := Lib.hid (rfail_any rb db _ _ 4 w1 hL.1)
    rw [if_pos rfl, if_pos rfl] at HF
    have hlt2 : ¬ (n : Int) ≤ (m.length : Int) := by omega
    have hlt3 : decide ((m.length : Int) < (n : Int)) = true := by simpa using hlt
    clear hb hsl hd hne hL
    generalize m.length = L at hc0 hlt hlt2 hlt3
    go_wp2_with fail
    refine HE.out.mono ?_
    rintro en w2 ⟨rfl, rfl⟩
    go_wp2_with fail
    refine HF.out.mono ?_
    rintro en w2 ⟨rfl, hL2⟩
    have HL2 := Lib.hid (HL.out.trans hL2)
    have HE2 := Lib.hid (rerr_any rb db _ _ w2 hL2.1)
    clear hL2 HF hc0
    go_wp2_with fail
    refine HE2.out.mono ?_
    rintro en w3 ⟨rfl, rfl⟩
    go_wp2_with fail
    go_ret
    exact ⟨[], [], 4, rfl, HL2.out, Nat.zero_le _, Nat.zero_le _, fun h => absurd h (by decide)⟩
  · obtain ⟨a, cap, hb, hsl, hd, hne⟩ := hL.1
    have hf0 := hb.free 0
    have hc0 : w1.cell? ⟨rb, 0, none⟩ = some (.slice a m.length cap) := (hb.cell 0).trans rfl
    have hle : n ≤ m.length := by omega
    obtain ⟨a', hcut, hsl', hbk⟩ := hsl.cutLow (P := Try.prog) 23 5 Try.underlying23 Try.sizeB n hle
    obtain ⟨hhigh, hsl2⟩ := hsl.cutHigh (P := Try.prog) 23 5 Try.underlying23 Try.sizeB n hle
    have hLn : (m.take n).length = n := by rw [List.length_take]; omega
    have hconv : (convert 23 9 (.slice a (m.take n).length cap)).run Try.prog w1 = .ok (.string (bstr (m.take n))) w1 := hsl2.str (P := Try.prog) 23 9 5 Try.underlying23 Try.underlying5 Try.underlying9
    rw [hLn] at hconv hhigh
    obtain ⟨D, hD⟩ : ∃ D, m.drop n = D := ⟨_, rfl⟩
    obtain ⟨S, hS⟩ : ∃ S, m.take n = S := ⟨_, rfl⟩
    have hmd : m = S ++ D := by rw [← hS, ← hD, List.take_append_drop]
    rw [hD] at hcut hsl'
    rw [hS] at hLn hconv
    obtain ⟨DL, hDL⟩ : ∃ DL, D.length = DL := ⟨_, rfl⟩
    rw [hDL] at hcut
    have HB := Lib.hid hb
    have HS := Lib.hid hsl'
    have HD := Lib.hid hd
    have HK := Lib.hid hbk
    have HM := Lib.hid (And.intro hmd (And.intro hLn hDL))
    have hLs : (n : Int) ≤ (m.length : Int) := by omega
    have HNE := Lib.hid hne
    clear hb hsl hsl' hsl2 hd hbk hL hlt hle hmd hS hD hDL hLn hne
    generalize m.length = L at hc0 hcut hhigh hLs
    go_wp2_with fail
    refine HE.out.mono ?_
    rintro en w2 ⟨rfl, rfl⟩
    go_wp2_with fail
    refine HE.out.mono ?_
    rintro en w2 ⟨rfl, rfl⟩
    go_wp2_with fail
    go_ret
    have hl := HX.out
    refine ⟨S, D, 0, rfl, HL.out.trans ⟨⟨a', cap - n, ?_, HS.out.step ((Step.refl [rb] _).setCell (.inl (by simp)) _ _) (fun b hb => by rw [HD.out b (by rw [← HK.out]; exact hb)]; simpa using HNE.out), fun b hb => HD.out b (by rw [← HK.out]; exact hb), HNE.out⟩, (Step.refl _ _).setCell (.inl (by simp)) _ _⟩, ?_, ?_, fun h => ⟨(hl.2.2 trivial).1, ?_⟩⟩
    · rw [HM.out.2.2]
      exact HB.out.set 0 _
    · have h1 := congrArg List.length HM.out.1
      rw [List.length_append] at h1
      have := hl.1
      omega
    · rw [HM.out.2.1]; exact hl.2.1
    · rw [(hl.2.2 trivial).2, HM.out.1]
      unfold txtB
      rw [HM.out.2.1, List.append_assoc]
end Go.Proofs.Ytdfkagpnfgmbeaa
