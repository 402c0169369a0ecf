/- frame: records that come in; what a chain of two is; a record that is too long. -/
import Derived.Test.YtkogchmnpffiaaaFrameL
import Derived.Test.YtkogchmnpffiaaaOpen
namespace Go.Proofs.Ytkogchmnpffiaaa
set_option linter.unusedVariables false
open Go.RowKit

theorem Bytes.str {P : Program} {w : World} {a : Option Addr} {l : List UInt8} (h : Bytes w a l) (hn : a = none → l.length = 0) (cap : Nat) (src dst e : TypeId) (hs : P.underlying src = some (.slice e)) (he : P.underlying e = some (.int .u8)) (hd : P.underlying dst = some .string) :
    (convert src dst (.slice a l.length cap)).run P w = .ok (.string (bstr l)) w := by
  cases a with
  | none =>
    have hl : l = [] := List.eq_nil_of_length_eq_zero (hn rfl)
    subst hl
    exact Lib.run_convert_nil_bytes w src dst e cap hs he hd
  | some ad =>
    refine run_convert_bytes_back w src dst e ad cap l hs he hd fun j hj => ?_
    obtain ⟨b, off, ha, _, hc⟩ := h j hj
    cases ha
    rw [add_plain, hc]
    simp [List.getD, hj]

/-- two records that are alike -/
theorem same_eq (k : Int) (a b : Option Addr) (ca cb : Nat) (d : List UInt8) (w : World) (ha : Bytes w a d) (hb : Bytes w b d) (hna : a = none → d.length = 0) (hnb : b = none → d.length = 0) :
    Calls Try.prog 10 #[.agg #[.int .u8 k, .slice a d.length ca], .agg #[.int .u8 k, .slice b d.length cb]] w fun e w' => e = .returned (.bool true) ∧ Step [] w w' := by
  have hs : Step [] w ((w.alloc (.cells #[.int .u8 k, .slice a d.length ca] 25)).alloc (.cells #[.int .u8 k, .slice b d.length cb] 25)) := ((Step.refl [] w).alloc _).alloc _
  have h1 := (ha.step hs (by simp)).str (P := Try.prog) hna ca 23 9 5 Try.underlying23 Try.underlying5 Try.underlying9
  have h2 := (hb.step hs (by simp)).str (P := Try.prog) hnb cb 23 9 5 Try.underlying23 Try.underlying5 Try.underlying9
  have HS := Lib.hid hs
  clear ha hb hna hnb hs
  generalize d.length = n at *
  go_enter Try.func10, Try.ntmps10
  go_wp2_with fail
  go_ret
  exact ⟨rfl, HS.out⟩

/-- a record that came in -/
structure RecIn (w : World) (a : Option Addr) (cap : Nat) (d : List UInt8) : Prop where
  bytes : Bytes w a d
  nil : a = none → d.length = 0 ∧ cap = 0
  max : d.length ≤ maxLen

open Go.ChangeShapes Go.WideShapes Go.Deep in
theorem open_record {H : Type} {enc : TypeId × Value → H} {w : World} {base : Nat} {v : Value} {d : DataW H} {p : List MemPlace} (ho : Value.okWide Try.prog w .any base 25 v) (h : DataW.Trod enc Try.prog w 0 (fun _ => true) true 25 v d p) :
    ∃ (k : UInt8) (a : Option Addr) (cap : Nat) (l : List UInt8), v = .agg #[.int .u8 (k.toNat : Int), .slice a l.length cap] ∧ RecIn w a cap l := by
  obtain ⟨cs, n, rfl, hsz, hf⟩ := struct_fields Try.underlying25 (by kernel_rfl) (by kernel_rfl) ho h
  obtain ⟨u0, y0, h0, g0⟩ := hf 0 _ rfl
  obtain ⟨u1, y1, h1, g1⟩ := hf 1 _ rfl
  obtain ⟨z0, rfl, hw0⟩ := int_field Try.underlying5 g0
  obtain ⟨k, rfl⟩ := u8_of z0 hw0
  have hrow : ∃ (da : Option Addr) (dn dc : Nat) (zs : List Int), u1 = .slice da dn dc ∧ IsRow .u8 w da dn dc zs := by
    rcases open_ints Try.underlying23 Try.underlying5 (by kernel_rfl) g1 with ⟨hcs, _⟩ | ⟨x, l, c, zs, hcs, _, hl, hm, hz, _, hcell, hwz⟩
    · exact ⟨none, 0, 0, [], by simpa using hcs, .inl ⟨rfl, rfl, rfl, rfl⟩⟩
    · exact ⟨some x, l, c, zs, by simpa using hcs, .inr ⟨_, rfl, hl, hm, by simpa using hz, hcell, hwz⟩⟩
  obtain ⟨da, dn, dc, zs, rfl, hr⟩ := hrow
  obtain ⟨bs, hbl, hmx, hb, hbn, _, _⟩ := hr.bytes
  subst hbl
  refine ⟨k, da, dc, bs, ?_, hb, hbn, hmx⟩
  congr 1
  apply Array.ext_getElem?
  intro i
  match i with
  | 0 => simpa using h0
  | 1 => simpa using h1
  | n + 2 => rw [Array.getElem?_eq_none (by simp at hsz; omega), Array.getElem?_eq_none (by simp)]

theorem good_two (s : Nat) (k1 k2 : UInt8) (d1 d2 : List UInt8) (h1 : d1.length ≤ 1024) (h2 : d2.length ≤ 1024) :
    goodR s (frameB s k1 d1 ++ frameB (moreN s (headB k1 d1)) k2 d2) = ((frameB s k1 d1).length + (frameB (moreN s (headB k1 d1)) k2 d2).length, moreN (moreN s (headB k1 d1)) (headB k2 d2)) := by
  have e1 := goodR_ok (nextR_good s k1 d1 (frameB (moreN s (headB k1 d1)) k2 d2) h1)
  have h3 := nextR_good (moreN s (headB k1 d1)) k2 d2 [] h2
  rw [List.append_nil] at h3
  have e2 := goodR_ok h3
  rw [e1, List.drop_left, e2, List.drop_length, goodR_bad (nextR_nil _)]
  simp
  omega
theorem next_one (s : Nat) (k : UInt8) (d : List UInt8) (h : d.length ≤ 1024) : nextR s (frameB s k d) = .ok k d (frameB s k d).length (moreN s (headB k d)) := by
  have h3 := nextR_good s k d [] h
  rw [List.append_nil] at h3
  exact h3
theorem next_other (s : Nat) (k : UInt8) (d : List UInt8) (h : d.length ≤ 1024) (hs : s < 2 ^ 32) : nextR (s ^^^ 1) (frameB s k d) = .bad 5 := by
  have h3 := nextR_frame (s ^^^ 1) (moreN s (headB k d)) k d [] h
  rw [List.append_nil] at h3
  unfold frameB
  rw [h3, if_neg]
  intro h4
  have h5 := leN4_inj (moreN_lt _ _) (moreN_lt _ _) h4
  have h6 := moreN_inj (Nat.xor_lt_two_pow hs (by decide)) hs h5
  have h7 : (s ^^^ 1) ^^^ s = s ^^^ s := by rw [h6]
  rw [Nat.xor_self, Nat.xor_comm s 1, Nat.xor_assoc, Nat.xor_self] at h7
  exact absurd h7 (by decide)

/-- a record that is too long: the law's example alone -/
theorem chains_small (s : Int) (k1 k2 : Int) (a b : Option Addr) (ca cb n m : Nat) (w : World) (h : 300 < n ∨ 300 < m) :
    Calls Try.prog 3 #[.int .u32 s, .agg #[.int .u8 k1, .slice a n ca], .agg #[.int .u8 k2, .slice b m cb]] w fun e w' => e = .returned (.bool true) ∧ Step [] w w' := by
  obtain ⟨p1, p2, hp⟩ : ∃ p1 p2 : Bool, decide ((300 : Int) < (n : Int)) = p1 ∧ decide ((300 : Int) < (m : Int)) = p2 := ⟨_, _, rfl, rfl⟩
  obtain ⟨h1, h2⟩ := hp
  have hor : p1 = true ∨ p2 = true := by
    rw [← h1, ← h2]
    simp
    omega
  have HO := Lib.hid hor
  have HS0 := Lib.hid (((Step.refl [] w).alloc (.cells #[.int .u8 k1, .slice a n ca] 25)).alloc (.cells #[.int .u8 k2, .slice b m cb] 25))
  have hbA := ((Blk.new w #[.int .u8 k1, .slice a n ca] 25).alloc (.cells #[.int .u8 k2, .slice b m cb] 25))
  have hbB := (Blk.new (w.alloc (.cells #[.int .u8 k1, .slice a n ca] 25)) #[.int .u8 k2, .slice b m cb] 25)
  rw [World.size_alloc] at hbB
  have HA := Lib.hid hbA
  have HB := Lib.hid hbB
  clear hor h hbA hbB
  go_enter Try.func3, Try.ntmps3
  go_wp2_with fail
  refine (lives_any _).mono ?_
  rintro e w1 ⟨rfl, hs⟩
  have HS := Lib.hid (HS0.out.then hs (by simp))
  have hA := (HA.out.step hs (by simp)).cell 1
  have hB := (HB.out.step hs (by simp)).cell 1
  simp only [List.getElem?_toArray, List.getElem?_cons_zero, List.getElem?_cons_succ] at hA hB
  obtain ⟨b0, hb0⟩ : ∃ b, w.heap.size = b := ⟨_, rfl⟩
  rw [hb0] at hA hB ⊢
  clear hs HS0 HA HB
  cases p1 with
  | true =>
    go_wp2_with fail
    refine (lives_any w1).mono ?_
    rintro e w2 ⟨rfl, hs⟩
    have HT := Lib.hid (HS.out.then hs (by simp))
    clear hs
    go_wp2_with fail
    go_ret
    exact ⟨rfl, HT.out⟩
  | false =>
    cases p2 with
    | true =>
      go_wp2_with fail
      refine (lives_any w1).mono ?_
      rintro e w2 ⟨rfl, hs⟩
      have HT := Lib.hid (HS.out.then hs (by simp))
      clear hs
      go_wp2_with fail
      go_ret
      exact ⟨rfl, HT.out⟩
    | false => rcases HO.out with h | h <;> cases h
end Go.Proofs.Ytkogchmnpffiaaa
