/- OctetWrites: the law's own walk. -/
import Derived.Test.YtllpcddfnjbeaaaItems
import Derived.Deep.RegionWith
namespace Go.Proofs.Ytllpcddfnjbeaaa
set_option linter.unusedVariables false
open Go.RowKit

theorem and_1 (x : Nat) (h : x < M64) : bits .and .u64 (x : Int) 1 = ((x % 2 : Nat) : Int) := by
  have e1 : (1 : Int) = ((1 : Nat) : Int) := rfl
  unfold M64 at h
  rw [e1, u64_and_nat x 1 h (by decide), Nat.and_one_is_mod]

theorem Rd.blkLt {w : World} {rb db : Nat} {l : List UInt8} {e : Int} (h : Rd w rb db l e) : rb < w.heap.size := by
  obtain ⟨_, _, hb, _⟩ := h
  exact hb.lt
theorem rflag_one (rb db : Nat) (rest : List UInt8) (w : World) (h : Rd w rb db (numB 1 ++ rest) 0) :
    Calls Try.prog 12 #[.pointer (some ⟨rb, 0, none⟩)] w fun en w' => en = .returned (.bool true) ∧ Left rb db rest 0 w w' :=
  rflag_any rb db (numB 1 ++ rest) 0 w h
theorem rflag_zero (rb db : Nat) (rest : List UInt8) (w : World) (h : Rd w rb db (numB 0 ++ rest) 0) :
    Calls Try.prog 12 #[.pointer (some ⟨rb, 0, none⟩)] w fun en w' => en = .returned (.bool false) ∧ Left rb db rest 0 w w' :=
  rflag_any rb db (numB 0 ++ rest) 0 w h

set_option maxRecDepth 100000 in
set_option maxHeartbeats 40000000 in
theorem octetWrites_in (a : Option Addr) (cap : Nat) (l : List ItV) (w : World) (hI : Items w a l) (hX : ∀ q ∈ l, q.x < M64) (hlen : l.length ≤ 40) :
    Calls Try.prog 5 #[.slice a l.length cap] w fun e w' => e = .returned (.bool true) ∧ Below w.heap.size w w' := by
  have HI := Lib.hid hI
  have HX := Lib.hid hX
  clear hI hX
  go_enter Try.func5, Try.ntmps5
  go_wp2_with fail
  refine (lives_any w).mono ?_
  rintro e w1 ⟨rfl, hs⟩
  have HS := Lib.hid hs
  clear hs
  go_wp2_with fail
  have hW0 := Wr.new w1
  have hS0 := HS.out.alloc (.cells #[.slice none 0 0] 27)
  have hb := HS.out.size
  have HW0 := Lib.hid hW0
  have HS0 := Lib.hid hS0
  clear hW0 hS0 HS
  generalize w1.heap.size = pb at *
  generalize w1.alloc (.cells #[.slice none 0 0] 27) = w2 at *
  go_loopw [4, 6, 23, 43, 54, 67] (fun t _ i _ _ _ wr => ∃ (k : Nat) (v : Value) (bs : List UInt8), k ≤ l.length ∧ i = .int .i64 k ∧ t = .string (bstr bs) ∧ Wr wr pb pb v bs ∧ bs = allB (l.take k) ∧ bs.length ≤ 210 * k ∧ (∀ j, j < k → (l.getD j it0).s.length ≤ 200) ∧ Step [] w wr) (fun _ _ i _ _ _ _ => l.length - (intOf i).toNat)
  case atStart => exact ⟨0, _, [], Nat.zero_le _, rfl, rfl, HW0.out, rfl, by simp, fun j hj => by omega, HS0.out⟩
  case round =>
    obtain ⟨k, v, bs, hk, rfl, rfl, hW, hbs, hbl, hsh, hs⟩ := hrel
    have HW := Lib.hid hW
    have HB := Lib.hid hbs
    have HSH := Lib.hid hsh
    have HS := Lib.hid hs
    clear hW hbs hsh hs HW0 HS0
    by_cases hkl : k < l.length
    · obtain ⟨b1, off, rfl, hlt, c0, c1, c2⟩ := HI.out.step HS.out k hkl
      have hkm : (k : Int) < (l.length : Int) := by omega
      have hx : (l.getD k it0).x < M64 := HX.out _ (by rw [List.getD, List.getElem?_eq_getElem hkl]; exact List.getElem_mem hkl)
      have hsn := allB_snoc l k hkl
      have hil := itemB_len (l.getD k it0)
      have hex : ∀ j, j < k + 1 → (l.getD k it0).s.length ≤ 200 → (l.getD j it0).s.length ≤ 200 := fun j hj h2 => by
        by_cases hjk : j < k
        · exact HSH.out j hjk
        · obtain rfl : j = k := by omega
          exact h2
      have HSN := Lib.hid hsn
      have HIL := Lib.hid hil
      have HEX := Lib.hid hex
      clear hsn hil hex
      generalize l.getD k it0 = q at *
      obtain ⟨kind, x, s⟩ := q
      simp only at c0 c1 c2 hx HIL HEX
      have hz := bstr_size s
      by_cases hs2 : s.length ≤ 200
      · have hku := kind.toNat_lt
        have hvb : wr.heap.size ∉ pb :: foot v := fun hk => by
          rcases List.mem_cons.1 hk with e | e
          · have := HW.out.blk.lt; omega
          · have := owns_live HW.out.own _ e; omega
        have HVB := Lib.hid hvb
        clear hvb
        have hr : ((kind.toNat : Int) % 4) = ((kind.toNat % 4 : Nat) : Int) := by simp
        by_cases q0 : kind.toNat % 4 = 0
        · have p0 : ((kind.toNat : Int) % 4 == 0) = true := by simp; omega
          have hB1 : itemB ⟨kind, x, s⟩ = numB x := by unfold itemB; rw [if_pos q0]
          have HB1 := Lib.hid hB1
          clear hB1
          go_wp2_with fail
          refine (num_any pb pb v bs x (wr.alloc (.cells #[.int .u8 (kind.toNat : Int), .int .u64 (x : Int), .string (bstr s)] 42)) (HW.out.step ((Step.refl [] wr).alloc _) (by simp) (fun _ _ => by simp)) hx (by omega)).mono ?_
          rintro e w6 ⟨rfl, v6, hW6, hs6, -⟩
          have hit := (Blk.new wr #[.int .u8 (kind.toNat : Int), .int .u64 (x : Int), .string (bstr s)] 42).step hs6 HVB.out
          have i1 := hit.cell 1
          have i2 := hit.cell 2
          simp only [List.getElem?_toArray, List.getElem?_cons_zero, List.getElem?_cons_succ] at i1 i2
          have HW6 := Lib.hid hW6
          have HS6 := Lib.hid ((HS.out.alloc _).then hs6 (HW.out.new_blocks hb))
          clear hit hW6 hs6
          go_wp2_with fail
          refine (refNum_any x w6 hx).mono ?_
          rintro e w7 ⟨rfl, hs7⟩
          have HW7 := Lib.hid (HW6.out.step hs7 (by simp) (fun _ _ => by simp))
          have HS7 := Lib.hid (HS6.out.then hs7 (fun _ h => by cases h))
          clear hs7 HW6 HS6 i1 i2
          have hq := HIL.out hs2
          rw [HB1.out] at hq
          have hz1 := bstr_size bs
          have hz2 := bstr_size (numB x)
          have hsz : (bstr bs).size + (bstr (numB x)).size ≤ 9223372036854775807 := by
            rw [hz1, hz2]
            omega
          go_wp2_with fail
          go_roundw
          case rel => exact ⟨k + 1, v6, bs ++ (numB x), by omega, by go_num, congrArg Value.string (bstr_app _ _), HW7.out, by rw [HSN.out, HB1.out, HB.out], by rw [List.length_append]; omega, fun j hj => HEX.out j hj hs2, HS7.out⟩
          case measure => simp [intOf]; omega
        · have p0 : ((kind.toNat : Int) % 4 == 0) = false := by simp; omega
          by_cases q1 : kind.toNat % 4 = 1
          · have p1 : ((kind.toNat : Int) % 4 == 1) = true := by simp; omega
            have hB1 : itemB ⟨kind, x, s⟩ = numB (foldN (wrap64 (x : Int))) := by unfold itemB; rw [if_neg (by omega), if_pos q1]
            have HB1 := Lib.hid hB1
            clear hB1
            go_wp2_with fail
            refine (wint_any pb pb v bs (wrap64 (x : Int)) (wr.alloc (.cells #[.int .u8 (kind.toNat : Int), .int .u64 (x : Int), .string (bstr s)] 42)) (HW.out.step ((Step.refl [] wr).alloc _) (by simp) (fun _ _ => by simp)) (i64_wrap _) (by omega)).mono ?_
            rintro e w6 ⟨rfl, v6, hW6, hs6, -⟩
            have hit := (Blk.new wr #[.int .u8 (kind.toNat : Int), .int .u64 (x : Int), .string (bstr s)] 42).step hs6 HVB.out
            have i1 := hit.cell 1
            have i2 := hit.cell 2
            simp only [List.getElem?_toArray, List.getElem?_cons_zero, List.getElem?_cons_succ] at i1 i2
            have HW6 := Lib.hid hW6
            have HS6 := Lib.hid ((HS.out.alloc _).then hs6 (HW.out.new_blocks hb))
            clear hit hW6 hs6
            go_wp2_with fail
            refine (refInt_any (wrap64 (x : Int)) w6 (i64_wrap _)).mono ?_
            rintro e w7 ⟨rfl, hs7⟩
            have HW7 := Lib.hid (HW6.out.step hs7 (by simp) (fun _ _ => by simp))
            have HS7 := Lib.hid (HS6.out.then hs7 (fun _ h => by cases h))
            clear hs7 HW6 HS6 i1 i2
            have hq := HIL.out hs2
            rw [HB1.out] at hq
            have hz1 := bstr_size bs
            have hz2 := bstr_size (numB (foldN (wrap64 (x : Int))))
            have hsz : (bstr bs).size + (bstr (numB (foldN (wrap64 (x : Int))))).size ≤ 9223372036854775807 := by
              rw [hz1, hz2]
              omega
            go_wp2_with fail
            go_roundw
            case rel => exact ⟨k + 1, v6, bs ++ (numB (foldN (wrap64 (x : Int)))), by omega, by go_num, congrArg Value.string (bstr_app _ _), HW7.out, by rw [HSN.out, HB1.out, HB.out], by rw [List.length_append]; omega, fun j hj => HEX.out j hj hs2, HS7.out⟩
            case measure => simp [intOf]; omega
          · have p1 : ((kind.toNat : Int) % 4 == 1) = false := by simp; omega
            by_cases q2 : kind.toNat % 4 = 2
            · have p2 : ((kind.toNat : Int) % 4 == 2) = true := by simp; omega
              have ha := and_1 x hx
              by_cases par : x % 2 = 1
              · rw [par] at ha
                simp only [Int.natCast_one] at ha
                have hB1 : itemB ⟨kind, x, s⟩ = numB 1 := by unfold itemB; rw [if_neg (by omega), if_neg (by omega), if_pos q2]; show numB (x % 2) = _; rw [par]
                have HB1 := Lib.hid hB1
                clear hB1
                go_wp2_with fail
                refine (wflag_any pb pb v bs true (wr.alloc (.cells #[.int .u8 (kind.toNat : Int), .int .u64 (x : Int), .string (bstr s)] 42)) (HW.out.step ((Step.refl [] wr).alloc _) (by simp) (fun _ _ => by simp)) (by omega)).mono ?_
                rintro e w6 ⟨rfl, v6, hW6, hs6, -⟩
                have hit := (Blk.new wr #[.int .u8 (kind.toNat : Int), .int .u64 (x : Int), .string (bstr s)] 42).step hs6 HVB.out
                have i1 := hit.cell 1
                have i2 := hit.cell 2
                simp only [List.getElem?_toArray, List.getElem?_cons_zero, List.getElem?_cons_succ] at i1 i2
                have HW6 := Lib.hid hW6
                have HS6 := Lib.hid ((HS.out.alloc _).then hs6 (HW.out.new_blocks hb))
                clear hit hW6 hs6
                go_wp2_with fail
                refine (refNum_any 1 w6 (by decide)).mono ?_
                rintro e w7 ⟨rfl, hs7⟩
                have HW7 := Lib.hid (HW6.out.step hs7 (by simp) (fun _ _ => by simp))
                have HS7 := Lib.hid (HS6.out.then hs7 (fun _ h => by cases h))
                clear hs7 HW6 HS6 i1 i2
                have hq := HIL.out hs2
                rw [HB1.out] at hq
                have hz1 := bstr_size bs
                have hz2 := bstr_size (numB 1)
                have hsz : (bstr bs).size + (bstr (numB 1)).size ≤ 9223372036854775807 := by
                  rw [hz1, hz2]
                  omega
                go_wp2_with fail
                go_roundw
                case rel => exact ⟨k + 1, v6, bs ++ (numB 1), by omega, by go_num, congrArg Value.string (bstr_app _ _), HW7.out, by rw [HSN.out, HB1.out, HB.out], by rw [List.length_append]; omega, fun j hj => HEX.out j hj hs2, HS7.out⟩
                case measure => simp [intOf]; omega
              · have par : x % 2 = 0 := by omega
                rw [par] at ha
                simp only [Int.natCast_zero] at ha
                have hB1 : itemB ⟨kind, x, s⟩ = numB 0 := by unfold itemB; rw [if_neg (by omega), if_neg (by omega), if_pos q2]; show numB (x % 2) = _; rw [par]
                have HB1 := Lib.hid hB1
                clear hB1
                go_wp2_with fail
                refine (wflag_any pb pb v bs false (wr.alloc (.cells #[.int .u8 (kind.toNat : Int), .int .u64 (x : Int), .string (bstr s)] 42)) (HW.out.step ((Step.refl [] wr).alloc _) (by simp) (fun _ _ => by simp)) (by omega)).mono ?_
                rintro e w6 ⟨rfl, v6, hW6, hs6, -⟩
                have hit := (Blk.new wr #[.int .u8 (kind.toNat : Int), .int .u64 (x : Int), .string (bstr s)] 42).step hs6 HVB.out
                have i1 := hit.cell 1
                have i2 := hit.cell 2
                simp only [List.getElem?_toArray, List.getElem?_cons_zero, List.getElem?_cons_succ] at i1 i2
                have HW6 := Lib.hid hW6
                have HS6 := Lib.hid ((HS.out.alloc _).then hs6 (HW.out.new_blocks hb))
                clear hit hW6 hs6
                go_wp2_with fail
                refine (refNum_any 0 w6 (by decide)).mono ?_
                rintro e w7 ⟨rfl, hs7⟩
                have HW7 := Lib.hid (HW6.out.step hs7 (by simp) (fun _ _ => by simp))
                have HS7 := Lib.hid (HS6.out.then hs7 (fun _ h => by cases h))
                clear hs7 HW6 HS6 i1 i2
                have hq := HIL.out hs2
                rw [HB1.out] at hq
                have hz1 := bstr_size bs
                have hz2 := bstr_size (numB 0)
                have hsz : (bstr bs).size + (bstr (numB 0)).size ≤ 9223372036854775807 := by
                  rw [hz1, hz2]
                  omega
                go_wp2_with fail
                go_roundw
                case rel => exact ⟨k + 1, v6, bs ++ (numB 0), by omega, by go_num, congrArg Value.string (bstr_app _ _), HW7.out, by rw [HSN.out, HB1.out, HB.out], by rw [List.length_append]; omega, fun j hj => HEX.out j hj hs2, HS7.out⟩
                case measure => simp [intOf]; omega
            · have p2 : ((kind.toNat : Int) % 4 == 2) = false := by simp; omega
              have hB1 : itemB ⟨kind, x, s⟩ = numB s.length ++ s := by unfold itemB; rw [if_neg (by omega), if_neg (by omega), if_neg (by omega)]
              have HB1 := Lib.hid hB1
              clear hB1
              clear q0 q1 q2 hr
              go_wp2_with fail
              refine (wtext_any pb pb v bs s (wr.alloc (.cells #[.int .u8 (kind.toNat : Int), .int .u64 (x : Int), .string (bstr s)] 42)) (HW.out.step ((Step.refl [] wr).alloc _) (by simp) (fun _ _ => by simp)) (by omega)).mono ?_
              rintro e w6 ⟨rfl, v6, hW6, hs6, -⟩
              have hit := (Blk.new wr #[.int .u8 (kind.toNat : Int), .int .u64 (x : Int), .string (bstr s)] 42).step hs6 HVB.out
              have i1 := hit.cell 1
              have i2 := hit.cell 2
              simp only [List.getElem?_toArray, List.getElem?_cons_zero, List.getElem?_cons_succ] at i1 i2
              have HW6 := Lib.hid hW6
              have HS6 := Lib.hid ((HS.out.alloc _).then hs6 (HW.out.new_blocks hb))
              clear hit hW6 hs6
              go_wp2_with fail
              refine (refText_any s w6 (by omega)).mono ?_
              rintro e w7 ⟨rfl, hs7⟩
              have HW7 := Lib.hid (HW6.out.step hs7 (by simp) (fun _ _ => by simp))
              have HS7 := Lib.hid (HS6.out.then hs7 (fun _ h => by cases h))
              clear hs7 HW6 HS6 i1 i2
              have hq := HIL.out hs2
              rw [HB1.out] at hq
              have hz1 := bstr_size bs
              have hz2 := bstr_size (numB s.length ++ s)
              have hsz : (bstr bs).size + (bstr (numB s.length ++ s)).size ≤ 9223372036854775807 := by
                rw [hz1, hz2]
                omega
              go_wp2_with fail
              go_roundw
              case rel => exact ⟨k + 1, v6, bs ++ (numB s.length ++ s), by omega, by go_num, congrArg Value.string (bstr_app _ _), HW7.out, by rw [HSN.out, HB1.out, HB.out], by rw [List.length_append]; omega, fun j hj => HEX.out j hj hs2, HS7.out⟩
              case measure => simp [intOf]; omega
      · have hs3 : (200 : Int) < (s.length : Int) := by omega
        go_wp2_with fail
        go_ret
        exact ⟨rfl, (HS.out.alloc _).below'⟩
    · have hke : k = l.length := by omega
      subst hke
      have hbs : bs = allB l := by have := HB.out; rwa [List.take_length] at this
      have HBS := Lib.hid hbs
      have HSH2 := HSH
      clear hbs HB
      go_wp2_with fail
      refine (wbytes_any _ _ _ _ _ HW.out (by omega)).mono ?_
      rintro e w3 hb3
      obtain ⟨a3, cap3, rfl, hsl, -, hst3⟩ := hb3.slb
      have hconv : (convert 25 9 (.slice a3 bs.length cap3)).run Try.prog w3 = .ok (.string (bstr bs)) w3 := hsl.str (P := Try.prog) 25 9 5 Try.underlying25 Try.underlying5 Try.underlying9
      have HW3 := Lib.hid (HW.out.step hst3 (by simp) (fun _ _ => by simp))
      have HS3 := Lib.hid (HS.out.then hst3 (fun _ h => by cases h))
      clear hb3 hsl hst3 HW HS
      go_wp2_with fail
      refine (wbytes_any _ _ _ _ w3 HW3.out (by omega)).mono ?_
      rintro e w4 hb4
      obtain ⟨a4, cap4, rfl, hsl4, -, hst4⟩ := hb4.slb
      have HSL := Lib.hid hsl4
      have HS4 := Lib.hid (HS3.out.then hst4 (fun _ h => by cases h))
      clear hb4 hsl4 hst4 HW3 HS3 hconv
      go_wp2_with fail
      refine (rread_any a4 cap4 bs w4 HSL.out (by omega)).mono ?_
      rintro e w5 ⟨rb, db, rfl, hR, hst5, hrb, hdb⟩
      have HR := Lib.hid hR
      have HS5 := Lib.hid (HS4.out.then hst5 (fun _ h => by cases h))
      have hrw : w.heap.size ≤ rb := Nat.le_trans HS4.out.size hrb
      have hdw : w.heap.size ≤ db := Nat.le_trans HS4.out.size hdb
      clear hR hst5 HSL HS4
      go_wp2_with fail
      go_loopw [9, 10, 92, 104, 111, 119] (fun _ _ i _ _ _ wr => ∃ k : Nat, k ≤ l.length ∧ i = .int .i64 k ∧ Rd wr rb db (allB (l.drop k)) 0 ∧ Step [] w wr) (fun _ _ i _ _ _ _ => l.length - (intOf i).toNat)
      case atStart => exact ⟨0, Nat.zero_le _, rfl, by rw [List.drop_zero, ← HBS.out]; exact HR.out, HS5.out⟩
      case round =>
        obtain ⟨k, hk, rfl, hR, hs⟩ := hrel
        have HS := Lib.hid hs
        clear hs HS5 HR
        by_cases hkl : k < l.length
        · rw [allB_drop l k hkl] at hR
          obtain ⟨b1, off, rfl, hlt, c0, c1, c2⟩ := HI.out.step HS.out k hkl
          have hkm : (k : Int) < (l.length : Int) := by omega
          have hx : (l.getD k it0).x < M64 := HX.out _ (by rw [List.getD, List.getElem?_eq_getElem hkl]; exact List.getElem_mem hkl)
          have hs2 := HSH2.out k hkl
          generalize l.getD k it0 = q at *
          obtain ⟨kind, x, s⟩ := q
          simp only at c0 c1 c2 hx hs2
          have hku := kind.toNat_lt
          have hr : ((kind.toNat : Int) % 4) = ((kind.toNat % 4 : Nat) : Int) := by simp
          have hrlt := hR.blkLt
          have hvr : wr.heap.size ≠ rb := by omega
          have hR6 := hR.step ((Step.refl [] wr).alloc (.cells #[.int .u8 (kind.toNat : Int), .int .u64 (x : Int), .string (bstr s)] 42)) (by simp) (by simp)
          have hR6 := hR6.step (Step.refl [] _).drew (by simp) (by simp)
          have HIT := Lib.hid (Blk.new wr #[.int .u8 (kind.toNat : Int), .int .u64 (x : Int), .string (bstr s)] 42)
          clear hR hrlt
          by_cases q0 : kind.toNat % 4 = 0
          · have p0 : ((kind.toNat : Int) % 4 == 0) = true := by simp; omega
            have hB1 : itemB ⟨kind, x, s⟩ = numB x := by unfold itemB; rw [if_pos q0]
            rw [hB1] at hR6
            clear hB1 q0 hr
            have HC := Lib.hid (rnum_ok rb db x _ _ hx hR6)
            clear hR6
            go_wp2_with fail
            go_region_with (go_at_call 21; refine HC.out.mono ?_; rintro e w7 ⟨rfl, hL⟩; have j1 : w7.cell? ⟨wr.heap.size, 1, none⟩ = some (.int .u64 (x : Int)) := (HIT.out.step ((Step.refl [rb] _).drew.then hL.2 (fun k hk => .inl hk)) (by simpa using hvr)).cell 1)
            all_goals
              have HE := Lib.hid (rerr_any rb db _ _ w7 hL.1)
              have HL := Lib.hid hL.1
              have HS7 := Lib.hid ((HS.out.alloc _).then ((Step.refl [rb] _).drew.then hL.2 (fun k hk => .inl hk)) (fun k hk => by simp at hk; exact .inr (by omega)))
              clear hL HC
              go_wp2_with fail
              refine HE.out.mono ?_
              rintro e w8 ⟨rfl, rfl⟩
              go_wp2_with fail
              go_roundw
              case rel => exact ⟨k + 1, by omega, by go_num, HL.out, HS7.out⟩
              case measure => simp [intOf]; omega
          · have p0 : ((kind.toNat : Int) % 4 == 0) = false := by simp; omega
            by_cases q1 : kind.toNat % 4 = 1
            · have p1 : ((kind.toNat : Int) % 4 == 1) = true := by simp; omega
              have hB1 : itemB ⟨kind, x, s⟩ = numB (foldN (wrap64 (x : Int))) := by unfold itemB; rw [if_neg q0, if_pos q1]
              rw [hB1] at hR6
              clear hB1 q0 q1 hr
              have HC := Lib.hid (rint_ok rb db (wrap64 (x : Int)) _ _ (i64_wrap _) hR6)
              clear hR6
              go_wp2_with fail
              go_region_with (go_at_call 22; refine HC.out.mono ?_; rintro e w7 ⟨rfl, hL⟩; have j1 : w7.cell? ⟨wr.heap.size, 1, none⟩ = some (.int .u64 (x : Int)) := (HIT.out.step ((Step.refl [rb] _).drew.then hL.2 (fun k hk => .inl hk)) (by simpa using hvr)).cell 1)
              all_goals
                have HE := Lib.hid (rerr_any rb db _ _ w7 hL.1)
                have HL := Lib.hid hL.1
                have HS7 := Lib.hid ((HS.out.alloc _).then ((Step.refl [rb] _).drew.then hL.2 (fun k hk => .inl hk)) (fun k hk => by simp at hk; exact .inr (by omega)))
                clear hL HC
                go_wp2_with fail
                refine HE.out.mono ?_
                rintro e w8 ⟨rfl, rfl⟩
                go_wp2_with fail
                go_roundw
                case rel => exact ⟨k + 1, by omega, by go_num, HL.out, HS7.out⟩
                case measure => simp [intOf]; omega
            · have p1 : ((kind.toNat : Int) % 4 == 1) = false := by simp; omega
              by_cases q2 : kind.toNat % 4 = 2
              · have p2 : ((kind.toNat : Int) % 4 == 2) = true := by simp; omega
                have ha := and_1 x hx
                by_cases par : x % 2 = 1
                · rw [par] at ha
                  simp only [Int.natCast_one] at ha
                  have hB1 : itemB ⟨kind, x, s⟩ = numB 1 := by unfold itemB; rw [if_neg q0, if_neg q1, if_pos q2]; show numB (x % 2) = _; rw [par]
                  rw [hB1] at hR6
                  clear hB1 q0 q1 q2 hr
                  have HC := Lib.hid (rflag_one rb db _ _ hR6)
                  clear hR6
                  go_wp2_with fail
                  go_region_with (go_at_call 12; refine HC.out.mono ?_; rintro e w7 ⟨rfl, hL⟩; have j1 : w7.cell? ⟨wr.heap.size, 1, none⟩ = some (.int .u64 (x : Int)) := (HIT.out.step ((Step.refl [rb] _).drew.then hL.2 (fun k hk => .inl hk)) (by simpa using hvr)).cell 1)
                  all_goals
                    have HE := Lib.hid (rerr_any rb db _ _ w7 hL.1)
                    have HL := Lib.hid hL.1
                    have HS7 := Lib.hid ((HS.out.alloc _).then ((Step.refl [rb] _).drew.then hL.2 (fun k hk => .inl hk)) (fun k hk => by simp at hk; exact .inr (by omega)))
                    clear hL HC
                    go_wp2_with fail
                    refine HE.out.mono ?_
                    rintro e w8 ⟨rfl, rfl⟩
                    go_wp2_with fail
                    go_roundw
                    case rel => exact ⟨k + 1, by omega, by go_num, HL.out, HS7.out⟩
                    case measure => simp [intOf]; omega
                · have par : x % 2 = 0 := by omega
                  rw [par] at ha
                  simp only [Int.natCast_zero] at ha
                  have hB1 : itemB ⟨kind, x, s⟩ = numB 0 := by unfold itemB; rw [if_neg q0, if_neg q1, if_pos q2]; show numB (x % 2) = _; rw [par]
                  rw [hB1] at hR6
                  clear hB1 q0 q1 q2 hr
                  have HC := Lib.hid (rflag_zero rb db _ _ hR6)
                  clear hR6
                  go_wp2_with fail
                  go_region_with (go_at_call 12; refine HC.out.mono ?_; rintro e w7 ⟨rfl, hL⟩; have j1 : w7.cell? ⟨wr.heap.size, 1, none⟩ = some (.int .u64 (x : Int)) := (HIT.out.step ((Step.refl [rb] _).drew.then hL.2 (fun k hk => .inl hk)) (by simpa using hvr)).cell 1)
                  all_goals
                    have HE := Lib.hid (rerr_any rb db _ _ w7 hL.1)
                    have HL := Lib.hid hL.1
                    have HS7 := Lib.hid ((HS.out.alloc _).then ((Step.refl [rb] _).drew.then hL.2 (fun k hk => .inl hk)) (fun k hk => by simp at hk; exact .inr (by omega)))
                    clear hL HC
                    go_wp2_with fail
                    refine HE.out.mono ?_
                    rintro e w8 ⟨rfl, rfl⟩
                    go_wp2_with fail
                    go_roundw
                    case rel => exact ⟨k + 1, by omega, by go_num, HL.out, HS7.out⟩
                    case measure => simp [intOf]; omega
              · have p2 : ((kind.toNat : Int) % 4 == 2) = false := by simp; omega
                have hB1 : itemB ⟨kind, x, s⟩ = numB s.length ++ s := by unfold itemB; rw [if_neg q0, if_neg q1, if_neg q2]
                rw [hB1] at hR6
                clear hB1 q0 q1 q2 hr
                have HC := Lib.hid (rtext_ok rb db 200 s _ _ (by omega) (by omega) (by rw [← List.append_assoc]; exact hR6))
                clear hR6
                go_wp2_with fail
                go_region_with (go_at_call 23; refine HC.out.mono ?_; rintro e w7 ⟨rfl, hL⟩; have j1 : w7.cell? ⟨wr.heap.size, 2, none⟩ = some (.string (bstr s)) := (HIT.out.step ((Step.refl [rb] _).drew.then hL.2 (fun k hk => .inl hk)) (by simpa using hvr)).cell 2)
                all_goals
                  have HE := Lib.hid (rerr_any rb db _ _ w7 hL.1)
                  have HL := Lib.hid hL.1
                  have HS7 := Lib.hid ((HS.out.alloc _).then ((Step.refl [rb] _).drew.then hL.2 (fun k hk => .inl hk)) (fun k hk => by simp at hk; exact .inr (by omega)))
                  clear hL HC
                  go_wp2_with fail
                  refine HE.out.mono ?_
                  rintro e w8 ⟨rfl, rfl⟩
                  go_wp2_with fail
                  go_roundw
                  case rel => exact ⟨k + 1, by omega, by go_num, HL.out, HS7.out⟩
                  case measure => simp [intOf]; omega
        · have hke : k = l.length := by omega
          subst hke
          rw [List.drop_length] at hR
          have HE := Lib.hid (rend_any rb db _ _ wr hR)
          have HL := Lib.hid (rleft_any rb db _ _ wr hR)
          rw [show endR (allB []) 0 = 0 from rfl] at HE
          rw [show (if (0 : Int) = 0 then ((allB []).length : Int) else 0) = 0 from rfl] at HL
          clear hR
          go_wp2_with fail
          refine HE.out.mono ?_
          rintro e w6 ⟨rfl, rfl⟩
          go_wp2_with fail
          refine HL.out.mono ?_
          rintro e w6 ⟨rfl, rfl⟩
          go_wp2_with fail
          go_ret
          exact ⟨rfl, HS.out.below'⟩
end Go.Proofs.Ytllpcddfnjbeaaa
