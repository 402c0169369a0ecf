/- disk: Write out of range; settle. -/
import Derived.Test.YtjemdcdcjohjpaaDiskB
import Derived.Deep.RegionHeld
namespace Go.Proofs.Ytjemdcdcjohjpaa
set_option linter.unusedVariables false
open Go.RowKit
attribute [local go_sem ↓] Go.wp_at_zero Go.wp_at_succ exec_load_w
attribute [local go_sem] Try.load_w row_drew

theorem write_bad (base db : Nat) (lv wv : Value) (S : List (List UInt8)) (W : List (Nat × List UInt8)) (x : Int) (a : Option Addr) (n cap : Nat) (w : World) (h : Dsk w base db lv wv S W false) (hx : x < 0 ∨ (S.length : Int) ≤ x) :
    Calls Try.prog 9 #[.pointer (some ⟨db, 0, none⟩), .int .i64 x, .slice a n cap] w fun e w' => e = .returned (.int .i64 3) ∧ w = w' := by
  have HDn := Lib.hid (down_any base db lv wv S W false w h)
  obtain ⟨lb, lcap, hlv, -⟩ := owns_form h.own1 h.some1
  subst hlv
  have c0 : w.cell? ⟨db, 0, none⟩ = some (.slice (some ⟨lb, 0, none⟩) S.length lcap) := h.blk.cell 0
  clear h
  by_cases h0 : x < 0
  · have p1 : decide (x < 0) = true := by simpa using h0
    go_enter Try.func9, Try.ntmps9
    go_wp2_with fail
    refine HDn.out.mono ?_
    rintro e w1 ⟨rfl, rfl⟩
    go_wp2_with fail
    go_ret
    exact ⟨rfl, rfl⟩
  · have p1 : decide (x < 0) = false := by simpa using h0
    have p2 : decide ((S.length : Int) ≤ x) = true := by simp; omega
    go_enter Try.func9, Try.ntmps9
    go_wp2_with fail
    refine HDn.out.mono ?_
    rintro e w1 ⟨rfl, rfl⟩
    go_wp2_with fail
    go_ret
    exact ⟨rfl, rfl⟩

/-- cells written over a list's -/
def setL : List Value → Nat → List Value → List Value
  | xs, _, [] => xs
  | xs, o, v :: r => setL (xs.set o v) (o + 1) r
theorem setL_mid : ∀ (vs A B C : List Value), B.length = vs.length → setL (A ++ B ++ C) A.length vs = A ++ vs ++ C
  | [], A, B, C, h => by
    have : B = [] := List.eq_nil_of_length_eq_zero h
    subst this
    rfl
  | v :: r, A, [], C, h => by simp at h
  | v :: r, A, b :: B, C, h => by
    have h1 : (A ++ (b :: B) ++ C).set A.length v = (A ++ [v]) ++ B ++ C := by
      simp
    have h2 := setL_mid r (A ++ [v]) B C (by simpa using h)
    unfold setL
    rw [h1]
    simp only [List.length_append, List.length_cons, List.length_nil, Nat.zero_add] at h2
    rw [h2]
    simp
theorem owns_setCells {base e size g n cap : Nat} : ∀ (vs : List Value) (o : Nat) (w : World) (xs : List Value), w.ownsRow base e size (.slice (some ⟨g, 0, none⟩) n cap) n xs → (w.setCells g o vs).ownsRow base e size (.slice (some ⟨g, 0, none⟩) n cap) n (setL xs o vs)
  | [], o, w, xs, h => h
  | v :: r, o, w, xs, h => owns_setCells r (o + 1) (w.setCell ⟨g, o, none⟩ v) (xs.set o v) (World.ownsRow.stored h o v).1
theorem flatS_cut (S : List (List UInt8)) (k : Nat) (hk : k < S.length) : flatS S = flatS (S.take k) ++ secB (S[k]) ++ flatS (S.drop (k + 1)) := by
  conv => lhs; rw [← List.take_append_drop k S, List.drop_eq_getElem_cons hk]
  simp only [flatS, List.flatMap_append, List.flatMap_cons, List.append_assoc]
theorem flatS_set (S : List (List UInt8)) (k : Nat) (b : List UInt8) (hk : k < S.length) (hS : ∀ s ∈ S, s.length = 64) (hb : b.length = 64) : setL (flatS S) (k * 64) (secB b) = flatS (S.set k b) := by
  have h1 := flatS_cut (S.set k b) k (by simpa using hk)
  rw [List.getElem_set_self, List.drop_set_of_lt (by omega), List.take_set_of_le (Nat.le_refl _)] at h1
  have hl : (flatS (S.take k)).length = k * 64 := by
    rw [flatS_len _ (fun s h => hS s (List.mem_of_mem_take h)), List.length_take]
    congr 1
    omega
  rw [h1, flatS_cut S k hk, ← hl]
  exact setL_mid _ _ _ _ (by simp [secB, hb, hS _ (List.getElem_mem hk)])
theorem flatW_get (W : List (Nat × List UInt8)) (k j : Nat) (x : Nat × List UInt8) (hx : W[k]? = some x) (hW : ∀ y ∈ W, y.2.length = 64) (hj : j < 65) : (flatW W)[k * 65 + j]? = (waitB x)[j]? := by
  have hk : k < W.length := by
    rcases Nat.lt_or_ge k W.length with h | h
    · exact h
    · rw [List.getElem?_eq_none h] at hx
      cases hx
  have hxe : W[k] = x := by
    rw [List.getElem?_eq_getElem hk] at hx
    exact Option.some.inj hx
  have he : flatW W = flatW (W.take k) ++ (waitB x ++ flatW (W.drop (k + 1))) := by
    conv => lhs; rw [← List.take_append_drop k W, List.drop_eq_getElem_cons hk, hxe]
    simp only [flatW, List.flatMap_append, List.flatMap_cons]
  have hl : (flatW (W.take k)).length = k * 65 := by
    rw [flatW_len _ (fun s h => hW s (List.mem_of_mem_take h)), List.length_take]
    congr 1
    omega
  have hwl : (waitB x).length = 65 := by
    simp [waitB, secB, hW x (List.mem_of_getElem? hx)]
  rw [he, List.getElem?_append_right (by omega), hl, Nat.add_sub_cancel_left, List.getElem?_append_left (by omega)]

/-- a writing out of the row of those that wait -/
theorem row_of_wait {w : World} {base wb cap : Nat} {W : List (Nat × List UInt8)} (h : w.ownsRow base 57 65 (.slice (some ⟨wb, 0, none⟩) W.length cap) W.length (flatW W)) (hW : ∀ y ∈ W, y.2.length = 64) (k : Nat) (x : Nat × List UInt8) (hx : W[k]? = some x) : rowC w wb (k * 65) 65 = some (waitB x) := by
  have hk : k < W.length := by
    rcases Nat.lt_or_ge k W.length with h | h
    · exact h
    · rw [List.getElem?_eq_none h] at hx
      cases hx
  have hwl : (waitB x).length = 65 := by
    simp [waitB, secB, hW x (List.mem_of_getElem? hx)]
  have := row_of_range w wb (waitB x) (k * 65) (fun j v hv => by
    have hj : j < 65 := by
      rcases Nat.lt_or_ge j 65 with h | h
      · exact h
      · rw [List.getElem?_eq_none (by omega)] at hv
        cases hv
    rw [World.ownsRow.cellAt h (k * 65 + j) (by omega), flatW_get W k j x hx hW hj]
    exact hv)
  rwa [hwl] at this

/-- the sectors, so many of those that wait settled -/
def setl (kp : Nat → Bool) (W : List (Nat × List UInt8)) (S : List (List UInt8)) : Nat → List (List UInt8)
  | 0 => S
  | k + 1 => match W[k]? with
    | some x => if kp k then (setl kp W S k).set x.1 x.2 else setl kp W S k
    | none => setl kp W S k
theorem setl_next (kp : Nat → Bool) (W : List (Nat × List UInt8)) (S : List (List UInt8)) (k : Nat) (x : Nat × List UInt8) (hx : W[k]? = some x) : setl kp W S (k + 1) = if kp k then (setl kp W S k).set x.1 x.2 else setl kp W S k := by
  conv => lhs; unfold setl
  rw [hx]
theorem setl_len (kp : Nat → Bool) (W : List (Nat × List UInt8)) (S : List (List UInt8)) (k : Nat) : (setl kp W S k).length = S.length := by
  induction k with
  | zero => rfl
  | succ k ih =>
    unfold setl
    split
    · split
      · simpa using ih
      · exact ih
    · exact ih

/-- a sector changed -/
theorem Dsk.put {w : World} {base db lb lcap : Nat} {wv : Value} {S : List (List UInt8)} {W : List (Nat × List UInt8)} {d : Bool} (h : Dsk w base db (.slice (some ⟨lb, 0, none⟩) S.length lcap) wv S W d) {x : Nat × List UInt8} (hx : x ∈ W) :
    Dsk (w.setCells lb (x.1 * 64) (secB x.2)) base db (.slice (some ⟨lb, 0, none⟩) S.length lcap) wv (S.set x.1 x.2) W d ∧ Step (footD db (.slice (some ⟨lb, 0, none⟩) S.length lcap) wv) w (w.setCells lb (x.1 * 64) (secB x.2)) := by
  have hlb : lb ∈ foot (.slice (some ⟨lb, 0, none⟩) S.length lcap) := by simp [foot, Value.ownBlock]
  have hst : Step [lb] w (w.setCells lb (x.1 * 64) (secB x.2)) := (Step.refl [lb] w).setCells (.inl (by simp)) _ _
  obtain ⟨hx1, hx2⟩ := h.len2 x hx
  refine ⟨⟨h.blk.step hst (fun hk => by simp at hk; subst hk; exact h.ap1 hlb), ?_, owns_step h.own2 hst (fun k hk hm => by simp at hm; subst hm; exact h.ap3 _ hlb hk), ?_, by simpa using h.len2, h.low, h.ap1, h.ap2, h.ap3, by simpa using h.some1, by simpa using h.few, h.few2⟩, hst.mono (fun k hk => by simp at hk; subst hk; simp [footD, hlb])⟩
  · rw [List.length_set, ← flatS_set S x.1 x.2 hx1 h.len1 hx2]
    exact owns_setCells _ _ _ _ h.own1
  · intro s hs
    rcases List.mem_or_eq_of_mem_set hs with h1 | rfl
    · exact h.len1 s h1
    · exact hx2

set_option maxRecDepth 20000 in
set_option maxHeartbeats 1000000 in
theorem settle_any (base db : Nat) (lv wv : Value) (S : List (List UInt8)) (W : List (Nat × List UInt8)) (d : Bool) (w : World) (h : Dsk w base db lv wv S W d) (f : FuncId) (caps : Array Value) (kp : Nat → Bool) (eg : ∀ args w, (callFunc f args).run Try.prog w = .ok (.enter f args) w)
    (hk : ∀ (i : Nat) (w' : World), i < W.length → Step (footD db lv wv) w w' → Calls Try.prog f (#[.int .i64 (i : Int)] ++ caps) w' fun e w'' => e = .returned (.bool (kp i)) ∧ w' = w'') :
    Calls Try.prog 21 #[.pointer (some ⟨db, 0, none⟩), .func (.func f) #[] caps] w fun e w' => e = .returned (.tuple #[]) ∧ Dsk w' base db lv (.slice none 0 0) (setl kp W S W.length) [] d ∧ Step (footD db lv wv) w w' := by
  obtain ⟨lb, lcap, hlv, -⟩ := owns_form h.own1 h.some1
  subst hlv
  obtain ⟨ao, wcap, hwv, hao⟩ : ∃ ao wcap, wv = .slice ao W.length wcap ∧ (0 < W.length → ∃ wb, ao = some ⟨wb, 0, none⟩) := by
    rcases h.own2.2 with ⟨e1, e2⟩ | ⟨g, c, cur, e1, -⟩
    · exact ⟨none, 0, by rw [e1, e2], fun hp => by omega⟩
    · exact ⟨_, c, e1, fun _ => ⟨g, rfl⟩⟩
  subst hwv
  have HAO := Lib.hid hao
  clear hao
  have c1 : w.cell? ⟨db, 1, none⟩ = some (.slice ao W.length wcap) := h.blk.cell 1
  obtain ⟨j0, hj0, hjz, hj1, hj2⟩ := info_parts Try.infoW
  have hzv : ∀ W, (zeroValue 57).run Try.prog W = .ok (.agg C0) W := fun W => by
    simp [zeroValue, typeInfo, hj0, hjz, C0]
  have hC0 : ¬ C0 = #[] := by decide
  clear hj0 hjz hj1 hj2
  have HD := Lib.hid h
  have HK := Lib.hid hk
  have hfew2 := h.few2
  clear h hk
  obtain ⟨n, hn⟩ : ∃ n, W.length = n := ⟨_, rfl⟩
  have HN := Lib.hid hn
  rw [hn] at c1
  clear hn
  go_enter Try.func21, Try.ntmps21
  go_wp2_with fail
  go_loopw [11] (fun j wr => ∃ k : Nat, k ≤ n ∧ j = .int .i64 k ∧ Dsk wr base db (.slice (some ⟨lb, 0, none⟩) S.length lcap) (.slice ao W.length wcap) (setl kp W S k) W d ∧ Step (footD db (.slice (some ⟨lb, 0, none⟩) S.length lcap) (.slice ao W.length wcap)) w wr) (fun j _ => n - (intOf j).toNat)
  case atStart => exact ⟨0, Nat.zero_le _, rfl, HD.out, Step.refl _ _⟩
  case round =>
    obtain ⟨k, hkn, rfl, hD, hS⟩ := hrel
    have HDR := Lib.hid hD
    have HSR := Lib.hid hS
    clear hD hS
    by_cases hk : k < n
    · have hkW : k < W.length := by have := HN.out; omega
      obtain ⟨wb, hwb⟩ := HAO.out (by omega)
      subst hwb
      obtain ⟨x, hx⟩ : ∃ x, W[k]? = some x := ⟨_, List.getElem?_eq_getElem hkW⟩
      have hxm : x ∈ W := List.mem_of_getElem? hx
      obtain ⟨hx1, hx2⟩ := HD.out.len2 x hxm
      obtain ⟨C, hC⟩ : ∃ C : Array Value, C.toList = waitB x := ⟨(waitB x).toArray, by simp⟩
      have hr : rowC wr wb (k * 65) 65 = some C.toList := by rw [hC]; exact row_of_wait HDR.out.own2 (fun y hy => (HD.out.len2 y hy).2) k x hx
      have hCs : C.size = 65 := by
        rw [← Array.length_toList, hC]
        simp [waitB, secB, hx2]
      have hCo : ∀ v ∈ C.toList, v.oneCell' = true := by
        rw [hC]
        intro v hv
        rcases List.mem_cons.1 hv with rfl | hv
        · rfl
        · exact byteVals_cell _ v hv
      obtain ⟨W1, hst1, hblk1, hs1⟩ := store_whole (P := Try.prog) wr C0 C 57 (by rw [hCs]; rfl) hCo
      have HBk1 := Lib.hid hblk1
      have HS1 := Lib.hid hs1
      have HC := Lib.hid hC
      have HX := Lib.hid hx
      have HX1 := Lib.hid hx1
      have HX2 := Lib.hid hx2
      have HCo := Lib.hid hCo
      clear hblk1 hs1 hC hx hx1 hx2 hCo
      have hD1 := HDR.out.step HS1.out (by simp)
      have c0 : W1.cell? ⟨db, 0, none⟩ = some (.slice (some ⟨lb, 0, none⟩) S.length lcap) := hD1.blk.cell 0
      have hlt1 := hD1.blk.lt
      have HD1 := Lib.hid hD1
      clear hD1
      have hkk : (k : Int) < (n : Int) := by omega
      have hst : Step (footD db (.slice (some ⟨lb, 0, none⟩) S.length lcap) (.slice (some ⟨wb, 0, none⟩) W.length wcap)) w W1 := HSR.out.then HS1.out (by simp)
      have HST := Lib.hid hst
      clear hst
      go_wp2_with fail
      refine (HK.out k W1 hkW HST.out).mono ?_
      rintro e w7 ⟨rfl, rfl⟩
      have d1 : W1.cell? ⟨wr.heap.size, 0, none⟩ = some (.int .i64 (x.1 : Int)) := by
        rw [HBk1.out.cell 0, ← Array.getElem?_toList, HC.out]
        rfl
      cases hkp : kp k with
      | false =>
        have hse : setl kp W S (k + 1) = setl kp W S k := by
          rw [setl_next _ _ _ _ _ HX.out, hkp]
          rfl
        have HSE := Lib.hid hse
        clear hse hkp
        go_wp2_with fail
        go_roundw
        case rel => exact ⟨k + 1, by omega, by go_num, by rw [HSE.out]; exact HD1.out, HST.out⟩
        case measure => simp [intOf]; omega
      | true =>
        have hse : setl kp W S (k + 1) = (setl kp W S k).set x.1 x.2 := by
          rw [setl_next _ _ _ _ _ HX.out, hkp]
          rfl
        have HSE := Lib.hid hse
        clear hse hkp
        have e1 : W1.rangeAt wr.heap.size 1 (secB x.2) := fun j v hv => by
          rw [HBk1.out.cell, ← Array.getElem?_toList, HC.out, Nat.add_comm, waitB, List.getElem?_cons_succ]
          exact hv
        have ho := HD1.out.own1
        rw [setl_len] at ho
        have e2 : W1.there lb (x.1 * 64) 64 := fun j hj => by
          have hx1 := HX1.out
          refine ⟨?_, World.ownsRow.frozenAt ho _⟩
          have hj2 : x.1 * 64 + j < S.length * 64 := by omega
          rw [World.ownsRow.cellAt ho _ hj2, List.getElem?_eq_getElem (by rw [ho.1]; exact hj2)]
          rfl
        clear ho
        have a1 : Try.prog.underlying 55 = some (.array 64 5) := Try.underlying55
        have a2 : (secB x.2).length = 64 := by simp [secB, HX2.out]
        have a3 : (Try.prog.info? 55).map (·.size) = some (secB x.2).length := by rw [a2]; kernel_rfl
        have a4 : ∀ v ∈ secB x.2, v.oneCell' = true := byteVals_cell _
        have hx1 : (x.1 : Int) < (S.length : Int) := by have := HX1.out; omega
        have hx2 : (0 : Int) ≤ (x.1 : Int) := by omega
        have hlb : lb ∈ foot (.slice (some ⟨lb, 0, none⟩) S.length lcap) := by simp [foot, Value.ownBlock]
        have hs9 : Step [lb] W1 (W1.drew.setCells lb (x.1 * 64) (secB x.2)) := (Step.refl [lb] W1).drew.setCells (.inl (by simp)) _ _
        have hne : wr.heap.size ∉ [lb] := by
          intro hm
          simp at hm
          have := owns_live HDR.out.own1 lb hlb
          omega
        have hne2 : db ∉ [lb] := by
          intro hm
          simp at hm
          subst hm
          exact HD1.out.ap1 hlb
        have hlt2 : wr.heap.size < W1.heap.size := HBk1.out.lt
        have HKK := Lib.hid (show (W1.drew.setCells lb (x.1 * 64) (secB x.2)).cell? ⟨db, 0, none⟩ = some (.slice (some ⟨lb, 0, none⟩) S.length lcap) ∧ (W1.drew.setCells lb (x.1 * 64) (secB x.2)).cell? ⟨wr.heap.size, 0, none⟩ = some (.int .i64 (x.1 : Int)) ∧ (W1.drew.setCells lb (x.1 * 64) (secB x.2)).rangeAt wr.heap.size 1 (secB x.2) ∧ (W1.drew.setCells lb (x.1 * 64) (secB x.2)).there lb (x.1 * 64) 64 from
          ⟨(hs9.cell hlt1 hne2).trans c0, (hs9.cell hlt2 hne).trans d1, fun j v hv => (hs9.cell hlt2 hne).trans (e1 j v hv), World.there_setCells ((World.there_drew _ _ _ _).2 e2) _ _ _⟩)
        have HP9 := Lib.hid (Dsk.put (S := setl kp W S k) (by rw [setl_len]; exact HD1.out.step (Step.refl [] W1).drew (by simp)) hxm)
        clear hs9 hne hne2
        go_wp2_with fail
        go_region_held (fun w' => w'.cell? ⟨db, 0, none⟩ = some (.slice (some ⟨lb, 0, none⟩) S.length lcap) ∧ w'.cell? ⟨wr.heap.size, 0, none⟩ = some (.int .i64 (x.1 : Int)) ∧ w'.rangeAt wr.heap.size 1 (secB x.2) ∧ w'.there lb (x.1 * 64) 64) ((first | go_keep_ranges | exact HKK.out)) (fail)
        simp only [List.getElem_toArray, List.getElem_cons_succ, List.getElem_cons_zero]
        clear a1 a2 a3 a4 e1 e2 c0 d1 hr hst1
        go_wp2_with fail
        go_roundw
        case rel =>
          have hq := HP9.out
          rw [setl_len] at hq
          exact ⟨k + 1, by omega, by go_num, by rw [HSE.out]; exact hq.1, HST.out.drew.then hq.2 (fun k hk => .inl hk)⟩
        case measure => simp [intOf]; omega
    · have hke : k = n := by omega
      subst hke
      have f1 := HDR.out.blk.free 1
      have hlt1 := HDR.out.blk.lt
      have hst : Step [db] wr (wr.setCell ⟨db, 1, none⟩ (.slice none 0 0)) := (Step.refl [db] wr).setCell (.inl (by simp)) 1 _
      have HST := Lib.hid hst
      have c9 : wr.cell? ⟨db, 1, none⟩ = some (.slice ao W.length wcap) := HDR.out.blk.cell 1
      clear hst
      go_wp2_with fail
      go_end0
      have hq := HDR.out
      refine ⟨rfl, ⟨hq.blk.set 1 _, ?_, World.ownsRow_nil _ _ _ _, ?_, by simp, hq.low, hq.ap1, by simp [foot, Value.ownBlock], by simp [foot, Value.ownBlock], ?_, ?_, by simp⟩, HSR.out.then HST.out (fun k hk => .inl (by simp at hk; subst hk; simp [footD]))⟩
      · rw [HN.out]
        exact owns_step hq.own1 HST.out (fun k hk hm => by simp at hm; subst hm; exact hq.ap1 hk)
      · rw [HN.out]
        exact hq.len1
      · rw [HN.out]
        exact hq.some1
      · rw [HN.out]
        exact hq.few
end Go.Proofs.Ytjemdcdcjohjpaa
