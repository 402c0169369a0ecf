/- NetOrder: the law's walk. -/
import Derived.Test.YtminpglkipnhcaaNetO
namespace Go.Proofs.Ytminpglkipnhcaa
set_option linter.unusedVariables false
open Go.RowKit
attribute [local go_sem ↓] exec_load_m exec_store_m
attribute [local go_sem] Try.load_m row_drew Try.store_m

/-- n messages, the j-th one of term t + j, from 1 to 2 -/
def Row (L : List Ms) (n t : Nat) : Prop := L.length = n ∧ ∀ j, j < n → (L.getD j ms0).tm = ((t + j : Nat) : Int) ∧ (L.getD j ms0).fr = 1 ∧ (L.getD j ms0).too = 2
theorem Row.nil (t : Nat) : Row [] 0 t := ⟨rfl, fun j hj => by omega⟩
theorem Row.snoc {L : List Ms} {n t : Nat} {x : Ms} (h : Row L n t) (hn : n < 64) (h1 : x.fr = 1) (h2 : x.too = 2) (h3 : x.tm = ((t + n : Nat) : Int)) : Row (putL L x) (n + 1) t := by
  rw [putL_of_lt (by rw [h.1]; exact hn)]
  refine ⟨by simp [h.1], fun j hj => ?_⟩
  by_cases hj2 : j < n
  · have e : (L ++ [x]).getD j ms0 = L.getD j ms0 := by simp [List.getD, List.getElem?_append_left, show j < L.length by rw [h.1]; exact hj2]
    rw [e]
    exact h.2 j hj2
  · have hjn : j = n := by omega
    subst hjn
    have e : (L ++ [x]).getD j ms0 = x := by simp [List.getD, ← h.1]
    rw [e]
    exact ⟨h3, h1, h2⟩
theorem Row.first {L : List Ms} {n t : Nat} (h : Row L (n + 1) t) : Row (L.eraseIdx 0) n (t + 1) := by
  obtain ⟨h1, h2⟩ := h
  cases L with
  | nil => simp at h1
  | cons x r =>
    refine ⟨by simpa using h1, fun j hj => ?_⟩
    have := h2 (j + 1) (by omega)
    simp only [List.getD_cons_succ] at this
    rw [List.eraseIdx_zero, List.tail_cons, this.1]
    exact ⟨by congr 1; omega, this.2⟩
theorem Row.last {L : List Ms} {n t : Nat} (h : Row L (n + 1) t) : Row (L.eraseIdx n) n t := by
  obtain ⟨h1, h2⟩ := h
  refine ⟨by rw [List.length_eraseIdx]; simp [h1], fun j hj => ?_⟩
  have e : (L.eraseIdx n).getD j ms0 = L.getD j ms0 := by simp [List.getD, List.getElem?_eraseIdx, hj]
  rw [e]
  exact h2 j (by omega)

set_option maxRecDepth 100000 in
set_option maxHeartbeats 1000000 in
theorem order_any (N : Nat) (back : Bool) (w : World) (hN : N ≤ 255) :
    Calls Try.prog 3 #[.int .u8 (N : Int), .bool back] w fun e w' => e = .returned (.bool true) ∧ Step [] w w' := by
  have hzv := zeroM
  unfold msV at hzv
  have hC0 : ¬ (msC ms0).toArray = #[] := by decide
  have ek : IntKind.i64.wrap ((N : Int) % 65) = ((N % 65 : Nat) : Int) := by rw [IntKind.wrap_i64]; omega
  obtain ⟨k, hk⟩ : ∃ k, N % 65 = k := ⟨_, rfl⟩
  have hk64 : k ≤ 64 := by omega
  have ek2 : (N : Int) % 65 = (k : Int) := by omega
  rw [hk] at ek
  clear hk
  have EK := Lib.hid (And.intro ek ek2)
  clear ek
  go_enter Try.func3, Try.ntmps3
  go_wp2_with fail
  refine (lives_any w).mono ?_
  rintro e w0 ⟨rfl, hs0⟩
  have HS0 := Lib.hid hs0
  clear hs0
  go_wp2_with fail
  refine (new_any w0).mono ?_
  rintro e w1 ⟨nb, mb, rfl, hN, hs⟩
  have H1 := Lib.hid (show NetN w0 nb mb [] w1 _ from ⟨hN, hs⟩)
  clear hN hs
  go_wp2_with fail
  clear ek2
  go_loopw [22] (fun j wr => ∃ (i : Nat) (lv : Value) (L : List Ms), j = .int .i64 i ∧ i ≤ k ∧ NetN w0 nb mb L wr lv ∧ Row L i 0) (fun j _ => k - (intOf j).toNat)
  case atStart => exact ⟨0, _, [], rfl, Nat.zero_le _, H1.out, Row.nil 0⟩
  case round =>
    obtain ⟨i, lv, L, rfl, hik, hNt, hRow⟩ := hrel
    have HNt := Lib.hid hNt
    have HRow := Lib.hid hRow
    clear hNt hRow
    by_cases hi : i < k
    · have p1 : (i : Int) < (k : Int) := by omega
      have e1 : IntKind.u64.wrap (i : Int) = (i : Int) := by rw [IntKind.wrap_u64]; omega
      go_wp2_with fail
      refine (send_yes w0.heap.size nb mb lv L 0 (fun _ => none) (bare 0 1 2 (i : Int) 0 0 0 false) _ [] wr HNt.out.net (bare_ok _ _ _ _ _ _ _ _ _ _) (few_bare _ _ _ _ _ _ _ _) (by rw [HRow.out.1]; omega) rfl rfl (wld_none _)).mono ?_
      rintro e w2 ⟨rfl, hP⟩
      obtain ⟨lv2, x1, h2, -, q1, q2, q3⟩ := HNt.out.send hP
      have H2 := Lib.hid (And.intro h2 (HRow.out.snoc (by omega) q1 q2 (by rw [q3, Nat.zero_add])))
      clear hP h2 q1 q2 q3
      go_wp2_with fail
      go_roundw
      case rel => exact ⟨i + 1, lv2, _, by go_num, by omega, H2.out.1, H2.out.2⟩
      case measure => simp [intOf]; omega
    · have hik2 : i = k := by omega
      subst hik2
      have p1 : ¬ (i : Int) < (i : Int) := by omega
      have HA := Lib.hid (And.intro HNt.out HRow.out)
      clear HNt HRow H1
      go_wp2_with fail
      go_loopw [32] (fun j wr => ∃ (q : Nat) (lv : Value) (L : List Ms), j = .int .i64 q ∧ q ≤ i ∧ NetN w0 nb mb L wr lv ∧ Row L (i - q) (if back then 0 else q)) (fun j _ => i - (intOf j).toNat)
      case atStart => exact ⟨0, lv, L, rfl, Nat.zero_le _, HA.out.1, by simpa using HA.out.2⟩
      case round =>
        obtain ⟨q, lv, L, rfl, hqi, hNt, hRow⟩ := hrel
        have HNt := Lib.hid hNt
        have HRow := Lib.hid hRow
        clear hNt hRow
        by_cases hq : q < i
        · have p1 : (q : Int) < (i : Int) := by omega
          have hlen := HRow.out.1
          obtain ⟨d, hd⟩ : ∃ d, i - q = d + 1 := ⟨i - q - 1, by omega⟩
          have hq1 : i - (q + 1) = d := by omega
          rw [hd] at HRow hlen
          have e1 : IntKind.u64.wrap (q : Int) = (q : Int) := by rw [IntKind.wrap_u64]; omega
          cases back with
          | false =>
            have h0 := HRow.out.2 0 (by omega)
            have HT := Lib.hid (take_free HNt.out 0 (by omega) h0.2.1 h0.2.2)
            obtain ⟨x, hx⟩ : ∃ x, L.getD 0 ms0 = x := ⟨_, rfl⟩
            rw [hx] at HT
            have hxt : x.tm = (q : Int) := by rw [← hx, h0.1]; simp
            have HX := Lib.hid hxt
            clear h0 hlen hx hxt
            go_wp2_with fail
            refine HT.out.mono ?_
            rintro e w5 ⟨rfl, lv5, h5⟩
            have HR5 := Lib.hid (show Row (L.eraseIdx 0) d (q + 1) from by have := HRow.out; exact this.first)
            obtain ⟨bt, bb, bs⟩ := box_m w5 x
            have c3 := (msg_cells bb).2.2.2.1
            rw [HX.out] at c3
            have H5 := Lib.hid (h5.step bs)
            clear h5 bb bs HT
            go_wp2_with fail
            go_roundw
            case rel => exact ⟨q + 1, lv5, _, by go_num, by omega, H5.out, by rw [hq1]; exact HR5.out⟩
            case measure => simp [intOf]; omega
          | true =>
            have h0 := HRow.out.2 d (by omega)
            have HT := Lib.hid (fun (W : World) (hN : NetN w0 nb mb L W lv) => take_free hN d (by omega) h0.2.1 h0.2.2)
            obtain ⟨x, hx⟩ : ∃ x, L.getD d ms0 = x := ⟨_, rfl⟩
            rw [hx] at HT
            have hxt : x.tm = (d : Int) := by rw [← hx, h0.1]; simp
            have HX := Lib.hid hxt
            have HLen := Lib.hid hlen
            have e2 : IntKind.u64.wrap ((i : Int) - 1 - (q : Int)) = (d : Int) := by rw [IntKind.wrap_u64]; omega
            have e3 : IntKind.u64.wrap (d : Int) = (d : Int) := by rw [IntKind.wrap_u64]; omega
            clear h0 hlen hx hxt
            go_wp2_with fail
            refine (len_any w0.heap.size nb mb lv L 0 (fun _ => none) wr HNt.out.net).mono ?_
            rintro e w3 ⟨rfl, hs3⟩
            rw [HLen.out]
            have H3 := Lib.hid (HNt.out.step hs3)
            clear hs3
            have e4 : ((d + 1 : Nat) : Int) - 1 = (d : Int) := by omega
            go_wp2_with fail
            refine (HT.out w3 H3.out).mono ?_
            rintro e w5 ⟨rfl, lv5, h5⟩
            have HR5 := Lib.hid (show Row (L.eraseIdx d) d 0 from by have := HRow.out; exact this.last)
            obtain ⟨bt, bb, bs⟩ := box_m w5 x
            have c3 := (msg_cells bb).2.2.2.1
            rw [HX.out] at c3
            have H5 := Lib.hid (h5.step bs)
            clear h5 bb bs HT
            go_wp2_with fail
            go_roundw
            case rel => exact ⟨q + 1, lv5, _, by go_num, by omega, H5.out, by rw [hq1]; exact HR5.out⟩
            case measure => simp [intOf]; omega
        · have hqe : q = i := by omega
          subst hqe
          have p1 : ¬ (q : Int) < (q : Int) := by omega
          have hL : L = [] := List.eq_nil_of_length_eq_zero (by have := HRow.out.1; omega)
          subst hL
          go_wp2_with fail
          refine (take_empty HNt.out 0).mono ?_
          rintro e w5 ⟨rfl, h5⟩
          obtain ⟨bt, bb, bs⟩ := box_m w5 ms0
          have h6 := h5.step bs
          have HL := Lib.hid (len_any w0.heap.size nb mb lv [] 0 (fun _ => none) _ h6.net)
          have H6 := Lib.hid h6
          clear h5 bb bs h6
          go_wp2_with fail
          refine HL.out.mono ?_
          rintro e w6 ⟨rfl, hs6⟩
          have H7 := Lib.hid (HS0.out.then (H6.out.st.then hs6 (by simp)) (by simp))
          clear hs6
          go_wp2_with fail
          go_ret
          exact ⟨rfl, H7.out⟩
end Go.Proofs.Ytminpglkipnhcaa
