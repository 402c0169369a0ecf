/- Several texts in one: WalSm, WalOr, WalTu. -/
import Derived.Test.YtdmnhkmpfnhmdaaWpF
import Derived.Test.YtdmnhkmpfnhmdaaWpC
import Derived.Test.YtdmnhkmpfnhmdaaWpE
section
namespace Go.Proofs.Ytdmnhkmpfnhmdaa
set_option linter.unusedVariables false
open Go.RowKit

theorem same_eq (k : Int) (a b : Option Addr) (ca cb : Nat) (d : List UInt8) (w : World) (ha : Bytes w a d) (hb : Bytes w b d) (hna : a = none → d.length = 0) (hnb : b = none → d.length = 0) :
    Calls Try.prog 42 #[.agg #[.int .u8 k, .slice a d.length ca], .agg #[.int .u8 k, .slice b d.length cb]] w fun e w' => e = .returned (.bool true) ∧ Step [] w w' := by
  have hs : Step [] w ((w.alloc (.cells #[.int .u8 k, .slice a d.length ca] 34)).alloc (.cells #[.int .u8 k, .slice b d.length cb] 34)) := ((Step.refl [] w).alloc _).alloc _
  have h1 := (ha.step hs (by simp)).str (P := Try.prog) hna ca 32 9 5 Try.underlying32 Try.underlying5 Try.underlying9
  have h2 := (hb.step hs (by simp)).str (P := Try.prog) hnb cb 32 9 5 Try.underlying32 Try.underlying5 Try.underlying9
  have HS := Lib.hid hs
  clear ha hb hna hnb hs
  generalize d.length = n at *
  go_enter Try.func42, Try.ntmps42
  go_wp2_with fail
  go_ret
  exact ⟨rfl, HS.out⟩

theorem getD_pr {gl sl bl : List Rr} (hp : gl.map Rr.pr <+: sl.map Rr.pr ++ bl.map Rr.pr) {i : Nat} (hi : i < gl.length) : (gl.getD i rr0).pr = if i < sl.length then (sl.getD i rr0).pr else (bl.getD (i - sl.length) rr0).pr := by
  obtain ⟨z, hz⟩ := hp
  have h1 : (gl.map Rr.pr ++ z).getD i (0, []) = (gl.getD i rr0).pr := by
    rw [← pr_getD, List.getD_eq_getElem?_getD, List.getD_eq_getElem?_getD, List.getElem?_append_left (by simpa using hi)]
  rw [← h1, hz]
  split
  · next h => rw [← pr_getD, List.getD_eq_getElem?_getD, List.getD_eq_getElem?_getD, List.getElem?_append_left (by simpa using h)]
  · next h => rw [← pr_getD, List.getD_eq_getElem?_getD, List.getD_eq_getElem?_getD, List.getElem?_append_right (by simpa using h), List.length_map]

set_option maxRecDepth 20000 in
set_option maxHeartbeats 1000000 in
theorem begins_any (ga sa ba : Option Addr) (gc sc bc : Nat) (gl sl bl : List Rr) (w : World) (hg : Recs w ga gc gl) (hs : Recs w sa sc sl) (hb : Recs w ba bc bl) (h1 : sl.length ≤ gl.length) (h2 : gl.length ≤ sl.length + bl.length) (hp : gl.map Rr.pr <+: sl.map Rr.pr ++ bl.map Rr.pr) (hfew : gl.length ≤ 1000) (hfew2 : bl.length ≤ 1000) :
    Calls Try.prog 27 #[.slice ga gl.length gc, .slice sa sl.length sc, .slice ba bl.length bc] w fun e w' => e = .returned (.bool true) ∧ Step [] w w' := by
  obtain ⟨NG, hNG⟩ : ∃ NG, gl.length = NG := ⟨_, rfl⟩
  obtain ⟨NS, hNS⟩ : ∃ NS, sl.length = NS := ⟨_, rfl⟩
  obtain ⟨NB, hNB⟩ : ∃ NB, bl.length = NB := ⟨_, rfl⟩
  have HR := Lib.hid (And.intro hg (And.intro hs hb))
  have HP := Lib.hid (fun i (hi : i < gl.length) => getD_pr hp hi)
  rw [hNG, hNS] at HP
  have HL := Lib.hid (And.intro hNG (And.intro hNS hNB))
  rw [hNG, hNS, hNB] at h2
  rw [hNG, hNS] at h1
  rw [hNG] at hfew
  rw [hNB] at hfew2
  rw [hNG, hNS, hNB]
  have e1 : IntKind.i64.wrap ((NS : Int) + (NB : Int)) = (NS : Int) + (NB : Int) := wrap_id _ (by omega) (by omega)
  have p1 : decide ((NG : Int) < (NS : Int)) = false := by simp; omega
  have p2 : decide ((NS : Int) + (NB : Int) < (NG : Int)) = false := by simp; omega
  clear hg hs hb hp hNG hNS hNB
  go_enter Try.func27, Try.ntmps27
  go_wp2_with fail
  go_loopw [26] (fun j wr => ∃ i : Nat, i ≤ NG ∧ j = .int .i64 (i : Int) ∧ Step [] w wr) (fun j _ => NG - (intOf j).toNat)
  case atStart => exact ⟨0, by omega, rfl, Step.refl _ _⟩
  case round =>
    obtain ⟨i, hi, rfl, hs⟩ := hrel
    have HS := Lib.hid hs
    by_cases hlt : i < NG
    · have p3 : (i : Int) < (NG : Int) := by omega
      have p4 : (0 : Int) ≤ (i : Int) := by omega
      have hgr := HR.out.1.step hs
      obtain ⟨bg, og, rfl, hbg, c0, c1⟩ := hgr.cells i (by rw [HL.out.1]; exact hlt)
      have hx : gl.getD i rr0 ∈ gl := by rw [List.getD_eq_getElem?_getD, List.getElem?_eq_getElem (by rw [HL.out.1]; exact hlt)]; exact List.getElem_mem _
      obtain ⟨hxr, -⟩ := hgr.data _ hx
      have hpr := HP.out i hlt
      obtain ⟨x, hxe⟩ : ∃ x, gl.getD i rr0 = x := ⟨_, rfl⟩
      rw [hxe] at c0 c1 hxr hpr
      simp only [Rr.sl] at c1
      obtain ⟨J, hJ⟩ : ∃ J, i - NS = J := ⟨_, rfl⟩
      have hy : ∃ (y : Rr) (ya : Option Addr) (yn yc by' oy j : Nat), x.k = y.k ∧ x.d = y.d ∧ ya = some ⟨by', oy, none⟩ ∧ by' < wr.heap.size ∧ wr.cell? ⟨by', oy + j * 2, none⟩ = some (.int .u8 (y.k.toNat : Int)) ∧ wr.cell? ⟨by', oy + j * 2 + 1, none⟩ = some (.slice y.a y.d.length y.c) ∧ RecIn wr y.a y.c y.d ∧ ((i < NS ∧ sa = ya ∧ j = i) ∨ (NS ≤ i ∧ ba = ya ∧ j = J)) := by
        by_cases hq : i < NS
        · rw [if_pos hq] at hpr
          have hsr := HR.out.2.1.step hs
          obtain ⟨b, o, ha, hb, k0, k1⟩ := hsr.cells i (by rw [HL.out.2.1]; exact hq)
          obtain ⟨hyr, -⟩ := hsr.data (sl.getD i rr0) (by rw [List.getD_eq_getElem?_getD, List.getElem?_eq_getElem (by rw [HL.out.2.1]; exact hq)]; exact List.getElem_mem _)
          simp only [Rr.pr, Prod.mk.injEq] at hpr
          exact ⟨sl.getD i rr0, _, 0, 0, b, o, i, hpr.1, hpr.2, rfl, hb, k0, k1, hyr, .inl ⟨hq, ha, rfl⟩⟩
        · rw [if_neg hq, hJ] at hpr
          have hbr := HR.out.2.2.step hs
          have hJl : J < bl.length := by rw [HL.out.2.2]; omega
          obtain ⟨b, o, ha, hb, k0, k1⟩ := hbr.cells J hJl
          obtain ⟨hyr, -⟩ := hbr.data (bl.getD J rr0) (by rw [List.getD_eq_getElem?_getD, List.getElem?_eq_getElem hJl]; exact List.getElem_mem _)
          simp only [Rr.pr, Prod.mk.injEq] at hpr
          exact ⟨bl.getD J rr0, _, 0, 0, b, o, J, hpr.1, hpr.2, rfl, hb, k0, k1, hyr, .inr ⟨by omega, ha, rfl⟩⟩
      clear hpr hx hxe hgr
      obtain ⟨y, ya, -, -, by', oy, j, hk, hd, hya, hby, y0, y1, hyr, hcase⟩ := hy
      rw [← hk] at y0
      rw [← hd] at y1 hyr
      obtain ⟨W, hW⟩ : ∃ W, wr.alloc (.cells #[.int .u8 (x.k.toNat : Int), .slice x.a x.d.length x.c] 34) = W := ⟨_, rfl⟩
      have hsW : Step [] wr W := by rw [← hW]; exact (Step.refl [] wr).alloc _
      have hbW : Blk W wr.heap.size #[.int .u8 (x.k.toNat : Int), .slice x.a x.d.length x.c] 34 := by rw [← hW]; exact Blk.new wr _ _
      have hbl := hbW.lt
      have z0 := hbW.cell 0
      have z1 := hbW.cell 1
      simp only [List.getElem?_toArray, List.getElem?_cons_zero, List.getElem?_cons_succ] at z0 z1
      have v0 := (hsW.cell hby (by simp)).trans y0
      have v1 := (hsW.cell hby (by simp)).trans y1
      have hbyW := Nat.lt_of_lt_of_le hby hsW.size
      have HSame := Lib.hid (fun (V : World) (hV : Step [] W.drew V) => same_eq (x.k.toNat : Int) x.a y.a x.c y.c x.d V (hxr.bytes.step (hsW.then ((Step.refl [] W).drew.then hV (by simp)) (by simp)) (by simp)) (hyr.bytes.step (hsW.then ((Step.refl [] W).drew.then hV (by simp)) (by simp)) (by simp)) (fun h => (hxr.nil h).1) (fun h => (hyr.nil h).1))
      have HW := Lib.hid (And.intro hW (HS.out.then hsW (by simp)))
      have hJ2 : NS ≤ i → (i : Int) - (NS : Int) = (J : Int) := fun h => by omega
      clear hs hsW hbW hxr hyr y0 y1 hW hk hd
      go_wp2_with fail
      rw [HW.out.1]
      have hnn : Nonempty (ClsW (Step [] W.drew)) := ⟨⟨_, Step.refl _ _⟩⟩
      have d0 : ∀ q : ClsW (Step [] W.drew), q.val.cell? ⟨wr.heap.size, 0, none⟩ = _ := fun q => (q.ok.cell hbl (by simp)).trans z0
      have d1 : ∀ q : ClsW (Step [] W.drew), q.val.cell? ⟨wr.heap.size, 1, none⟩ = _ := fun q => (q.ok.cell hbl (by simp)).trans z1
      have d2 : ∀ q : ClsW (Step [] W.drew), q.val.cell? ⟨by', oy + j * 2, none⟩ = _ := fun q => (q.ok.cell hbyW (by simp)).trans v0
      have d3 : ∀ q : ClsW (Step [] W.drew), q.val.cell? ⟨by', oy + j * 2 + 1, none⟩ = _ := fun q => (q.ok.cell hbyW (by simp)).trans v1
      clear z0 z1 v0 v1 c0 c1
      subst hya
      rcases hcase with ⟨hq, rfl, rfl⟩ | ⟨hq, rfl, rfl⟩
      · have q1 : (j : Int) < (NS : Int) := by omega
        have q2 : ¬ (NS : Int) ≤ (j : Int) := by omega
        refine region_cls (G := Step [] W.drew) (by kernel_rfl) (by kernel_rfl) (Step.refl _ _) ?_
        repeat (go_big_quiet_step ((go_at_call 42; exact cls_call ((HSame.out _ (ClsW.ok _)).mono fun e w3 h => ⟨h.1, Step.then (F := []) (G := []) (ClsW.ok _) h.2 (by simp)⟩))))
        refine wpQuiet_nil ?_
        rintro w2 ⟨⟨w2i, hw2⟩, he⟩
        have he' : w2 = w2i := he
        subst he'
        have HS2 := Lib.hid (HW.out.2.then ((Step.refl [] W).drew.then hw2 (by simp)) (by simp))
        clear hw2 he d0 d1 d2 d3 hnn
        go_wp2_with fail
        go_roundw
        case rel => exact ⟨j + 1, by omega, by go_num, HS2.out⟩
        case measure => simp [intOf]; omega
      · have q1 : ¬ (i : Int) < (NS : Int) := by omega
        have q2 : (NS : Int) ≤ (i : Int) := by omega
        have q3 := hJ2 hq
        have q4 : IntKind.i64.wrap ((i : Int) - (NS : Int)) = (j : Int) := by rw [q3]; exact wrap_id _ (by omega) (by omega)
        have q5 : (0 : Int) ≤ (j : Int) := by omega
        have q6 : (j : Int) < (NB : Int) := by omega
        clear q3
        refine region_cls (G := Step [] W.drew) (by kernel_rfl) (by kernel_rfl) (Step.refl _ _) ?_
        repeat (go_big_quiet_step ((go_at_call 42; exact cls_call ((HSame.out _ (ClsW.ok _)).mono fun e w3 h => ⟨h.1, Step.then (F := []) (G := []) (ClsW.ok _) h.2 (by simp)⟩))))
        refine wpQuiet_nil ?_
        rintro w2 ⟨⟨w2i, hw2⟩, he⟩
        have he' : w2 = w2i := he
        subst he'
        have HS2 := Lib.hid (HW.out.2.then ((Step.refl [] W).drew.then hw2 (by simp)) (by simp))
        clear hw2 he d0 d1 d2 d3 hnn
        go_wp2_with fail
        go_roundw
        case rel => exact ⟨i + 1, by omega, by go_num, HS2.out⟩
        case measure => simp [intOf]; omega
    · obtain rfl : i = NG := by omega
      have p3 : ¬ (i : Int) < (i : Int) := by omega
      go_wp2_with fail
      go_ret
      exact ⟨rfl, HS.out⟩

theorem alike_any (ga sa : Option Addr) (gc sc : Nat) (gl sl : List Rr) (w : World) (hg : Recs w ga gc gl) (hs : Recs w sa sc sl) (hp : gl.map Rr.pr = sl.map Rr.pr) (hfew : gl.length ≤ 1000) :
    Calls Try.prog 19 #[.slice ga gl.length gc, .slice sa sl.length sc] w fun e w' => e = .returned (.bool true) ∧ Step [] w w' := by
  have hl : gl.length = sl.length := by simpa using congrArg List.length hp
  have HB := Lib.hid (begins_any ga sa none gc sc 0 gl sl [] w hg hs (rcs_none w).recs (by omega) (by omega) (by rw [hp]; simp) hfew (by simp))
  rw [hl] at HB ⊢
  clear hg hs hp
  go_enter Try.func19, Try.ntmps19
  go_wp2_with fail
  refine HB.out.mono ?_
  rintro e w1 ⟨rfl, hs1⟩
  have HS := Lib.hid hs1
  clear hs1
  go_wp2_with fail
  go_ret
  exact ⟨rfl, HS.out⟩
end Go.Proofs.Ytdmnhkmpfnhmdaa
end

section
namespace Go.Proofs.Ytdmnhkmpfnhmdaa
set_option linter.unusedVariables false
open Go.RowKit
set_option maxRecDepth 20000 in
open Go.ChangeShapes Go.WideShapes Go.Deep in
theorem open_rcs {H : Type} {enc : TypeId × Value → H} {w : World} {base : Nat} {v : Value} {d : DataW H} {p : List MemPlace} (ho : Value.okWide Try.prog w .any base 22 v) (h : DataW.Trod enc Try.prog w 0 (fun _ => true) true 22 v d p) :
    ∃ (a : Option Addr) (cap : Nat) (vs : List Rr), v = .slice a vs.length cap ∧ Rcs w a cap vs := by
  obtain ⟨a, cap, vs, rfl, hR⟩ := open_records ho h
  refine ⟨a, cap, vs, rfl, ?_⟩
  unfold Value.okWide at ho
  rw [Try.underlying22] at ho
  simp only at ho
  unfold Cell.okWide at ho
  rw [Try.underlying22] at ho
  simp only at ho
  unfold Cell.ok at ho
  rw [Try.underlying22] at ho
  cases a with
  | none =>
    have h2 := (hR.nil rfl).2
    exact ⟨hR, (fun ad h => (by cases h)), by omega⟩
  | some ad =>
    simp only at ho
    refine ⟨hR, fun ad' he => ?_, ?_⟩
    · cases he
      exact ho.2.2.2.1
    · have h3 := ho.2.1
      unfold maxLen
      simp [IntKind.max, IntKind.bits, IntKind.signed] at h3
      omega
end Go.Proofs.Ytdmnhkmpfnhmdaa
end

section
namespace Go.Proofs.Ytdmnhkmpfnhmdaa
set_option linter.unusedVariables false
open Go.RowKit

/-- records that the laws append: of no kind that seals, and short -/
def OkR (l : List Rr) : Prop := ∀ x ∈ l, x.k.toNat ≠ 255 ∧ x.d.length ≤ 60
theorem okR_next {l : List Rr} {i : Nat} (hi : i < l.length) (h : OkR (l.take i)) (hx : (l.getD i rr0).k.toNat ≠ 255 ∧ (l.getD i rr0).d.length ≤ 60) : OkR (l.take (i + 1)) := fun x hm => by
  rw [List.take_succ_eq_append_getElem hi] at hm
  rcases List.mem_append.1 hm with hm | hm
  · exact h x hm
  · simp only [List.mem_singleton] at hm
    subst hm
    simpa [List.getD, hi] using hx
theorem okR_kinds {l : List Rr} (h : OkR l) : ∀ x ∈ l.map Rr.pr, x.1.toNat ≠ 255 := fun x hx => by
  obtain ⟨y, hy, rfl⟩ := List.mem_map.1 hx
  exact (h y hy).1
theorem flens_ok : ∀ {l : List Rr} (h : OkR l), flens (l.map Rr.pr) ≤ l.length * 76
  | [], _ => Nat.zero_le _
  | x :: r, h => by
    have h1 := flens_ok (l := r) (fun y hy => h y (List.mem_cons_of_mem _ hy))
    have h2 := flen_most x.pr
    have h3 := (h x (by simp)).2
    have h4 : x.pr.2.length = x.d.length := rfl
    simp only [flens, List.map_cons, List.sum_cons, List.length_cons] at h1 ⊢
    omega
theorem flens_cons (r : UInt8 × List UInt8) (l : List (UInt8 × List UInt8)) : flens (r :: l) = flen r + flens l := by simp [flens]
theorem map_take_next {l : List Rr} {i : Nat} (hi : i < l.length) : (l.take (i + 1)).map Rr.pr = (l.take i).map Rr.pr ++ [(l.getD i rr0).pr] := by
  rw [List.take_succ_eq_append_getElem hi, List.map_append]
  simp [List.getD, hi]
theorem allR_len (l : List Rr) : (chainB 0 (allR l)).length = flens (l.map Rr.pr) + 7 := by
  rw [chain_len]
  unfold allR
  rw [flens_app, flens_seal]
theorem recsR_allR {l : List Rr} (h : ∀ x ∈ l.map Rr.pr, x.1.toNat ≠ 255) : recsR (allR l) = l.map Rr.pr := by
  have := recs_sealed (l.map Rr.pr) [] h
  rw [List.append_nil, List.append_nil] at this
  exact this

set_option maxRecDepth 20000 in
set_option maxHeartbeats 2000000 in
theorem turns_any (a : Option Addr) (cap : Nat) (l : List Rr) (o : Nat) (ho : o ≤ 255) (w : World) (hR : Rcs w a cap l) :
    Calls Try.prog 6 #[.slice a l.length cap, .int .u8 (o : Int)] w fun e w' => e = .returned (.bool true) ∧ Step [] w w' := by
  obtain ⟨n, hn⟩ : ∃ n, l.length = n := ⟨_, rfl⟩
  rw [hn]
  have HR := Lib.hid hR
  have HN := Lib.hid hn
  clear hR hn
  go_enter Try.func6, Try.ntmps6
  go_wp2_with fail
  refine (lives_any w).mono ?_
  rintro e w1 ⟨rfl, hs1⟩
  have HS1 := Lib.hid hs1
  clear hs1
  by_cases hn20 : 20 < n
  · have p1 : decide ((20 : Int) < (n : Int)) = true := by simp; omega
    go_wp2_with fail
    refine (lives_any w1).mono ?_
    rintro e w2 ⟨rfl, hs2⟩
    have HS2 := Lib.hid (HS1.out.then hs2 (by simp))
    clear hs2
    go_wp2_with fail
    go_ret
    exact ⟨rfl, HS2.out⟩
  have p1 : decide ((20 : Int) < (n : Int)) = false := by simp; omega
  go_wp2_with fail
  refine (new_any 200 w1 (by decide) (by decide)).mono ?_
  rintro e w2 ⟨db, lv, rfl, hD, hs2⟩
  have HS2 := Lib.hid (HS1.out.then hs2 (by simp))
  have hz2 := hs2.size
  have HF := Lib.hid (wl_format_new w1.heap.size db 200 lv _ w2 hD (by omega) (by omega) hz2)
  have HL2 := Lib.hid hD.base
  have HZ1 := Lib.hid HS1.out.size
  clear hD hs2
  go_wp2_with fail
  refine HF.out.mono ?_
  rintro e w3 ⟨lb, tv, S', rfl, h3, hS3, -, hs3⟩
  have HS3 := Lib.hid (HS2.out.then hs3 (fun k hk => .inr (Nat.le_trans HZ1.out (HL2.out k hk))))
  have hz3 := hs3.size
  have H3 := Lib.hid h3
  have HS3' := Lib.hid hS3
  clear h3 hs3 hS3
  go_wp2_with fail
  go_loopw [35] (fun j wr => ∃ (i : Nat) (tv wv : Value) (W : List (Nat × List UInt8)), i ≤ n ∧ j = .int .i64 (i : Int) ∧ Wl wr w1.heap.size db lb lv wv tv S' W 0 1 [(255, [])] ([(255, [])] ++ (l.take i).map Rr.pr) ∧ W.length ≤ 3 * i ∧ OkR (l.take i) ∧ Step [] w wr ∧ w2.heap.size ≤ wr.heap.size) (fun j _ => n - (intOf j).toNat)
  case atStart => exact ⟨0, tv, _, [], by omega, rfl, by simpa using H3.out, by simp, fun x hx => absurd hx (by simp), HS3.out, hz3⟩
  case round =>
    obtain ⟨i, tv, wv, W, hi, rfl, hw, hWl, hok, hs, hz⟩ := hrel
    have HW := Lib.hid (And.intro hw (And.intro hWl (And.intro hok (And.intro hs hz))))
    clear hw hWl hok hs hz
    by_cases hlt : i < n
    · have p3 : (i : Int) < (n : Int) := by omega
      have p4 : (0 : Int) ≤ (i : Int) := by omega
      have hRr := HR.out.recs.step HW.out.2.2.2.1
      obtain ⟨b, off, rfl, hblt, c0, c1⟩ := hRr.cells i (by rw [HN.out]; exact hlt)
      have hx : l.getD i rr0 ∈ l := by rw [List.getD_eq_getElem?_getD, List.getElem?_eq_getElem (by rw [HN.out]; exact hlt)]; exact List.getElem_mem _
      obtain ⟨hxr, -⟩ := hRr.data _ hx
      have hmn := map_take_next (l := l) (i := i) (by rw [HN.out]; exact hlt)
      obtain ⟨x, hxe⟩ : ∃ x, l.getD i rr0 = x := ⟨_, rfl⟩
      have HXe := Lib.hid (And.intro hxe hmn)
      rw [hxe] at c0 c1 hxr
      simp only [Rr.sl] at c1
      clear hx hxe hRr hmn
      obtain ⟨DL, hDL⟩ : ∃ DL, x.d.length = DL := ⟨_, rfl⟩
      rw [hDL] at c1
      have HDL := Lib.hid hDL
      clear hDL
      by_cases h60 : 60 < DL
      · have p5 : decide ((60 : Int) < (DL : Int)) = true := by simp; omega
        clear hxr
        go_wp2_with fail
        go_ret
        exact ⟨rfl, HW.out.2.2.2.1.alloc _⟩
      have p5 : decide ((60 : Int) < (DL : Int)) = false := by simp; omega
      by_cases hk : x.k.toNat = 255
      · have p6 : ((x.k.toNat : Int) == 255) = true := by simp; omega
        clear hxr
        go_wp2_with fail
        go_ret
        exact ⟨rfl, HW.out.2.2.2.1.alloc _⟩
      have p6 : ((x.k.toNat : Int) == 255) = false := by simp; omega
      have hfm := flen_most x.pr
      have hfm2 : flen x.pr ≤ 76 := by
        have h1 : x.pr.2.length = x.d.length := rfl
        have := HDL.out
        omega
      have hsa := (Step.refl [] wr).alloc (.cells #[.int .u8 (x.k.toNat : Int), .slice x.a DL x.c] 34)
      have hap := wl_append _ _ _ _ _ _ _ _ _ _ _ _ x.k x.a x.c x.d _ (HW.out.1.step hsa (by simp)) ⟨hxr.bytes.step hsa (by simp), hxr.nil, hxr.max⟩ hk (by rw [HDL.out]; omega) (by
        have h1 : flens ((l.take i).map Rr.pr) ≤ (l.take i).length * 76 := flens_ok HW.out.2.2.1
        have h2 : (l.take i).length ≤ 20 := by rw [List.length_take]; omega
        have h3 : flen (x.k, x.d) = flen x.pr := rfl
        rw [chain_len, flens_app, flens_seal, HS3'.out, h3]
        omega) (by have := HW.out.2.1; omega) (by rw [World.size_alloc]; have := HW.out.2.2.2.2; omega)
      rw [HDL.out] at hap
      have HAp := Lib.hid hap
      clear hap hxr hsa
      go_wp2_with fail
      refine HAp.out.mono ?_
      rintro e w4 ⟨rfl, tv4, wv4, W4, h4, hW4, hs4, -⟩
      have hok2 : OkR (l.take (i + 1)) := okR_next (by rw [HN.out]; exact hlt) HW.out.2.2.1 (by rw [HXe.out.1, HDL.out]; exact ⟨hk, by omega⟩)
      have HK := Lib.hid (And.intro h4 (And.intro hW4 (And.intro hs4 hok2)))
      clear h4 hW4 hs4 hok2
      go_wp2_with fail
      go_roundw
      case rel =>
        obtain ⟨hw, hWl, hok, hs, hz⟩ := HW.out
        obtain ⟨h4, hW4, hs4, hok2⟩ := HK.out
        refine ⟨i + 1, tv4, wv4, W4, by omega, by go_num, ?_, ?_, hok2, (hs.alloc _).then hs4 (fun k hk => .inr (Nat.le_trans HZ1.out (hw.low k hk))), ?_⟩
        · rw [HXe.out.2, HXe.out.1, ← List.append_assoc]
          exact h4
        · have h3 : flen (x.k, x.d) = flen x.pr := rfl
          rw [h3] at hW4
          omega
        · have h1 := hs4.size
          rw [World.size_alloc] at h1
          omega
      case measure => simp [intOf]; omega
    · obtain rfl : i = n := by omega
      have p3 : ¬ (i : Int) < (i : Int) := by omega
      obtain ⟨hw, hWl, hok, hs, hz⟩ := HW.out
      rw [List.take_of_length_le (by rw [HN.out]; exact Nat.le_refl _)] at hw hok
      have HSy := Lib.hid (wl_sync _ _ _ _ _ _ _ _ _ _ _ _ _ hw)
      have HOk := Lib.hid (And.intro hok (And.intro hs (And.intro hz hw.dk.base)))
      clear hw hWl hok hs hz HW
      go_wp2_with fail
      refine HSy.out.mono ?_
      rintro e w5 ⟨rfl, S5, h5, hS5, hs5⟩
      have H5 := Lib.hid (And.intro h5 (And.intro hS5 (And.intro hs5 (HOk.out.2.1.then hs5 (fun k hk => .inr (Nat.le_trans HZ1.out (HOk.out.2.2.2 k hk)))))))
      clear h5 hS5 hs5
      obtain ⟨M, hM, hM9⟩ : ∃ M : Nat, (o : Int) % 9 = (M : Int) ∧ M < 9 := ⟨o % 9, by omega, by omega⟩
      have eM : IntKind.i64.wrap (1 + (M : Int)) = 1 + (M : Int) := wrap_id _ (by omega) (by omega)
      go_wp2_with fail
      clear hM
      have hkd := okR_kinds HOk.out.1
      have hrc0 : recsR ([(255, [])] ++ l.map Rr.pr) = l.map Rr.pr := recs_sealed [] (l.map Rr.pr) (by simp)
      have hlen0 : ([((255 : UInt8), ([] : List UInt8))] ++ l.map Rr.pr).length = i + 1 := by rw [List.length_append, List.length_map, HN.out]; simp; omega
      have HKd := Lib.hid hkd
      have h200 : S5.length = 200 := by rw [H5.out.2.1, HS3'.out]
      have hzz : w1.heap.size ≤ w5.heap.size := Nat.le_trans hz2 (Nat.le_trans HOk.out.2.2.1 H5.out.2.2.1.size)
      go_loopw [7, 62] (fun x j wr => ∃ (q lb : Nat) (tv : Value) (S : List (List UInt8)) (h : Nat) (rs : List (UInt8 × List UInt8)), q ≤ M + 1 ∧ x = .pointer (some ⟨lb, 0, none⟩) ∧ j = .int .i64 (q : Int) ∧ Wl wr w1.heap.size db lb lv (.slice none 0 0) tv S [] h (q + 1) rs rs ∧ recsR rs = l.map Rr.pr ∧ rs.length = i + 1 ∧ S.length = 200 ∧ Step [] w wr ∧ w1.heap.size ≤ wr.heap.size) (fun _ j _ => M + 1 - (intOf j).toNat)
      case atStart => exact ⟨0, lb, _, S5, 0, _, by omega, rfl, rfl, H5.out.1, hrc0, hlen0, h200, H5.out.2.2.2, hzz⟩
      case round =>
        obtain ⟨q, lb, tv, S, h, rs, hq, rfl, rfl, hw, hrc, hlen, hS, hs, hz⟩ := hrel
        have HW := Lib.hid (And.intro hw (And.intro hrc (And.intro hlen (And.intro hS (And.intro hs hz)))))
        clear hw hrc hlen hS hs hz hzz h200 hlen0 hrc0 hkd
        by_cases hlt : q < M + 1
        · have p5 : (q : Int) < 1 + (M : Int) := by omega
          have hop := wl_open w1.heap.size db lv _ S [] h (q + 1) rs rs wr HW.out.1.dk HW.out.1.four (by
            rw [syncS_nil]
            exact HW.out.1.li.crash (by omega) (fun _ => false) 0) (List.prefix_refl _) HW.out.1.sealed HW.out.1.data (by omega) (by rw [HW.out.2.2.1]; omega) (by rw [HW.out.2.2.1, HW.out.2.2.2.1]; simp; omega) HW.out.2.2.2.2.2
          have HOp := Lib.hid hop
          clear hop
          go_wp2_with fail
          refine HOp.out.mono ?_
          rintro e w6 ⟨lb6, tv6, S6, ga, gc, gl, k, rfl, k1, k2, hrp, hgr, h6, hS6, hfr, hfl, hs6⟩
          have hk : rs.take k = rs := List.take_of_length_le (by omega)
          rw [hk, HW.out.2.1] at hrp
          have hgl : gl.length = i := by
            have h := congrArg List.length hrp
            rw [List.length_map, List.length_map, HN.out] at h
            exact h
          have hs06 : Step [] w w6 := HW.out.2.2.2.2.1.then hs6 (fun k hk => .inr (Nat.le_trans HZ1.out (HW.out.1.dk.base k hk)))
          have hal := alike_any ga a gc cap gl l w6 hgr.recs (HR.out.recs.step hs06) hrp (by omega)
          rw [hgl, HN.out] at hal
          have HAl := Lib.hid hal
          have HTn := Lib.hid (fun W' (hs : Step [] w6 W') => wl_turn _ _ _ _ _ _ _ _ _ _ _ _ W' (h6.step hs (by simp)))
          have H6 := Lib.hid (And.intro h6 (And.intro hS6 (And.intro hrp (And.intro hs06 (And.intro hgl hs6.size)))))
          rw [hgl]
          have e2 : IntKind.i64.wrap ((q : Int) + 2) = (q : Int) + 2 := wrap_id _ (by omega) (by omega)
          obtain ⟨T6, hT6⟩ : ∃ T6, q + 1 + 1 = T6 := ⟨_, rfl⟩
          have e5 : ((T6 : Int) != (q : Int) + 2) = false := by simp; omega
          rw [hT6] at HTn
          have HT6 := Lib.hid hT6
          clear hT6
          have e3 : IntKind.u64.wrap ((q : Int) + 2) = (q : Int) + 2 := by rw [IntKind.wrap_u64]; omega
          clear hal h6 hS6 hrp hs06 hgl hs6 hgr hfr hfl hk k1 k2
          go_wp2_with fail
          refine HAl.out.mono ?_
          rintro e w7 ⟨rfl, hs7⟩
          have HTn7 := Lib.hid (HTn.out w7 hs7)
          have HS7 := Lib.hid hs7
          clear hs7
          go_wp2_with fail
          refine HTn7.out.mono ?_
          rintro e w8 ⟨rfl, rfl⟩
          go_wp2_with fail
          go_roundw
          case rel =>
            obtain ⟨h6, hS6, hrp, hs06, hgl, hz6⟩ := H6.out
            refine ⟨q + 1, lb6, tv6, S6, 1 - h, allR gl, by omega, rfl, by go_num, h6.step HS7.out (by simp), ?_, ?_, ?_, hs06.then HS7.out (by simp), Nat.le_trans HW.out.2.2.2.2.2 (Nat.le_trans hz6 HS7.out.size)⟩
            · rw [recsR_allR (by rw [hrp]; exact HKd.out), hrp]
            · unfold allR
              rw [List.length_append, List.length_map, hgl]
              rfl
            · rw [hS6, HW.out.2.2.2.1]
          case measure => simp [intOf]; omega
        · obtain rfl : q = M + 1 := by omega
          have p5 : ¬ ((M + 1 : Nat) : Int) < 1 + (M : Int) := by omega
          have HTn := Lib.hid (fun W' (hs : Step [] wr W') => wl_turn _ _ _ _ _ _ _ _ _ _ _ _ W' (HW.out.1.step hs (by simp)))
          have hflo : flens (l.map Rr.pr) ≤ l.length * 76 := flens_ok HOk.out.1
          have hrw := wl_rewrite _ _ _ _ _ _ _ _ _ _ _ _ a cap l wr HW.out.1 (HR.out.stepF HW.out.2.2.2.2.1 (by simp)) (fun k hk hm => by
            have h1 := HR.out.recs.live k hk
            have h2 := HW.out.1.low k hm
            have h3 := HZ1.out
            omega) (fun x hx => (HOk.out.1 x hx).1) (fun x hx => by have := (HOk.out.1 x hx).2; omega) (by rw [HN.out]; omega) (by rw [HN.out, HW.out.2.2.2.1]; simp; omega) (by omega) HW.out.2.2.2.2.2
          rw [HN.out] at hrw
          have HRw := Lib.hid hrw
          have e4 : IntKind.u64.wrap ((M : Int) + 1 + 1 + 1) = (M : Int) + 1 + 1 + 1 := by rw [IntKind.wrap_u64]; omega
          clear hrw
          go_wp2_with fail
          refine (HTn.out wr (Step.refl _ _)).mono ?_
          rintro e w6 ⟨rfl, rfl⟩
          go_wp2_with fail
          refine HRw.out.mono ?_
          rintro e w7 (⟨hf, -, -⟩ | ⟨-, rfl, tv7, S7, h7, hS7, -, hs7⟩)
          · exfalso
            rw [allR_len, HW.out.2.2.2.1] at hf
            rw [HN.out] at hflo
            omega
          have HTn7 := Lib.hid (wl_turn _ _ _ _ _ _ _ _ _ _ _ _ w7 h7)
          have HS7 := Lib.hid (HW.out.2.2.2.2.1.then hs7 (fun k hk => .inr (Nat.le_trans HZ1.out (HW.out.1.low k hk))))
          clear h7 hS7 hs7
          go_wp2_with fail
          refine HTn7.out.mono ?_
          rintro e w8 ⟨rfl, rfl⟩
          go_wp2_with fail
          go_ret
          exact ⟨rfl, HS7.out⟩
end Go.Proofs.Ytdmnhkmpfnhmdaa
end
