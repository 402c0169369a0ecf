/- Several texts in one: WalF, Open, RecIn, FrameSz, WalG, Recs, WalH, WalI, FrameDp, ScanP, WalJ, WalR, WalQ, WalD. -/
import Derived.Test.YtdmnhkmpfnhmdaaWpD
import Derived.Test.YtdmnhkmpfnhmdaaRows
import Derived.WalkKit
import Derived.ProofKit
import Derived.OpenShut
import Derived.ChangeArms
import Derived.Deep.Fields
import Derived.Test.YtdmnhkmpfnhmdaaWpA
import Derived.Deep.SlicePairs
section
namespace Go.Proofs.Ytdmnhkmpfnhmdaa
set_option linter.unusedVariables false
open Go.RowKit

theorem right_any (k : UInt8) (a : Option Addr) (n cap : Nat) (e0 : Int) (w : World) (h : (k.toNat = 255 ∧ e0 = 1) ∨ (k.toNat ≠ 255 ∧ 1024 < n ∧ e0 = 15) ∨ (k.toNat ≠ 255 ∧ n ≤ 1024 ∧ e0 = 0)) :
    Calls Try.prog 30 #[.agg #[.int .u8 (k.toNat : Int), .slice a n cap]] w fun e w' => e = .returned (.int .i64 e0) ∧ Step [] w w' := by
  have hs : Step [] w (w.alloc (.cells #[.int .u8 (k.toNat : Int), .slice a n cap] 34)) := (Step.refl [] w).alloc _
  obtain ⟨K, hK⟩ : ∃ K, k.toNat = K := ⟨_, rfl⟩
  rw [hK] at h hs ⊢
  rcases h with ⟨rfl, rfl⟩ | ⟨h1, h2, rfl⟩ | ⟨h1, h2, rfl⟩
  · go_enter Try.func30, Try.ntmps30
    go_wp2_with fail
    go_ret
    exact ⟨rfl, hs⟩
  · have q1 : ((K : Int) == 255) = false := by simp; omega
    have q2 : (1024 : Int) < (n : Int) := by omega
    go_enter Try.func30, Try.ntmps30
    go_wp2_with fail
    go_ret
    exact ⟨rfl, hs⟩
  · have q1 : ((K : Int) == 255) = false := by simp; omega
    have q2 : ¬ (1024 : Int) < (n : Int) := by omega
    go_enter Try.func30, Try.ntmps30
    go_wp2_with fail
    go_ret
    exact ⟨rfl, hs⟩

theorem lsync_any (base db lb half t en sm : Nat) (tv lv wv : Value) (S : List (List UInt8)) (W : List (Nat × List UInt8)) (w : World) (hb : Blk w lb (logC db half t en sm tv) 69) (h : Dsk w base db lv wv S W false) :
    Calls Try.prog 12 #[.pointer (some ⟨lb, 0, none⟩)] w fun e w' => e = .returned (.int .i64 0) ∧ Dsk w' base db lv (.slice none 0 0) (syncS W S) [] false ∧ Step (footD db lv wv) w w' := by
  have HS := Lib.hid (sync_any base db lv wv S W w h)
  have c0 : w.cell? ⟨lb, 0, none⟩ = some (.pointer (some ⟨db, 0, none⟩)) := hb.cell 0
  clear h hb
  go_enter Try.func12, Try.ntmps12
  go_wp2_with fail
  refine HS.out.mono ?_
  rintro e w1 ⟨rfl, h1, h2⟩
  have HK := Lib.hid (And.intro h1 h2)
  clear h1 h2
  go_wp2_with fail
  go_ret
  exact ⟨rfl, HK.out⟩

/-! a log that isn't there -/
theorem lsync_nil (w : World) : Calls Try.prog 12 #[.pointer none] w fun e w' => e = .returned (.int .i64 1) ∧ w = w' := by
  go_enter Try.func12, Try.ntmps12
  go_wp2_with fail
  go_ret
  exact ⟨rfl, rfl⟩
theorem lroom_nil (w : World) : Calls Try.prog 21 #[.pointer none] w fun e w' => e = .returned (.int .i64 0) ∧ w = w' := by
  go_enter Try.func21, Try.ntmps21
  go_wp2_with fail
  go_ret
  exact ⟨rfl, rfl⟩
theorem lturn_nil (w : World) : Calls Try.prog 20 #[.pointer none] w fun e w' => e = .returned (.int .u64 0) ∧ w = w' := by
  go_enter Try.func20, Try.ntmps20
  go_wp2_with fail
  go_ret
  exact ⟨rfl, rfl⟩
theorem lappend_nil (k : Int) (a : Option Addr) (n cap : Nat) (w : World) : Calls Try.prog 11 #[.pointer none, .agg #[.int .u8 k, .slice a n cap]] w fun e w' => e = .returned (.int .i64 1) ∧ Step [] w w' := by
  have hs : Step [] w (w.alloc (.cells #[.int .u8 k, .slice a n cap] 34)) := (Step.refl [] w).alloc _
  go_enter Try.func11, Try.ntmps11
  go_wp2_with fail
  go_ret
  exact ⟨rfl, hs⟩
theorem lrewrite_nil (a : Option Addr) (n cap : Nat) (w : World) : Calls Try.prog 23 #[.pointer none, .slice a n cap] w fun e w' => e = .returned (.int .i64 1) ∧ w = w' := by
  go_enter Try.func23, Try.ntmps23
  go_wp2_with fail
  go_ret
  exact ⟨rfl, rfl⟩
theorem greatest_nil (w : World) : Calls Try.prog 28 #[.pointer none] w fun e w' => e = .returned (.tuple #[.int .u64 0, .int .i64 1]) ∧ w = w' := by
  go_enter Try.func28, Try.ntmps28
  go_wp2_with fail
  go_ret2
  exact ⟨rfl, rfl⟩

/-! greatest, where there is no disk to be read; Format then -/
theorem greatest_small (base db : Nat) (lv wv : Value) (S : List (List UInt8)) (W : List (Nat × List UInt8)) (d : Bool) (w : World) (h : Dsk w base db lv wv S W d) (h4 : S.length < 4) :
    Calls Try.prog 28 #[.pointer (some ⟨db, 0, none⟩)] w fun e w' => e = .returned (.tuple #[.int .u64 0, .int .i64 1]) ∧ w = w' := by
  have HLn := Lib.hid (dlen_any base db lv wv S W d w h)
  have p1 : (S.length : Int) < 4 := by omega
  clear h
  go_enter Try.func28, Try.ntmps28
  go_wp2_with fail
  refine HLn.out.mono ?_
  rintro e w1 ⟨rfl, rfl⟩
  go_wp2_with fail
  go_ret2
  exact ⟨rfl, rfl⟩
theorem greatest_down (base db : Nat) (lv wv : Value) (S : List (List UInt8)) (W : List (Nat × List UInt8)) (w : World) (h : Dsk w base db lv wv S W true) (h4 : 4 ≤ S.length) :
    Calls Try.prog 28 #[.pointer (some ⟨db, 0, none⟩)] w fun e w' => e = .returned (.tuple #[.int .u64 0, .int .i64 19]) ∧ w = w' := by
  have HLn := Lib.hid (dlen_any base db lv wv S W true w h)
  have HDn := Lib.hid (down_any base db lv wv S W true w h)
  have p1 : ¬ (S.length : Int) < 4 := by omega
  clear h
  go_enter Try.func28, Try.ntmps28
  go_wp2_with fail
  refine HLn.out.mono ?_
  rintro e w1 ⟨rfl, rfl⟩
  go_wp2_with fail
  refine HDn.out.mono ?_
  rintro e w1 ⟨rfl, rfl⟩
  go_wp2_with fail
  go_ret2
  exact ⟨rfl, rfl⟩
theorem format_bad (a : Option Addr) (e0 : Int) (w : World) (he : e0 ≠ 0) (h : Calls Try.prog 28 #[.pointer a] w fun e w' => e = .returned (.tuple #[.int .u64 0, .int .i64 e0]) ∧ w = w') :
    Calls Try.prog 10 #[.pointer a] w fun e w' => e = .returned (.tuple #[.pointer none, .int .i64 e0]) ∧ w = w' := by
  have H := Lib.hid h
  have p1 : (e0 == 0) = false := by simpa using he
  clear h
  go_enter Try.func10, Try.ntmps10
  go_wp2_with fail
  refine H.out.mono ?_
  rintro e w1 ⟨rfl, rfl⟩
  go_wp2_with fail
  go_ret2
  exact ⟨rfl, rfl⟩
theorem open_bad (a : Option Addr) (e0 : Int) (w : World) (he : e0 = 1 ∨ e0 = 19) (h : Calls Try.prog 28 #[.pointer a] w fun e w' => e = .returned (.tuple #[.int .u64 0, .int .i64 e0]) ∧ w = w') :
    Calls Try.prog 14 #[.pointer a] w fun e w' => e = .returned (.tuple #[.pointer none, .slice none 0 0, .int .i64 e0]) ∧ w = w' := by
  have H := Lib.hid h
  clear h
  rcases he with rfl | rfl
  all_goals
    go_enter Try.func14, Try.ntmps14
    go_wp2_with fail
    refine H.out.mono ?_
    rintro e w1 ⟨rfl, rfl⟩
    go_wp2_with fail
    go_ret3
    exact ⟨rfl, rfl⟩
end Go.Proofs.Ytdmnhkmpfnhmdaa
end

section
namespace Go.Proofs.Ytdmnhkmpfnhmdaa
open Go.ChangeShapes Go.WideShapes Go.RowKit Go.Deep
set_option linter.unusedVariables false
section
variable {H : Type} {enc : TypeId × Value → H} {P : Program} {w : World} {base : Nat} {spare : Nat → Bool} {held : Bool}

/-- an argument that is a struct of one-cell fields: its cells, each with its own reading -/
theorem struct_fields {r : Reach} {b0 : Nat} {t : TypeId} {fs : Array Field} {v : Value} {d : DataW H} {p : List MemPlace} (hs : P.underlying t = some (.struct fs)) (hone : oneCellFields P fs = true) (hC : P.cellsOf t = fs.size)
    (hv : Value.okWide P w r b0 t v) (h : DataW.Trod enc P w base spare held t v d p) :
    ∃ (cs : Array Value) (n : Nat), v = .agg cs ∧ cs.size = fs.size ∧ ∀ (j : Nat) (f : Field), fs[j]? = some f → ∃ (u : Value) (y : DataW H × List MemPlace), cs[j]? = some u ∧ DataW.trod enc P w base spare held n f.type [u] = some y := by
  obtain ⟨cs, rfl, hsz⟩ := okWide_struct hs hv
  obtain ⟨fuel, hf⟩ := h
  obtain ⟨xs, n, _, _, hlen, hxl, hat⟩ := DataW.trod_struct hs hf
  have hlen' : cs.toList.length = fs.size := by rw [← hC]; simpa [Value.cells] using hlen
  refine ⟨cs, n, rfl, by omega, fun j f hj => ?_⟩
  have hjl : j < fs.size := (Array.getElem?_eq_some_iff.1 hj).1
  obtain ⟨ho, hk⟩ := hone_of hone j f hj
  have h1 := hat j f hj
  rw [ho, hk] at h1
  have hcells : (Value.agg cs).cells.toList = cs.toList := rfl
  rw [hcells, List.drop_eq_getElem_cons (by omega)] at h1
  have hys : xs[j]? = some (xs[j]'(by omega)) := List.getElem?_eq_getElem (by omega)
  refine ⟨cs[j]'(by omega), xs[j]'(by omega), by simp [show j < cs.size by omega], ?_⟩
  rw [← hys, ← h1]
  rfl

theorem int_field {t : TypeId} {k : IntKind} {n : Nat} {u : Value} {y : DataW H × List MemPlace} (ht : P.underlying t = some (.int k)) (h : DataW.trod enc P w base spare held n t [u] = some y) : ∃ x : Int, u = .int k x ∧ (Lit.int k x).wf = true := by
  obtain ⟨x, h1, _, h3⟩ := DataW.trod_int ht h
  exact ⟨x, by simpa using h1, h3⟩

theorem six_of {cs : Array Value} (h : cs.size = 6) {a b c d e f : Value} (h0 : cs[0]? = some a) (h1 : cs[1]? = some b) (h2 : cs[2]? = some c) (h3 : cs[3]? = some d) (h4 : cs[4]? = some e) (h5 : cs[5]? = some f) : cs = #[a, b, c, d, e, f] := by
  apply Array.ext_getElem?
  intro i
  match i with
  | 0 => simpa using h0
  | 1 => simpa using h1
  | 2 => simpa using h2
  | 3 => simpa using h3
  | 4 => simpa using h4
  | 5 => simpa using h5
  | n + 6 => rw [Array.getElem?_eq_none (by omega), Array.getElem?_eq_none (by simp)]
end
end Go.Proofs.Ytdmnhkmpfnhmdaa
end

section
namespace Go.Proofs.Ytdmnhkmpfnhmdaa
set_option linter.unusedVariables false
open Go.RowKit

theorem Bytes.str {P : Program} {w : World} {a : Option Addr} {l : List UInt8} (h : Bytes w a l) (hn : a = none → l.length = 0) (cap : Nat) (src dst e : TypeId) (hs : P.underlying src = some (.slice e)) (he : P.underlying e = some (.int .u8)) (hd : P.underlying dst = some .string) :
    (convert src dst (.slice a l.length cap)).run P w = .ok (.string (bstr l)) w := by
  cases a with
  | none =>
    have hl : l = [] := List.eq_nil_of_length_eq_zero (hn rfl)
    subst hl
    exact Lib.run_convert_nil_bytes w src dst e cap hs he hd
  | some ad =>
    refine run_convert_bytes_back w src dst e ad cap l hs he hd fun j hj => ?_
    obtain ⟨b, off, ha, _, hc⟩ := h j hj
    cases ha
    rw [add_plain, hc]
    simp [List.getD, hj]

/-- a record that came in -/
structure RecIn (w : World) (a : Option Addr) (cap : Nat) (d : List UInt8) : Prop where
  bytes : Bytes w a d
  nil : a = none → d.length = 0 ∧ cap = 0
  max : d.length ≤ maxLen

set_option maxRecDepth 20000 in
open Go.ChangeShapes Go.WideShapes Go.Deep in
theorem open_record {H : Type} {enc : TypeId × Value → H} {w : World} {base : Nat} {v : Value} {d : DataW H} {p : List MemPlace} (ho : Value.okWide Try.prog w .any base 34 v) (h : DataW.Trod enc Try.prog w 0 (fun _ => true) true 34 v d p) :
    ∃ (k : UInt8) (a : Option Addr) (cap : Nat) (l : List UInt8), v = .agg #[.int .u8 (k.toNat : Int), .slice a l.length cap] ∧ RecIn w a cap l := by
  obtain ⟨cs, n, rfl, hsz, hf⟩ := struct_fields Try.underlying34 (by kernel_rfl) (by kernel_rfl) ho h
  obtain ⟨u0, y0, h0, g0⟩ := hf 0 _ rfl
  obtain ⟨u1, y1, h1, g1⟩ := hf 1 _ rfl
  obtain ⟨z0, rfl, hw0⟩ := int_field Try.underlying5 g0
  obtain ⟨k, rfl⟩ := u8_of z0 hw0
  have hrow : ∃ (da : Option Addr) (dn dc : Nat) (zs : List Int), u1 = .slice da dn dc ∧ IsRow .u8 w da dn dc zs := by
    rcases open_ints Try.underlying32 Try.underlying5 (by kernel_rfl) g1 with ⟨hcs, _⟩ | ⟨x, l, c, zs, hcs, _, hl, hm, hz, _, hcell, hwz⟩
    · exact ⟨none, 0, 0, [], by simpa using hcs, .inl ⟨rfl, rfl, rfl, rfl⟩⟩
    · exact ⟨some x, l, c, zs, by simpa using hcs, .inr ⟨_, rfl, hl, hm, by simpa using hz, hcell, hwz⟩⟩
  obtain ⟨da, dn, dc, zs, rfl, hr⟩ := hrow
  obtain ⟨bs, hbl, hmx, hb, hbn, _, _⟩ := hr.bytes
  subst hbl
  refine ⟨k, da, dc, bs, ?_, hb, hbn, hmx⟩
  congr 1
  apply Array.ext_getElem?
  intro i
  match i with
  | 0 => simpa using h0
  | 1 => simpa using h1
  | n + 2 => rw [Array.getElem?_eq_none (by simp at hsz; omega), Array.getElem?_eq_none (by simp)]

end Go.Proofs.Ytdmnhkmpfnhmdaa
end

section
namespace Go.Proofs.Ytdmnhkmpfnhmdaa
set_option linter.unusedVariables false
open Go.RowKit

set_option maxHeartbeats 1000000 in
theorem size_any (k : UInt8) (a : Option Addr) (cap : Nat) (d : List UInt8) (w : World) (h : RecIn w a cap d) (hlen : d.length ≤ 100000) :
    Calls Try.prog 22 #[.agg #[.int .u8 (k.toNat : Int), .slice a d.length cap]] w fun e w' => e = .returned (.int .i64 (((headB k d).length : Nat) + 4 : Int)) ∧ Step [] w w' := by
  have HC := Lib.hid (head_any k a cap d (w.alloc (.cells #[.int .u8 (k.toNat : Int), .slice a d.length cap] 34)) h.nil (h.bytes.step ((Step.refl [] w).alloc _) (by simp)) (by omega))
  have hl := headB_len k d
  have hn := numB_len d.length
  clear h
  obtain ⟨H, hH⟩ : ∃ H, headB k d = H := ⟨_, rfl⟩
  rw [hH] at HC hl ⊢
  clear hH
  have hb : H.length ≤ 200000 := by omega
  have e1 : IntKind.i64.wrap ((H.length : Int) + 4) = (H.length : Int) + 4 := by rw [IntKind.wrap_i64]; omega
  clear hl hn
  go_enter Try.func22, Try.ntmps22
  go_wp2_with fail
  refine HC.out.mono ?_
  rintro e w1 ⟨v, rfl, hown, hst⟩
  obtain ⟨g, c, rfl, -⟩ := owns_bytes hown
  have HS := Lib.hid (((Step.refl [] w).alloc _).then hst (by simp))
  clear hown hst HC
  go_wp2_with fail
  go_ret
  exact ⟨rfl, HS.out⟩

end Go.Proofs.Ytdmnhkmpfnhmdaa
end

section
namespace Go.Proofs.Ytdmnhkmpfnhmdaa
set_option linter.unusedVariables false
open Go.RowKit

theorem lappend_bad (lb : Nat) (k : UInt8) (a : Option Addr) (n cap : Nat) (e0 : Int) (w : World) (he : e0 ≠ 0) (h : (k.toNat = 255 ∧ e0 = 1) ∨ (k.toNat ≠ 255 ∧ 1024 < n ∧ e0 = 15) ∨ (k.toNat ≠ 255 ∧ n ≤ 1024 ∧ e0 = 0)) :
    Calls Try.prog 11 #[.pointer (some ⟨lb, 0, none⟩), .agg #[.int .u8 (k.toNat : Int), .slice a n cap]] w fun e w' => e = .returned (.int .i64 e0) ∧ Step [] w w' := by
  have hs : Step [] w (w.alloc (.cells #[.int .u8 (k.toNat : Int), .slice a n cap] 34)) := (Step.refl [] w).alloc _
  have HR := Lib.hid (right_any k a n cap e0 (w.alloc (.cells #[.int .u8 (k.toNat : Int), .slice a n cap] 34)) h)
  have HS := Lib.hid hs
  have p1 : (e0 == 0) = false := by simpa using he
  clear h hs
  go_enter Try.func11, Try.ntmps11
  go_wp2_with fail
  refine HR.out.mono ?_
  rintro e w1 ⟨rfl, hs1⟩
  have HS1 := Lib.hid (HS.out.then hs1 (by simp))
  clear hs1
  go_wp2_with fail
  go_ret
  exact ⟨rfl, HS1.out⟩

set_option maxHeartbeats 1000000 in
theorem lappend_full (base db lb half t sm : Nat) (tv lv wv : Value) (S : List (List UInt8)) (W : List (Nat × List UInt8)) (dn : Bool) (en : Nat) (k : UInt8) (a : Option Addr) (cap : Nat) (d : List UInt8) (w : World)
    (hb : Blk w lb (logC db half t en sm tv) 69) (hD : Dsk w base db lv wv S W dn) (he : en ≤ S.length / 2 * 55) (hk : k.toNat ≠ 255) (hd : d.length ≤ 1024) (hR : RecIn w a cap d) (hroom : S.length / 2 * 55 < en + (headB k d).length + 4) :
    Calls Try.prog 11 #[.pointer (some ⟨lb, 0, none⟩), .agg #[.int .u8 (k.toNat : Int), .slice a d.length cap]] w fun e w' => e = .returned (.int .i64 6) ∧ Step [] w w' := by
  obtain ⟨wA, hwA⟩ : ∃ wA, w.alloc (.cells #[.int .u8 (k.toNat : Int), .slice a d.length cap] 34) = wA := ⟨_, rfl⟩
  have hsA : Step [] w wA := by rw [← hwA]; exact (Step.refl [] w).alloc _
  have hbA : Blk wA w.heap.size #[.int .u8 (k.toNat : Int), .slice a d.length cap] 34 := by rw [← hwA]; exact Blk.new w _ _
  have HRi := Lib.hid (right_any k a d.length cap 0 wA (.inr (.inr ⟨hk, hd, rfl⟩)))
  have HSz := Lib.hid (fun W' (hs : Step [] w W') => size_any k a cap d W' ⟨hR.bytes.step hs (by simp), hR.nil, hR.max⟩ (by omega))
  have HRm := Lib.hid (fun W' (hs : Step [] w W') => lroom_any base db lb half t en sm tv lv wv S W dn W' (hb.step hs (by simp)) (hD.step hs (by simp)) he)
  have HSA := Lib.hid hsA
  have HBA := Lib.hid hbA
  have hfew := hD.few
  obtain ⟨RM, hRM⟩ : ∃ RM, S.length / 2 * 55 - en = RM := ⟨_, rfl⟩
  obtain ⟨HB, hHB⟩ : ∃ HB, (headB k d).length = HB := ⟨_, rfl⟩
  rw [hHB] at HSz hroom
  rw [hRM] at HRm
  have p1 : (RM : Int) < (HB : Int) + 4 := by omega
  obtain ⟨B0, hB0⟩ : ∃ B0, w.heap.size = B0 := ⟨_, rfl⟩
  rw [hB0] at HBA
  have z0 := HBA.out.cell 0
  have z1 := HBA.out.cell 1
  simp only [List.getElem?_toArray, List.getElem?_cons_zero, List.getElem?_cons_succ] at z0 z1
  clear hsA hbA hb hD hR hRM hHB
  go_enter Try.func11, Try.ntmps11
  go_wp2_with fail
  refine HRi.out.mono ?_
  rintro e w1 ⟨rfl, hs1⟩
  have hb1 := HBA.out.step hs1 (by simp)
  have y0 := hb1.cell 0
  have y1 := hb1.cell 1
  simp only [List.getElem?_toArray, List.getElem?_cons_zero, List.getElem?_cons_succ] at y0 y1
  have HS1 := Lib.hid (HSA.out.then hs1 (by simp))
  clear hs1 hb1
  go_wp2_with fail
  refine (HSz.out _ HS1.out).mono ?_
  rintro e w2 ⟨rfl, hs2⟩
  have HS2 := Lib.hid (HS1.out.then hs2 (by simp))
  clear hs2
  go_wp2_with fail
  refine (HRm.out _ HS2.out).mono ?_
  rintro e w3 ⟨rfl, n3, rfl⟩
  go_wp2_with fail
  go_ret
  exact ⟨rfl, HS2.out.drewN n3⟩

theorem frame_len (sm : Nat) (k : UInt8) (d : List UInt8) : (frameB sm k d).length = (headB k d).length + 4 := by
  unfold frameB
  rw [List.length_append, leN4_len]

set_option maxHeartbeats 1000000 in
theorem lappend_ok (base db lb half t sm : Nat) (tv lv wv : Value) (S : List (List UInt8)) (W : List (Nat × List UInt8)) (C : List UInt8) (k : UInt8) (a : Option Addr) (cap : Nat) (d : List UInt8) (w : World)
    (hL : Lg w base lb db tv half t C sm) (hD : Dsk w base db lv wv S W false) (hap : ∀ x, x ∈ footL lb tv → x ∉ footD db lv wv) (hh : half ≤ 1) (ht : t < 18446744073709551616) (hsm : sm < 4294967296)
    (hR : RecIn w a cap d) (hk : k.toNat ≠ 255) (hd : d.length ≤ 1024) (hroom : C.length + (frameB sm k d).length ≤ S.length / 2 * 55) (hW : W.length ≤ 950) (hbase : base ≤ w.heap.size) :
    Calls Try.prog 11 #[.pointer (some ⟨lb, 0, none⟩), .agg #[.int .u8 (k.toNat : Int), .slice a d.length cap]] w fun e w' => e = .returned (.int .i64 0) ∧ ∃ tv' wv', Lg w' base lb db tv' half t (C ++ frameB sm k d) (moreN sm (headB k d)) ∧ Dsk w' base db lv wv' S (W ++ putW (S.length / 2) half t C (C ++ frameB sm k d)) false ∧ (∀ x, x ∈ footL lb tv' → x ∉ footD db lv wv') ∧ Step (footL lb tv ++ footD db lv wv) w w' ∧ Fresh w (foot wv) (foot wv') ∧ (∀ x, x ∈ foot tv' → w.heap.size ≤ x) := by
  obtain ⟨wA, hwA⟩ : ∃ wA, w.alloc (.cells #[.int .u8 (k.toNat : Int), .slice a d.length cap] 34) = wA := ⟨_, rfl⟩
  have hsA : Step [] w wA := by rw [← hwA]; exact (Step.refl [] w).alloc _
  have hbA : Blk wA w.heap.size #[.int .u8 (k.toNat : Int), .slice a d.length cap] 34 := by rw [← hwA]; exact Blk.new w _ _
  have HRi := Lib.hid (right_any k a d.length cap 0 wA (.inr (.inr ⟨hk, hd, rfl⟩)))
  have HSz := Lib.hid (fun W' (hs : Step [] w W') => size_any k a cap d W' ⟨hR.bytes.step hs (by simp), hR.nil, hR.max⟩ (by omega))
  have HRm := Lib.hid (fun W' (hs : Step [] w W') => lroom_any base db lb half t C.length sm tv lv wv S W false W' (hL.blk.step hs (by simp)) (hD.step hs (by simp)) (by omega))
  have HPt := Lib.hid (fun W' (hs : Step [] w W') => put_any base db lb half t sm tv lv wv S W C k a cap d W' (hL.step hs (by simp)) (hD.step hs (by simp)) hap hh ht hsm hR.nil (hR.bytes.step hs (by simp)) hd hroom hW (Nat.le_trans hbase hs.size))
  have HSA := Lib.hid hsA
  have HBA := Lib.hid hbA
  have hfew := hD.few
  have hfl := frame_len sm k d
  obtain ⟨RM, hRM⟩ : ∃ RM, S.length / 2 * 55 - C.length = RM := ⟨_, rfl⟩
  obtain ⟨HB, hHB⟩ : ∃ HB, (headB k d).length = HB := ⟨_, rfl⟩
  rw [hHB] at HSz hfl
  rw [hRM] at HRm
  have p1 : ¬ (RM : Int) < (HB : Int) + 4 := by omega
  obtain ⟨B0, hB0⟩ : ∃ B0, w.heap.size = B0 := ⟨_, rfl⟩
  rw [hB0] at HBA
  have z0 := HBA.out.cell 0
  have z1 := HBA.out.cell 1
  simp only [List.getElem?_toArray, List.getElem?_cons_zero, List.getElem?_cons_succ] at z0 z1
  have HB0 := Lib.hid hB0
  clear hsA hbA hL hD hR hRM hHB hap hfl
  go_enter Try.func11, Try.ntmps11
  go_wp2_with fail
  refine HRi.out.mono ?_
  rintro e w1 ⟨rfl, hs1⟩
  have hb1 := HBA.out.step hs1 (by simp)
  have y0 := hb1.cell 0
  have y1 := hb1.cell 1
  simp only [List.getElem?_toArray, List.getElem?_cons_zero, List.getElem?_cons_succ] at y0 y1
  have HS1 := Lib.hid (HSA.out.then hs1 (by simp))
  have HB1 := Lib.hid hb1
  clear hs1 hb1
  go_wp2_with fail
  refine (HSz.out _ HS1.out).mono ?_
  rintro e w2 ⟨rfl, hs2⟩
  have hb2 := HB1.out.step hs2 (by simp)
  have x0 := hb2.cell 0
  have x1 := hb2.cell 1
  simp only [List.getElem?_toArray, List.getElem?_cons_zero, List.getElem?_cons_succ] at x0 x1
  have HS2 := Lib.hid (HS1.out.then hs2 (by simp))
  clear hs2 hb2
  go_wp2_with fail
  refine (HRm.out _ HS2.out).mono ?_
  rintro e w3 ⟨rfl, n3, rfl⟩
  go_wp2_with fail
  refine (HPt.out _ (HS2.out.drewN n3)).mono ?_
  rintro e w4 ⟨rfl, tv', wv', k1, k2, k3, k4, k5, k6⟩
  have hsz := (HS2.out.drewN n3).size
  have HK := Lib.hid (show ∃ tv' wv', Lg w4 base lb db tv' half t (C ++ frameB sm k d) (moreN sm (headB k d)) ∧ Dsk w4 base db lv wv' S (W ++ putW (S.length / 2) half t C (C ++ frameB sm k d)) false ∧ (∀ x, x ∈ footL lb tv' → x ∉ footD db lv wv') ∧ Step (footL lb tv ++ footD db lv wv) w w4 ∧ Fresh w (foot wv) (foot wv') ∧ (∀ x, x ∈ foot tv' → w.heap.size ≤ x) from
    ⟨tv', wv', k1, k2, k3, ((HS2.out.drewN n3).mono (by simp)).then k4 (fun x hx => .inl hx), fun x hx => (k5 x hx).imp id (fun h => Nat.le_trans hsz h), fun x hx => Nat.le_trans hsz (k6 x hx)⟩)
  clear k1 k2 k3 k4 k5 k6
  go_wp2_with fail
  go_ret
  exact ⟨rfl, HK.out⟩
end Go.Proofs.Ytdmnhkmpfnhmdaa
end

section
namespace Go.Proofs.Ytdmnhkmpfnhmdaa
set_option linter.unusedVariables false
open Go.RowKit

/-- a record as it lies in memory: its kind, its slice, its bytes -/
structure Rr where
  k : UInt8
  a : Option Addr
  c : Nat
  d : List UInt8
def rr0 : Rr := ⟨0, none, 0, []⟩
def Rr.pr (x : Rr) : UInt8 × List UInt8 := (x.k, x.d)
def Rr.sl (x : Rr) : Value := .slice x.a x.d.length x.c
/-- a row of records: cells in pairs, the data apart -/
structure Recs (w : World) (a : Option Addr) (cap : Nat) (l : List Rr) : Prop where
  cells : ∀ i, i < l.length → ∃ b off, a = some ⟨b, off, none⟩ ∧ b < w.heap.size ∧ w.cell? ⟨b, off + i * 2, none⟩ = some (.int .u8 ((l.getD i rr0).k.toNat : Int)) ∧ w.cell? ⟨b, off + i * 2 + 1, none⟩ = some (l.getD i rr0).sl
  room : l.length ≤ cap
  nil : a = none → l.length = 0 ∧ cap = 0
  data : ∀ x ∈ l, RecIn w x.a x.c x.d ∧ (0 < x.d.length → ∀ b off, x.a = some ⟨b, off, none⟩ → b < w.heap.size)
theorem Recs.step {w w' : World} {a : Option Addr} {cap : Nat} {l : List Rr} (h : Recs w a cap l) (hs : Step [] w w') : Recs w' a cap l :=
  ⟨fun i hi => by
    obtain ⟨b, off, ha, hlt, h0, h1⟩ := h.cells i hi
    exact ⟨b, off, ha, Nat.lt_of_lt_of_le hlt hs.size, (hs.cell hlt (by simp)).trans h0, (hs.cell hlt (by simp)).trans h1⟩, h.room, h.nil, fun x hx => by
    obtain ⟨h1, h2⟩ := h.data x hx
    exact ⟨⟨h1.bytes.step hs (by simp), h1.nil, h1.max⟩, fun hq b off hb => Nat.lt_of_lt_of_le (h2 hq b off hb) hs.size⟩⟩
theorem choose_ltR {p : Nat → Rr → Prop} {n : Nat} (h : ∀ i, i < n → ∃ x, p i x) : ∃ f : Nat → Rr, ∀ i, i < n → p i (f i) := by
  classical
  refine ⟨fun i => if hi : i < n then (h i hi).choose else rr0, fun i hi => ?_⟩
  simp only [hi, dite_true]
  exact (h i hi).choose_spec

set_option maxRecDepth 20000 in
open Go.ChangeShapes Go.WideShapes Go.Deep in
theorem open_records {H : Type} {enc : TypeId × Value → H} {w : World} {base : Nat} {v : Value} {d : DataW H} {p : List MemPlace} (ho : Value.okWide Try.prog w .any base 22 v) (h : DataW.Trod enc Try.prog w 0 (fun _ => true) true 22 v d p) :
    ∃ (a : Option Addr) (cap : Nat) (vs : List Rr), v = .slice a vs.length cap ∧ Recs w a cap vs := by
  obtain ⟨a, len, cap, rfl⟩ := okWide_slice Try.underlying22 ho
  obtain ⟨fuel, hf⟩ := h
  rcases open_slice Try.underlying22 hf with ⟨hcs, _⟩ | ⟨x, l, c, m, n, D, Pl, hcs, _, hl, hm, hmm, _, hi⟩
  · simp [Value.cells] at hcs
    obtain ⟨rfl, rfl, rfl⟩ := hcs
    exact ⟨none, 0, [], rfl, fun i hi => by simp at hi, Nat.le_refl _, fun _ => ⟨rfl, rfl⟩, fun x hx => (nomatch hx)⟩
  · simp [Value.cells] at hcs
    obtain ⟨rfl, rfl, rfl⟩ := hcs
    have hmc : m = cap := by simpa using hmm
    subst hmc
    have hce : Try.prog.cellsOf 34 = 2 := by kernel_rfl
    have each : ∀ i, i < len → ∃ q : Rr, w.cell? (x.add (i * 2)) = some (.int .u8 (q.k.toNat : Int)) ∧ w.cell? (x.add (i * 2 + 1)) = some q.sl ∧ RecIn w q.a q.c q.d ∧ (0 < q.d.length → ∀ b off, q.a = some ⟨b, off, none⟩ → b < w.heap.size) := fun i hil => by
      obtain ⟨cs', h1, h2⟩ := hi i (by omega)
      rw [hce] at h1
      obtain ⟨_, hlen, hcell⟩ := World.cells?_some h1
      obtain ⟨xs, k, hk, hxy, _, hxl, hf⟩ := DataW.trod_struct Try.underlying34 h2
      match xs, hxl, cs', hlen with
      | [y0, y1], _, [v0, v1], _ =>
        have g0 := hf 0 _ rfl
        have g1 := hf 1 _ rfl
        have k3 : Try.prog.cellsOf 5 = 1 := by kernel_rfl
        have k5 : Try.prog.cellsOf 32 = 1 := by kernel_rfl
        simp [k3, k5] at g0 g1
        obtain ⟨z0, rfl, hw0⟩ := int_field Try.underlying5 g0
        obtain ⟨k0, rfl⟩ := u8_of z0 hw0
        have e0 := hcell 0 (by omega)
        have e1 := hcell 1 (by omega)
        rw [add_add] at e0 e1
        simp at e0 e1
        have hrow : ∃ (da : Option Addr) (dn dc : Nat) (zs : List Int), v1 = .slice da dn dc ∧ IsRow .u8 w da dn dc zs := by
          rcases open_ints Try.underlying32 Try.underlying5 (by kernel_rfl) g1 with ⟨hcs, _⟩ | ⟨x, l, c, zs, hcs, _, hl, hm, hz, _, hcell, hwz⟩
          · exact ⟨none, 0, 0, [], by simpa using hcs, .inl ⟨rfl, rfl, rfl, rfl⟩⟩
          · exact ⟨some x, l, c, zs, by simpa using hcs, .inr ⟨_, rfl, hl, hm, by simpa using hz, hcell, hwz⟩⟩
        obtain ⟨da, dn, dc, zs, rfl, hr⟩ := hrow
        obtain ⟨bs, hbl, hmx, hb, hbn, _, _⟩ := hr.bytes
        subst hbl
        refine ⟨⟨k0, da, dc, bs⟩, e0, e1, ⟨hb, hbn, hmx⟩, fun hq b off hda => ?_⟩
        simp only at hq hda
        obtain ⟨b2, off2, hb2, hlt, _⟩ := hb 0 (by omega)
        rw [hda] at hb2
        cases hb2
        exact hlt
    obtain ⟨q, hq⟩ := choose_ltR each
    refine ⟨some x, m, (List.range len).map q, by simp, fun i hil => ?_, by simpa using hl, fun h => (by cases h), fun y hy => ?_⟩
    · have hil' : i < len := by simpa using hil
      obtain ⟨h0, h1, _⟩ := hq i hil'
      obtain ⟨b, off, spot⟩ := x
      have hspot : spot = none := by simpa [Addr.add] using World.cell?_spot (hq 0 (by omega)).1
      subst hspot
      rw [Go.Proofs.Ytdmnhkmpfnhmdaa.add_plain] at h0 h1
      have hg : ((List.range len).map q).getD i rr0 = q i := by simp [List.getD, hil']
      rw [hg]
      exact ⟨b, off, rfl, World.block_lt_of_cell? w _ h0, h0, by rw [Nat.add_assoc]; exact h1⟩
    · obtain ⟨i, hil, rfl⟩ := List.mem_map.1 hy
      exact (hq i (by simpa using hil)).2.2
end Go.Proofs.Ytdmnhkmpfnhmdaa
end

section
namespace Go.Proofs.Ytdmnhkmpfnhmdaa
set_option linter.unusedVariables false
open Go.RowKit

theorem Try.infoR : (Try.prog.info? 34).map (fun i => (i.zero, i.size, i.bytes)) = some (some (.agg #[.int .u8 0, .slice none 0 0]), 2, 32) := by kernel_rfl
/-- the cells of a row of records -/
def rowR (l : List Rr) : List Value := l.flatMap fun x => [.int .u8 (x.k.toNat : Int), x.sl]
theorem rowR_len : ∀ (l : List Rr), (rowR l).length = l.length * 2
  | [] => rfl
  | x :: r => by
    have h := rowR_len r
    simp only [rowR, List.flatMap_cons, List.length_append, List.length_cons, List.length_nil] at h ⊢
    omega
theorem rowR_get : ∀ (l : List Rr) (i : Nat), i < l.length → (rowR l)[i * 2]? = some (.int .u8 ((l.getD i rr0).k.toNat : Int)) ∧ (rowR l)[i * 2 + 1]? = some (l.getD i rr0).sl
  | [], i, h => by simp at h
  | x :: r, 0, h => ⟨rfl, rfl⟩
  | x :: r, i + 1, h => by
    have h1 := rowR_get r i (by simpa using h)
    have e : rowR (x :: r) = .int .u8 (x.k.toNat : Int) :: x.sl :: rowR r := rfl
    rw [e, show (i + 1) * 2 = i * 2 + 1 + 1 by omega, List.getElem?_cons_succ, List.getElem?_cons_succ]
    refine ⟨h1.1, ?_⟩
    rw [show i * 2 + 1 + 1 + 1 = (i * 2 + 1) + 1 + 1 by omega, List.getElem?_cons_succ, List.getElem?_cons_succ]
    exact h1.2
theorem rowR_one (l : List Rr) : ∀ u ∈ rowR l, u.oneCell' = true := by
  intro u hu
  simp only [rowR, List.mem_flatMap] at hu
  obtain ⟨x, _, hx⟩ := hu
  simp at hx
  rcases hx with rfl | rfl
  · rfl
  · rfl

/-- a row of records that came in, as one that append reads -/
theorem Recs.row {w : World} {a : Option Addr} {cap : Nat} {l : List Rr} (h : Recs w a cap l) (hb : ∀ b, a = some b → b.block < w.heap.size ∧ b.spot = none) (base : Nat) : RowOr w base 34 2 (.slice a l.length l.length) l.length (rowR l) := by
  refine .inr ⟨a, rfl, fun h0 => (h.nil h0).1, rowR_len l, fun b he => ⟨(hb b he).1, fun j u hu => ?_⟩⟩
  have hj : j < l.length * 2 := by
    rw [← rowR_len l]
    rcases Nat.lt_or_ge j (rowR l).length with h1 | h1
    · exact h1
    · rw [List.getElem?_eq_none h1] at hu
      cases hu
  obtain ⟨b', off, ha, hlt, c0, c1⟩ := h.cells (j / 2) (by omega)
  rw [he] at ha
  cases ha
  have hg := rowR_get l (j / 2) (by omega)
  rw [add_plain]
  rcases Nat.mod_two_eq_zero_or_one j with hm | hm
  · have e : j / 2 * 2 = j := by omega
    rw [e] at c0 hg
    rw [hg.1] at hu
    cases hu
    exact c0
  · have e : j / 2 * 2 + 1 = j := by omega
    rw [e] at hg
    rw [hg.2] at hu
    cases hu
    rw [Nat.add_assoc, e] at c1
    exact c1
end Go.Proofs.Ytdmnhkmpfnhmdaa
end

section
namespace Go.Proofs.Ytdmnhkmpfnhmdaa
set_option linter.unusedVariables false
open Go.RowKit

/-- a slice whose room ends where it ends, whatever its elements -/
theorem clip_any {P : Program} (a : Option Addr) (n cap : Nat) (hc : n ≤ cap) (hs : ∀ ad, a = some ad → ad.spot = none) (t e : TypeId) (ht : P.underlying t = some (.slice e)) (sz : Nat) (hz : ∀ w, (Go.sizeOf e).run P w = .ok sz w) (W : World) :
    (Instr.slice t (.slice a n cap) none (some (.int .i64 (n : Int))) (some (.int .i64 (n : Int)))).run P W = .ok (.slice a n n) W := by
  have ht' : P.underlying t = some (.slice (P.elem t)) := by simp [Program.elem, ht]
  have he : P.elem t = e := by simp [Program.elem, ht]
  rw [run_slice_hm W t _ _ _ ht' .i64 .i64 _ _ (by omega) (by omega) (by omega), he, hz]
  simp only [Result.andThen, sliced, Nat.zero_mul, Int.toNat_natCast, Nat.sub_zero]
  cases a with
  | none => simp
  | some ad =>
    obtain ⟨b, off, sp⟩ := ad
    have hsp := hs _ rfl
    simp only at hsp
    subst hsp
    simp [add_plain]
theorem Try.sizeR : ∀ w, (Go.sizeOf 34).run Try.prog w = .ok 2 w := fun w => by
  obtain ⟨i0, hi, hz0, hz1, hz2⟩ := info_parts Try.infoR
  have h1 : Try.prog.cellsOf 34 = 2 := by kernel_rfl
  rw [run_sizeOf _ hi, h1]
end Go.Proofs.Ytdmnhkmpfnhmdaa
end

section
namespace Go.Proofs.Ytdmnhkmpfnhmdaa
set_option linter.unusedVariables false
open Go.RowKit

theorem nextR_ok {s : Nat} {l : List UInt8} {k : UInt8} {d : List UInt8} {n t : Nat} (h : nextR s l = .ok k d n t) : 0 < n ∧ n ≤ l.length ∧ t < 2 ^ 32 := by
  unfold nextR at h
  split at h
  · cases h
  · split at h
    · cases h
    · simp only at h
      split at h
      · cases h
      · split at h
        · cases h
        · split at h
          · next h1 h2 h3 h4 h5 =>
            simp only [Nx.ok.injEq] at h
            obtain ⟨-, -, rfl, rfl⟩ := h
            have := countR_rest 1024 (l.drop 2)
            rw [List.length_drop] at this
            exact ⟨by omega, by omega, moreN_lt _ _⟩
          · cases h
theorem nextR_bad {s : Nat} {l : List UInt8} {e : Int} (h : nextR s l = .bad e) : e ≠ 0 := by
  unfold nextR at h
  split at h
  · cases h; decide
  · split at h
    · cases h; decide
    · simp only at h
      split at h
      · next h1 => cases h; exact h1
      · split at h
        · cases h; decide
        · split at h
          · cases h
          · cases h; decide
theorem goodF_more : ∀ (f g s : Nat) (l : List UInt8), l.length < f → l.length < g → goodF f s l = goodF g s l := by
  intro f
  induction f with
  | zero => intro g s l h; omega
  | succ f ih =>
    intro g s l h hg
    obtain ⟨g, rfl⟩ : ∃ k, g = k + 1 := ⟨g - 1, by omega⟩
    unfold goodF
    cases hn : nextR s l with
    | bad e => rfl
    | ok k d n t =>
      obtain ⟨h0, h1, -⟩ := nextR_ok hn
      have hd : (l.drop n).length < l.length := by rw [List.length_drop]; omega
      simp only
      rw [ih g t (l.drop n) (by omega) (by omega)]
/-- Good: how many bytes the chain has, and the last sum -/
def goodR (s : Nat) (l : List UInt8) : Nat × Nat := goodF (l.length + 1) s l
theorem goodR_bad {s : Nat} {l : List UInt8} {e : Int} (h : nextR s l = .bad e) : goodR s l = (0, s) := by
  unfold goodR goodF
  rw [h]
theorem goodR_ok {s : Nat} {l : List UInt8} {k : UInt8} {d : List UInt8} {n t : Nat} (h : nextR s l = .ok k d n t) : goodR s l = ((goodR t (l.drop n)).1 + n, (goodR t (l.drop n)).2) := by
  have h2 : goodR s l = ((goodF l.length t (l.drop n)).1 + n, (goodF l.length t (l.drop n)).2) := by
    unfold goodR
    rw [goodF]
    rw [h]
  obtain ⟨h0, h1, -⟩ := nextR_ok h
  rw [h2, goodF_more l.length ((l.drop n).length + 1) t (l.drop n) (by rw [List.length_drop]; omega) (by omega)]
  rfl

end Go.Proofs.Ytdmnhkmpfnhmdaa
end

section
namespace Go.Proofs.Ytdmnhkmpfnhmdaa
set_option linter.unusedVariables false
open Go.RowKit

/-- what Scan tells: where, the kind, the data -/
def scanF : Nat → Nat → Nat → List UInt8 → List (Nat × UInt8 × List UInt8)
  | 0, _, _, _ => []
  | f + 1, p, s, l => match nextR s l with
    | .bad _ => []
    | .ok k d n t => (p, k, d) :: scanF f (p + n) t (l.drop n)
theorem scanF_more : ∀ (f g p s : Nat) (l : List UInt8), l.length < f → l.length < g → scanF f p s l = scanF g p s l := by
  intro f
  induction f with
  | zero => intro g p s l h; omega
  | succ f ih =>
    intro g p s l h hg
    obtain ⟨g, rfl⟩ : ∃ k, g = k + 1 := ⟨g - 1, by omega⟩
    unfold scanF
    cases hn : nextR s l with
    | bad e => rfl
    | ok k d n t =>
      obtain ⟨h0, h1, -⟩ := nextR_ok hn
      have hd : (l.drop n).length < l.length := by rw [List.length_drop]; omega
      simp only
      rw [ih g (p + n) t (l.drop n) (by omega) (by omega)]
def scanR (p s : Nat) (l : List UInt8) : List (Nat × UInt8 × List UInt8) := scanF (l.length + 1) p s l
theorem scanR_bad {p s : Nat} {l : List UInt8} {e : Int} (h : nextR s l = .bad e) : scanR p s l = [] := by
  unfold scanR scanF
  rw [h]
theorem scanR_ok {p s : Nat} {l : List UInt8} {k : UInt8} {d : List UInt8} {n t : Nat} (h : nextR s l = .ok k d n t) : scanR p s l = (p, k, d) :: scanR (p + n) t (l.drop n) := by
  have h2 : scanR p s l = (p, k, d) :: scanF l.length (p + n) t (l.drop n) := by
    unfold scanR
    rw [scanF]
    rw [h]
  obtain ⟨h0, h1, -⟩ := nextR_ok h
  rw [h2, scanF_more l.length ((l.drop n).length + 1) (p + n) t (l.drop n) (by rw [List.length_drop]; omega) (by omega)]
  rfl
theorem scanR_cases (p s : Nat) (l : List UInt8) : (∃ e, nextR s l = .bad e ∧ scanR p s l = [] ∧ goodR s l = (0, s)) ∨ (∃ k d n t, nextR s l = .ok k d n t ∧ scanR p s l = (p, k, d) :: scanR (p + n) t (l.drop n) ∧ goodR s l = ((goodR t (l.drop n)).1 + n, (goodR t (l.drop n)).2)) := by
  cases h : nextR s l with
  | bad e => exact .inl ⟨e, rfl, scanR_bad h, goodR_bad h⟩
  | ok k d n t => exact .inr ⟨k, d, n, t, rfl, scanR_ok h, goodR_ok h⟩

/-- the data told are short -/
theorem nextR_data {s : Nat} {l : List UInt8} {k : UInt8} {d : List UInt8} {n t : Nat} (h : nextR s l = .ok k d n t) : d.length ≤ 1024 := by
  unfold nextR at h
  split at h
  · cases h
  · split at h
    · cases h
    · simp only at h
      split at h
      · cases h
      · split at h
        · cases h
        · split at h
          · simp only [Nx.ok.injEq] at h
            obtain ⟨-, rfl, -, -⟩ := h
            have := countR_most 1024 (numR (l.drop 2) 0)
            rw [List.length_take]
            omega
          · cases h

/-! chains -/
def chainB : Nat → List (UInt8 × List UInt8) → List UInt8
  | _, [] => []
  | s, r :: rs => frameB s r.1 r.2 ++ chainB (moreN s (headB r.1 r.2)) rs
def chainS : Nat → List (UInt8 × List UInt8) → Nat
  | s, [] => s
  | s, r :: rs => chainS (moreN s (headB r.1 r.2)) rs
theorem chainB_app : ∀ (a b : List (UInt8 × List UInt8)) (s : Nat), chainB s (a ++ b) = chainB s a ++ chainB (chainS s a) b
  | [], b, s => rfl
  | r :: a, b, s => by
    show frameB s r.1 r.2 ++ chainB _ (a ++ b) = _
    rw [chainB_app a b]
    show _ = (frameB s r.1 r.2 ++ chainB _ a) ++ _
    rw [List.append_assoc]
    rfl
theorem chainS_app : ∀ (a b : List (UInt8 × List UInt8)) (s : Nat), chainS s (a ++ b) = chainS (chainS s a) b
  | [], b, s => rfl
  | r :: a, b, s => chainS_app a b _
theorem chainS_lt : ∀ (a : List (UInt8 × List UInt8)) (s : Nat), s < 2 ^ 32 → chainS s a < 2 ^ 32
  | [], s, h => h
  | r :: a, s, h => chainS_lt a _ (moreN_lt _ _)
theorem chainB_take {s : Nat} {rs : List (UInt8 × List UInt8)} {i : Nat} (h : i < rs.length) : chainB s (rs.take (i + 1)) = chainB s (rs.take i) ++ frameB (chainS s (rs.take i)) (rs.getD i (0, [])).1 (rs.getD i (0, [])).2 := by
  rw [List.take_succ_eq_append_getElem h, chainB_app]
  simp [chainB, List.getD, h]
theorem chainS_take {s : Nat} {rs : List (UInt8 × List UInt8)} {i : Nat} (h : i < rs.length) : chainS s (rs.take (i + 1)) = moreN (chainS s (rs.take i)) (headB (rs.getD i (0, [])).1 (rs.getD i (0, [])).2) := by
  rw [List.take_succ_eq_append_getElem h, chainS_app]
  simp [chainS, List.getD, h]
theorem chainB_le : ∀ (rs : List (UInt8 × List UInt8)) (s m : Nat), (∀ r ∈ rs, r.2.length ≤ m) → (chainB s rs).length ≤ rs.length * (16 + m)
  | [], s, m, _ => Nat.zero_le _
  | r :: rs, s, m, h => by
    have h1 := chainB_le rs (moreN s (headB r.1 r.2)) m (fun x hx => h x (List.mem_cons_of_mem _ hx))
    have h2 := h r List.mem_cons_self
    have h3 := frameB_len s r.1 r.2
    have h4 := numB_len r.2.length
    show (frameB s r.1 r.2 ++ chainB _ rs).length ≤ (rs.length + 1) * (16 + m)
    rw [List.length_append, Nat.add_mul]
    omega
/-- where the records of a chain begin, and they -/
def chainE : Nat → Nat → List (UInt8 × List UInt8) → List (Nat × UInt8 × List UInt8)
  | _, _, [] => []
  | p, s, r :: rs => (p, r) :: chainE (p + (frameB s r.1 r.2).length) (moreN s (headB r.1 r.2)) rs
theorem chainE_len : ∀ (rs : List (UInt8 × List UInt8)) (p s : Nat), (chainE p s rs).length = rs.length
  | [], _, _ => rfl
  | r :: rs, p, s => by
    show (chainE _ _ rs).length + 1 = rs.length + 1
    rw [chainE_len rs]
theorem chainE_at : ∀ (rs : List (UInt8 × List UInt8)) (p s i : Nat), i < rs.length → (chainE p s rs)[i]? = some (p + (chainB s (rs.take i)).length, rs.getD i (0, []))
  | [], _, _, i, h => by simp at h
  | r :: rs, p, s, 0, h => by simp [chainE, chainB]
  | r :: rs, p, s, i + 1, h => by
    have := chainE_at rs (p + (frameB s r.1 r.2).length) (moreN s (headB r.1 r.2)) i (by simpa using h)
    simp only [chainE, List.getElem?_cons_succ, this, List.take_succ_cons, chainB, List.length_append, List.getD_cons_succ, Nat.add_assoc]
theorem scan_chain : ∀ (rs : List (UInt8 × List UInt8)) (p s : Nat) (rest : List UInt8), (∀ r ∈ rs, r.2.length ≤ 1024) →
    scanR p s (chainB s rs ++ rest) = chainE p s rs ++ scanR (p + (chainB s rs).length) (chainS s rs) rest ∧ goodR s (chainB s rs ++ rest) = ((goodR (chainS s rs) rest).1 + (chainB s rs).length, (goodR (chainS s rs) rest).2)
  | [], p, s, rest, h => ⟨rfl, rfl⟩
  | r :: rs, p, s, rest, h => by
    have hn := nextR_good s r.1 r.2 (chainB (moreN s (headB r.1 r.2)) rs ++ rest) (h r List.mem_cons_self)
    obtain ⟨h1, h2⟩ := scan_chain rs (p + (frameB s r.1 r.2).length) (moreN s (headB r.1 r.2)) rest (fun x hx => h x (List.mem_cons_of_mem _ hx))
    have e1 := scanR_ok (p := p) hn
    have e2 := goodR_ok hn
    rw [List.drop_left] at e1 e2
    show scanR p s ((frameB s r.1 r.2 ++ chainB _ rs) ++ rest) = (p, r) :: chainE _ _ rs ++ scanR (p + (frameB s r.1 r.2 ++ chainB _ rs).length) (chainS _ rs) rest ∧ goodR s ((frameB s r.1 r.2 ++ chainB _ rs) ++ rest) = ((goodR (chainS _ rs) rest).1 + (frameB s r.1 r.2 ++ chainB _ rs).length, (goodR (chainS _ rs) rest).2)
    rw [List.append_assoc, e1, e2, h1, h2]
    refine ⟨?_, ?_⟩
    · rw [List.cons_append, List.length_append, Nat.add_assoc]
    · rw [List.length_append]
      simp only [Prod.mk.injEq, and_true]
      omega

/-! a cut -/
theorem count_app {most : Nat} {l m : List UInt8} {x : Nat} (h : countR most (numR l 0) = (x, m, 0)) (rest : List UInt8) : numR (l ++ rest) 0 = (x, m ++ rest, 0) := by
  have hb := countR_back h
  have hx : x < M64 := by
    have h2 : numR l 0 = (x, m, 0) := by
      unfold countR at h
      split at h
      · obtain ⟨y, n, e⟩ := numR l 0
        simp only [Prod.mk.injEq] at h
        split at h
        · exact absurd h.2.2 (by decide)
        · next hne => exact absurd h.2.2 hne
      · exact h
    exact (numR_back h2).2
  rw [hb, List.append_assoc]
  exact numR_ok x (m ++ rest) hx

theorem next_cut (s : Nat) (k : UInt8) (d : List UInt8) (j : Nat) (hd : d.length ≤ 1024) (hj : j < (frameB s k d).length) : ∃ e, nextR s ((frameB s k d).take j) = .bad e := by
  cases hn : nextR s ((frameB s k d).take j) with
  | bad e => exact ⟨e, rfl⟩
  | ok k2 d2 n t =>
    exfalso
    have hl : frameB s k d = 197 :: k :: (numB d.length ++ (d ++ leN 4 (moreN s (headB k d)))) := by simp [frameB, headB]
    have hfl := frameB_len s k d
    have hln := numB_len d.length
    have hlen : ((frameB s k d).take j).length = j := by rw [List.length_take]; omega
    unfold nextR at hn
    rw [hlen] at hn
    split at hn
    · cases hn
    · split at hn
      · cases hn
      · next h2 =>
        simp only at hn
        split at hn
        · cases hn
        · next h3 =>
          split at hn
          · cases hn
          · next h4 =>
            obtain ⟨⟨x, m, e⟩, hc⟩ : ∃ q, countR 1024 (numR (((frameB s k d).take j).drop 2) 0) = q := ⟨_, rfl⟩
            rw [hc] at h3 h4
            simp only at h3 h4
            have h3' : e = 0 := Decidable.not_not.1 h3
            subst h3'
            have ha := count_app hc ((frameB s k d).drop j)
            have hs : ((frameB s k d).take j).drop 2 ++ (frameB s k d).drop j = (frameB s k d).drop 2 := by
              conv => rhs; rw [← List.take_append_drop j (frameB s k d)]
              rw [List.drop_append_of_le_length (by omega)]
            rw [hs] at ha
            have hd2 : (frameB s k d).drop 2 = numB d.length ++ (d ++ leN 4 (moreN s (headB k d))) := by rw [hl]; rfl
            rw [hd2, numR_ok d.length _ (by unfold M64; omega)] at ha
            simp only [Prod.mk.injEq, and_true] at ha
            obtain ⟨h5, h6⟩ := ha
            have h7 := congrArg List.length h6
            rw [List.length_append, List.length_append, leN4_len, List.length_drop] at h7
            omega

theorem scan_cut : ∀ (rs : List (UInt8 × List UInt8)) (p s c : Nat), (∀ r ∈ rs, r.2.length ≤ 1024) → (scanR p s ((chainB s rs).take c)).length ≤ rs.length ∧ ∀ i, i < rs.length → (i < (scanR p s ((chainB s rs).take c)).length ↔ (chainB s (rs.take (i + 1))).length ≤ c)
  | [], p, s, c, h => by
    refine ⟨?_, fun i hi => by simp at hi⟩
    show (scanR p s (List.take c [])).length ≤ 0
    rw [List.take_nil, scanR_bad (nextR_nil s)]
    exact Nat.le_refl _
  | r :: rs, p, s, c, h => by
    have hb : chainB s (r :: rs) = frameB s r.1 r.2 ++ chainB (moreN s (headB r.1 r.2)) rs := rfl
    have hbt : ∀ i, (chainB s ((r :: rs).take (i + 1))).length = (frameB s r.1 r.2).length + (chainB (moreN s (headB r.1 r.2)) (rs.take i)).length := fun i => by
      rw [List.take_succ_cons]
      show (frameB s r.1 r.2 ++ chainB _ _).length = _
      rw [List.length_append]
    by_cases hc : (frameB s r.1 r.2).length ≤ c
    · have ht : (chainB s (r :: rs)).take c = frameB s r.1 r.2 ++ (chainB (moreN s (headB r.1 r.2)) rs).take (c - (frameB s r.1 r.2).length) := by
        rw [hb, List.take_append, List.take_of_length_le hc]
      have hn := nextR_good s r.1 r.2 ((chainB (moreN s (headB r.1 r.2)) rs).take (c - (frameB s r.1 r.2).length)) (h r List.mem_cons_self)
      have e1 := scanR_ok (p := p) hn
      rw [List.drop_left] at e1
      obtain ⟨h1, h2⟩ := scan_cut rs (p + (frameB s r.1 r.2).length) (moreN s (headB r.1 r.2)) (c - (frameB s r.1 r.2).length) (fun x hx => h x (List.mem_cons_of_mem _ hx))
      rw [ht, e1]
      refine ⟨by simp only [List.length_cons]; omega, fun i hi => ?_⟩
      rw [hbt]
      cases i with
      | zero =>
        simp only [List.length_cons, List.take_zero, chainB, List.length_nil]
        omega
      | succ i =>
        have := h2 i (by simpa using hi)
        simp only [List.length_cons]
        omega
    · have ht : (chainB s (r :: rs)).take c = (frameB s r.1 r.2).take c := by
        rw [hb, List.take_append_of_le_length (by omega)]
      obtain ⟨e, he⟩ := next_cut s r.1 r.2 c (h r List.mem_cons_self) (by omega)
      rw [ht, scanR_bad he]
      refine ⟨Nat.zero_le _, fun i hi => ?_⟩
      rw [hbt]
      simp only [List.length_nil]
      omega

/-! a turned byte -/
theorem nextR_four (s : Nat) (k : UInt8) (d q rest : List UInt8) (hd : d.length ≤ 1024) (hq : q.length = 4) :
    nextR s (headB k d ++ (q ++ rest)) = if leN 4 (moreN s (headB k d)) = q then .ok k d ((headB k d).length + 4) (moreN s (headB k d)) else .bad 5 := by
  have hl : headB k d ++ (q ++ rest) = 197 :: k :: (numB d.length ++ (d ++ (q ++ rest))) := by simp [headB]
  have hn := numR_ok d.length (d ++ (q ++ rest)) (by unfold M64; omega)
  have h1 := headB_len k d
  have hlen : (headB k d ++ (q ++ rest)).length = (headB k d).length + (4 + rest.length) := by rw [List.length_append, List.length_append, hq]
  unfold nextR
  rw [if_neg (by rw [hl]; simp), if_neg (by rw [hlen]; omega)]
  have hdrop : (headB k d ++ (q ++ rest)).drop 2 = numB d.length ++ (d ++ (q ++ rest)) := by rw [hl]; rfl
  rw [hdrop, hn]
  have hc : countR 1024 (d.length, d ++ (q ++ rest), 0) = (d.length, d ++ (q ++ rest), 0) := by
    unfold countR
    rw [if_neg (by simp; omega)]
  rw [hc]
  have hm : (headB k d ++ (q ++ rest)).length - (d ++ (q ++ rest)).length + d.length = (headB k d).length := by
    rw [hlen, List.length_append, List.length_append, hq]; omega
  simp only
  rw [if_neg (by simp), if_neg (by rw [List.length_append, List.length_append, hq]; omega), hm, List.take_left, List.drop_left, List.take_left' hq, List.take_left]
  have hk : (headB k d ++ (q ++ rest)).getD 1 0 = k := by rw [hl]; rfl
  rw [hk]
theorem moreN_one {s : Nat} {a b : List UInt8} {x y : UInt8} (h : moreN s (a ++ x :: b) = moreN s (a ++ y :: b)) : x = y := by
  unfold moreN at h
  have hz : 4294967295 - s < 2 ^ 32 := by omega
  have h1 := runN_lt (a ++ x :: b) hz
  have h2 := runN_lt (a ++ y :: b) hz
  have h3 : runN (4294967295 - s) (a ++ x :: b) = runN (4294967295 - s) (a ++ y :: b) := by omega
  rw [runN_app, runN_app] at h3
  have hr := runN_lt a hz
  have hx := x.toNat_lt
  have hy := y.toNat_lt
  have h4 := runN_inj b (stepN_lt hr hx) (stepN_lt hr hy) h3
  have h5 := advN_inj 8 (Nat.xor_lt_two_pow hr (by omega : x.toNat < 2 ^ 32)) (Nat.xor_lt_two_pow hr (by omega : y.toNat < 2 ^ 32)) h4
  have h6 : (runN (4294967295 - s) a) ^^^ ((runN (4294967295 - s) a) ^^^ x.toNat) = (runN (4294967295 - s) a) ^^^ ((runN (4294967295 - s) a) ^^^ y.toNat) := by rw [h5]
  rw [← Nat.xor_assoc, ← Nat.xor_assoc, Nat.xor_self, Nat.zero_xor, Nat.zero_xor] at h6
  exact UInt8.toNat_inj.1 h6
theorem set_split {l : List UInt8} {t : Nat} (h : t < l.length) (x : UInt8) : l.set t x = l.take t ++ x :: l.drop (t + 1) := List.set_eq_take_append_cons_drop.trans (if_pos h)
theorem self_split {l : List UInt8} {t : Nat} (h : t < l.length) : l = l.take t ++ l.getD t 0 :: l.drop (t + 1) := by
  conv => lhs; rw [← List.take_append_drop t l, List.drop_eq_getElem_cons h]
  simp [List.getD, h]
theorem moreN_set {s : Nat} {l : List UInt8} {t : Nat} (h : t < l.length) {x : UInt8} (hx : x ≠ l.getD t 0) : moreN s (l.set t x) ≠ moreN s l := by
  intro h2
  rw [set_split h] at h2
  conv at h2 => rhs; rw [self_split h]
  exact hx (moreN_one h2)
theorem getD_set_app {l r : List UInt8} {t : Nat} (h : t < l.length) : (l ++ r).getD t 0 = l.getD t 0 := by
  simp [List.getD, h, List.getElem?_append_left h]

theorem next_turned (s : Nat) (k : UInt8) (d rest : List UInt8) (t : Nat) (x : UInt8) (hd : d.length ≤ 1024) (ht : t < (frameB s k d).length) (hn : t < 2 ∨ 2 + (numB d.length).length ≤ t) (hx : x ≠ (frameB s k d).getD t 0) :
    ∃ e, nextR s ((frameB s k d).set t x ++ rest) = .bad e := by
  have hfl := frameB_len s k d
  have hhl := headB_len k d
  have hln := numB_len d.length
  by_cases h0 : t = 0
  · subst h0
    have hf : frameB s k d = 197 :: (frameB s k d).drop 1 := by simp [frameB, headB]
    have hx2 : x ≠ 197 := by
      rw [hf] at hx
      simpa using hx
    refine ⟨2, ?_⟩
    rw [hf, List.set_cons_zero]
    unfold nextR
    rw [if_pos ⟨by simp, by simpa using hx2⟩]
  by_cases hh : t < (headB k d).length
  · -- a byte of the head
    have hset : (frameB s k d).set t x ++ rest = (headB k d).set t x ++ (leN 4 (moreN s (headB k d)) ++ rest) := by
      unfold frameB
      rw [List.set_append_left _ _ hh, List.append_assoc]
    have hx2 : x ≠ (headB k d).getD t 0 := by
      intro h; apply hx
      unfold frameB
      rw [getD_set_app hh]
      exact h
    have hne := moreN_set (s := s) hh hx2
    obtain ⟨k2, d2, hd2, hs2⟩ : ∃ k2 d2, d2.length = d.length ∧ (headB k d).set t x = headB k2 d2 := by
      by_cases h1 : t = 1
      · subst h1
        exact ⟨x, d, rfl, by simp [headB]⟩
      · refine ⟨k, d.set (t - (2 + (numB d.length).length)) x, by simp, ?_⟩
        obtain ⟨i, rfl⟩ : ∃ i, t = 2 + (numB d.length).length + i := ⟨t - (2 + (numB d.length).length), by omega⟩
        have : 2 + (numB d.length).length + i = (numB d.length).length + i + 1 + 1 := by omega
        unfold headB
        rw [List.length_set, Nat.add_sub_cancel_left, this, List.set_cons_succ, List.set_cons_succ, List.set_append_right _ _ (by omega), Nat.add_sub_cancel_left]
    refine ⟨5, ?_⟩
    rw [hset, hs2, nextR_frame _ _ _ _ _ (by omega), if_neg]
    rw [← hs2]
    intro h
    exact hne (leN4_inj (moreN_lt _ _) (moreN_lt _ _) h)
  · -- a byte of the sum
    have hset : (frameB s k d).set t x ++ rest = headB k d ++ ((leN 4 (moreN s (headB k d))).set (t - (headB k d).length) x ++ rest) := by
      unfold frameB
      rw [List.set_append_right _ _ (by omega), List.append_assoc]
    refine ⟨5, ?_⟩
    rw [hset, nextR_four _ _ _ _ _ hd (by rw [List.length_set, leN4_len]), if_neg]
    intro h
    have hi : t - (headB k d).length < 4 := by omega
    have h2 : (leN 4 (moreN s (headB k d))).getD (t - (headB k d).length) 0 = ((leN 4 (moreN s (headB k d))).set (t - (headB k d).length) x).getD (t - (headB k d).length) 0 := by rw [← h]
    apply hx
    have h3 : (frameB s k d).getD t 0 = (leN 4 (moreN s (headB k d))).getD (t - (headB k d).length) 0 := by
      unfold frameB
      simp only [List.getD]
      rw [List.getElem?_append_right (by omega)]
    rw [h3, h2]
    simp [List.getD, leN4_len, hi]

theorem good_turned : ∀ (rs : List (UInt8 × List UInt8)) (s t : Nat) (x : UInt8), (∀ r ∈ rs, r.2.length ≤ 1024) → t < (chainB s rs).length → x ≠ (chainB s rs).getD t 0 →
    (∀ i, i < rs.length → ¬ ((chainB s (rs.take i)).length + 2 ≤ t ∧ t < (chainB s (rs.take i)).length + 2 + (numB (rs.getD i (0, [])).2.length).length)) → (goodR s ((chainB s rs).set t x)).1 ≤ t
  | [], s, t, x, h, ht, hx, hn => by simp [chainB] at ht
  | r :: rs, s, t, x, h, ht, hx, hn => by
    have hb : chainB s (r :: rs) = frameB s r.1 r.2 ++ chainB (moreN s (headB r.1 r.2)) rs := rfl
    rw [hb] at ht hx ⊢
    rw [List.length_append] at ht
    by_cases hf : t < (frameB s r.1 r.2).length
    · have h0 := hn 0 (by simp)
      simp only [List.take_zero, chainB, List.length_nil, List.getD_cons_zero] at h0
      rw [getD_set_app hf] at hx
      obtain ⟨e, he⟩ := next_turned s r.1 r.2 (chainB (moreN s (headB r.1 r.2)) rs) t x (h r List.mem_cons_self) hf (by omega) hx
      rw [List.set_append_left _ _ hf, goodR_bad he]
      exact Nat.zero_le _
    · have hg := nextR_good s r.1 r.2 ((chainB (moreN s (headB r.1 r.2)) rs).set (t - (frameB s r.1 r.2).length) x) (h r List.mem_cons_self)
      have e1 := goodR_ok hg
      rw [List.drop_left] at e1
      rw [List.set_append_right _ _ (by omega), e1]
      have ih := good_turned rs (moreN s (headB r.1 r.2)) (t - (frameB s r.1 r.2).length) x (fun y hy => h y (List.mem_cons_of_mem _ hy)) (by omega)
        (by
          have h3 : (frameB s r.1 r.2 ++ chainB (moreN s (headB r.1 r.2)) rs).getD t 0 = (chainB (moreN s (headB r.1 r.2)) rs).getD (t - (frameB s r.1 r.2).length) 0 := by
            simp only [List.getD]
            rw [List.getElem?_append_right (by omega)]
          rw [← h3]
          exact hx)
        (fun i hi => by
          have h4 := hn (i + 1) (by simpa using hi)
          rw [List.take_succ_cons, List.getD_cons_succ] at h4
          have h5 : (chainB s (r :: rs.take i)).length = (frameB s r.1 r.2).length + (chainB (moreN s (headB r.1 r.2)) (rs.take i)).length := by
            show (frameB s r.1 r.2 ++ chainB _ _).length = _
            rw [List.length_append]
          rw [h5] at h4
          omega)
      simp only
      omega
end Go.Proofs.Ytdmnhkmpfnhmdaa
end

section
namespace Go.Proofs.Ytdmnhkmpfnhmdaa
set_option linter.unusedVariables false
open Go.RowKit

/-- append to a row without room, that is only read -/
theorem wpList_append_clip {P : Program} {ops : Array Oper} {o : Oper} {rest : List Oper} {a : Act} {w : World} {Q : Exit → Act → World → Prop}
    (hg : o.guard = none) (s x : Operand) (t : TypeId) (hop : o.op = Op.call { callee := Callee.builtin Builtin.append, args := #[s, x], argTypes := #[t, t] })
    (base : Nat) (e : TypeId) (i : TypeInfo) (z : Value) (size bytes : Nat) (h1 : P.underlying t = some (.slice e)) (h2 : P.info? e = some i) (h3 : i.zero = some z) (h4 : i.size = size) (h5 : i.bytes = bytes) (h6 : z.cells.size = size) (h7 : 0 < size)
    (ao : Option Addr) (n : Nat) (xs : List Value) (hs : a.eval s = .slice ao n n) (h0 : ao = none → n = 0) (hl : xs.length = n * size) (hcells : ∀ b, ao = some b → ∀ j u, xs[j]? = some u → w.cell? (b.add j) = some u)
    (ad : Addr) (m c : Nat) (news : List Value) (hx : a.eval x = .slice (some ad) m c) (hm : 0 < m) (hn : news.length = m * size) (hc : ∀ j u, news[j]? = some u → w.cell? (ad.add j) = some u) (h1c : ∀ u ∈ news, u.oneCell' = true)
    (b1 : n + m ≤ maxLen) (b2 : (n + m) * bytes ≤ 140737488355328)
    (hK : ∀ g c' w', w'.ownsRow w.heap.size e size (.slice (some ⟨g, 0, none⟩) (n + m) c') (n + m) (xs ++ news) → Step [] w w' → wpList P ops Q rest (a.put o.dst (.slice (some ⟨g, 0, none⟩) (n + m) c')) w') :
    wpList P ops Q (o :: rest) a w := by
  have hw : Region.wanted o (yielded ops a.tmps) = true := by simp [Region.wanted, hg]
  have h := step_append_grows (E := True) (K := wpList P ops Q rest) (ops := ops) (Q := Q) hg s x t hop e i z size bytes h1 h2 h3 h4 h5 h6 h7 ao n n xs hs (fun h => ⟨h0 h, h0 h⟩) hl hcells ad m c news hx hn hc h1c (by omega) b1 b2 (by
    intro v' w' r2 r3
    obtain ⟨g, cap, rfl, _⟩ := owns_form r2 (by omega)
    exact hK _ _ w' r2 ((Step.refl _ _).grown r3 (fun k hk => by cases hk)))
  rw [if_pos hw] at h
  unfold wpList
  rw [if_pos hw]
  exact .inl h

/-- the blocks that a row of records stands in, and their data -/
def footA (a : Option Addr) : List Nat := foot (.slice a 0 0)
theorem mem_footA {a : Option Addr} {k : Nat} : k ∈ footA a ↔ ∃ off s, a = some ⟨k, off, s⟩ := foot_slice a 0 0 k
def footR (a : Option Addr) (l : List Rr) : List Nat := (if l.length = 0 then [] else footA a) ++ l.flatMap fun x => if x.d.length = 0 then [] else footA x.a
theorem footR_row {a : Option Addr} {l : List Rr} {b off : Nat} (h : a = some ⟨b, off, none⟩) (hl : 0 < l.length) : b ∈ footR a l := by
  unfold footR
  rw [if_neg (by omega)]
  exact List.mem_append_left _ (mem_footA.2 ⟨off, none, h⟩)
theorem footR_data {a : Option Addr} {l : List Rr} {x : Rr} (hx : x ∈ l) {b off : Nat} (h : x.a = some ⟨b, off, none⟩) (hl : 0 < x.d.length) : b ∈ footR a l := by
  unfold footR
  refine List.mem_append_right _ (List.mem_flatMap.2 ⟨x, hx, ?_⟩)
  rw [if_neg (by omega)]
  exact mem_footA.2 ⟨off, none, h⟩
structure Rcs (w : World) (a : Option Addr) (cap : Nat) (l : List Rr) : Prop where
  recs : Recs w a cap l
  plain : ∀ ad, a = some ad → ad.spot = none
  max : cap ≤ maxLen
theorem Recs.stepF {F : List Nat} {w w' : World} {a : Option Addr} {cap : Nat} {l : List Rr} (h : Recs w a cap l) (hs : Step F w w') (hn : ∀ k, k ∈ footR a l → k ∉ F) : Recs w' a cap l :=
  ⟨fun i hi => by
    obtain ⟨b, off, ha, hlt, h0, h1⟩ := h.cells i hi
    have hF := hn b (footR_row ha (by omega))
    exact ⟨b, off, ha, Nat.lt_of_lt_of_le hlt hs.size, (hs.cell hlt hF).trans h0, (hs.cell hlt hF).trans h1⟩, h.room, h.nil, fun x hx => by
    obtain ⟨h1, h2⟩ := h.data x hx
    refine ⟨⟨?_, h1.nil, h1.max⟩, fun hq b off hb => Nat.lt_of_lt_of_le (h2 hq b off hb) hs.size⟩
    by_cases hz : x.d.length = 0
    · exact fun i hi => by omega
    · exact h1.bytes.step hs (fun b off hb => hn b (footR_data hx hb (by omega)))⟩
theorem Rcs.stepF {F : List Nat} {w w' : World} {a : Option Addr} {cap : Nat} {l : List Rr} (h : Rcs w a cap l) (hs : Step F w w') (hn : ∀ k, k ∈ footR a l → k ∉ F) : Rcs w' a cap l := ⟨h.recs.stepF hs hn, h.plain, h.max⟩
theorem Recs.live {w : World} {a : Option Addr} {cap : Nat} {l : List Rr} (h : Recs w a cap l) : ∀ k, k ∈ footR a l → k < w.heap.size := fun k hk => by
  unfold footR at hk
  rcases List.mem_append.1 hk with hk | hk
  · split at hk
    · exact absurd hk (by simp)
    · obtain ⟨b, off, ha, hlt, -⟩ := h.cells 0 (by omega)
      obtain ⟨o, s, he⟩ := mem_footA.1 hk
      rw [ha] at he
      cases he
      exact hlt
  · obtain ⟨x, hx, hk⟩ := List.mem_flatMap.1 hk
    split at hk
    · exact absurd hk (by simp)
    · obtain ⟨o, s, he⟩ := mem_footA.1 hk
      obtain ⟨h1, h2⟩ := h.data x hx
      obtain ⟨b, off, hb, _⟩ := h1.bytes 0 (by omega)
      rw [he] at hb
      cases hb
      exact h2 (by omega) k o he
theorem Recs.cellsR {w : World} {a : Option Addr} {cap : Nat} {l : List Rr} (h : Recs w a cap l) : ∀ b, a = some b → ∀ j u, (rowR l)[j]? = some u → w.cell? (b.add j) = some u := fun b he j u hu => by
  have hj : j < l.length * 2 := by
    rw [← rowR_len l]
    rcases Nat.lt_or_ge j (rowR l).length with h1 | h1
    · exact h1
    · rw [List.getElem?_eq_none h1] at hu
      cases hu
  obtain ⟨b', off, ha, hlt, c0, c1⟩ := h.cells (j / 2) (by omega)
  rw [he] at ha
  cases ha
  have hg := rowR_get l (j / 2) (by omega)
  rw [add_plain]
  rcases Nat.mod_two_eq_zero_or_one j with hm | hm
  · have e : j / 2 * 2 = j := by omega
    rw [e] at c0 hg
    rw [hg.1] at hu
    cases hu
    exact c0
  · have e : j / 2 * 2 + 1 = j := by omega
    rw [e] at hg
    rw [hg.2] at hu
    cases hu
    rw [Nat.add_assoc, e] at c1
    exact c1
/-- a row of the call's own as a row of records -/
theorem Rcs.ofRow {w : World} {base : Nat} {v : Value} {l : List Rr} (h : w.ownsRow base 34 2 v l.length (rowR l)) (hd : ∀ x ∈ l, RecIn w x.a x.c x.d ∧ (0 < x.d.length → ∀ b off, x.a = some ⟨b, off, none⟩ → b < w.heap.size)) :
    ∃ a cap, v = .slice a l.length cap ∧ Rcs w a cap l ∧ footA a = foot v := by
  rcases h.2 with ⟨e1, e2⟩ | ⟨g, c, cur, e1, hg, hh, hc, hm, -⟩
  · refine ⟨none, 0, by rw [e1, e2], ⟨⟨fun i hi => by omega, by omega, fun _ => ⟨e2, rfl⟩, hd⟩, (fun ad h => (by cases h)), Nat.zero_le _⟩, by rw [e1]; rfl⟩
  · subst e1
    refine ⟨_, c, rfl, ⟨⟨fun i hi => ?_, hc, fun h => (by cases h), hd⟩, (fun ad h => (by cases h; rfl)), hm⟩, rfl⟩
    have hr := owns_read h (Step.refl [] w)
    have hq := rowR_get l i hi
    have k0 := hr _ _ hq.1
    have k1 := hr _ _ hq.2
    rw [add_plain] at k0 k1
    refine ⟨g, 0, rfl, ?_, k0, by rw [Nat.add_assoc]; exact k1⟩
    exact World.block_lt_of_cell? w _ k0
/-- the seal -/
def rrS : Rr := ⟨255, none, 0, []⟩
/-- the records that a fresh half begins with -/
def allR (l : List Rr) : List (UInt8 × List UInt8) := l.map Rr.pr ++ [(255, [])]
theorem allR_eq (l : List Rr) : allR l = (l ++ [rrS]).map Rr.pr := by simp [allR, rrS, Rr.pr]
theorem pr_getD (l : List Rr) (i : Nat) : (l.map Rr.pr).getD i (0, []) = (l.getD i rr0).pr := by
  rcases Nat.lt_or_ge i l.length with h | h
  · simp [List.getD, h]
  · simp [List.getD, List.getElem?_eq_none h, rr0, Rr.pr]
/-- what putting records one by one writes -/
def putsK (n half t : Nat) (rs : List (UInt8 × List UInt8)) (k : Nat) : List (Nat × List UInt8) := (List.range k).flatMap fun i => putW n half t (chainB 0 (rs.take i)) (chainB 0 (rs.take (i + 1)))
theorem putsK_next (n half t : Nat) (rs : List (UInt8 × List UInt8)) (k : Nat) : putsK n half t rs (k + 1) = putsK n half t rs k ++ putW n half t (chainB 0 (rs.take k)) (chainB 0 (rs.take (k + 1))) := by simp [putsK, List.range_succ]
theorem putW_len (n half t : Nat) (C C' : List UInt8) : (putW n half t C C').length = putN C C' := by simp [putW]
end Go.Proofs.Ytdmnhkmpfnhmdaa
end

section
namespace Go.Proofs.Ytdmnhkmpfnhmdaa
set_option linter.unusedVariables false
open Go.RowKit

set_option maxRecDepth 20000 in
set_option maxHeartbeats 1000000 in
theorem fresh_any (base db half t : Nat) (lv wv : Value) (S : List (List UInt8)) (W : List (Nat × List UInt8)) (a : Option Addr) (cap : Nat) (l : List Rr) (w : World)
    (hD : Dsk w base db lv wv S W false) (hR : Rcs w a cap l) (hsep : ∀ k, k ∈ footR a l → k ∉ footD db lv wv) (hh : half ≤ 1) (ht : t < 18446744073709551616) (hl : l.length ≤ 300) (hd : ∀ x ∈ l, x.d.length ≤ 1024) (hbase : base ≤ w.heap.size) (hW : W.length + S.length / 2 + l.length + 2 ≤ 950) :
    Calls Try.prog 29 #[.pointer (some ⟨db, 0, none⟩), .int .i64 (half : Int), .int .u64 (t : Int), .slice a l.length cap] w fun e w' =>
      (S.length / 2 * 55 < (chainB 0 (allR l)).length ∧ e = .returned (.tuple #[.pointer none, .int .i64 6]) ∧ Step [] w w') ∨
      ((chainB 0 (allR l)).length ≤ S.length / 2 * 55 ∧ ∃ lb tv, e = .returned (.tuple #[.pointer (some ⟨lb, 0, none⟩), .int .i64 0]) ∧ Lg w' base lb db tv half t (chainB 0 (allR l)) (chainS 0 (allR l))
        ∧ Dsk w' base db lv (.slice none 0 0) (syncS (W ++ putsK (S.length / 2) half t (allR l) (l.length + 1)) S) [] false ∧ (∀ x, x ∈ footL lb tv → w.heap.size ≤ x) ∧ Step (footD db lv wv) w w') := by
  obtain ⟨j0, hj0, hjz, hj1, hj2⟩ := info_parts Try.infoR
  have hclip := fun W => clip_any (P := Try.prog) a l.length cap hR.recs.room hR.plain 22 34 Try.underlying22 2 Try.sizeR W
  have hcap := hR.max
  have hc2 : (cap : Int) ≤ 9223372036854775807 := by unfold maxLen at hcap; omega
  have hlc := hR.recs.room
  have q1 : (l.length : Int) ≤ (cap : Int) := by omega
  have HR := Lib.hid hR
  have HD := Lib.hid hD
  have HSep := Lib.hid hsep
  have HRW := Lib.hid (fun W' (hs : Step [] w W') => hR.recs.step hs)
  have hfew := hD.few
  clear hR hD hsep
  go_enter Try.func29, Try.ntmps29
  go_wp2_with (at_builtin; refine wpList_append_clip rfl (.tmp 29) (.tmp 31) 22 rfl base 34 j0 (.agg #[.int .u8 0, .slice none 0 0]) 2 32 Try.underlying22 hj0 hjz hj1 hj2 rfl (by decide) a l.length (rowR l) rfl (fun h => (HR.out.recs.nil h).1) (rowR_len l) (HRW.out _ (((Step.refl [] w).alloc _).alloc _)).cellsR ⟨w.heap.size + 1, 0, none⟩ 1 1 [.int .u8 255, .slice none 0 0] rfl (by decide) rfl ?cells (by simp [Value.oneCell']) (by unfold maxLen; omega) (by omega) ?next)
  case cells =>
    intro j u hu
    have hb := Blk.new (w.alloc (.cells #[.pointer (some ⟨db, 0, none⟩), .int .i64 (half : Int), .int .u64 (t : Int), .int .i64 0, .int .u32 0, .slice none 0 0] 69)) #[.int .u8 255, .slice none 0 0] 34
    have h1 := hb.cell j
    rw [World.size_alloc] at h1
    rw [add_plain, Nat.zero_add]
    rw [h1]
    simpa using hu
  intro g c2 w2 hown2 hs2'
  have hB1 : Blk w2 w.heap.size (logC db half t 0 0 (.slice none 0 0)) 69 := ((Blk.new w (logC db half t 0 0 (.slice none 0 0)) 69).alloc _).step hs2' (by simp)
  have hs2 : Step [] w w2 := (((Step.refl [] w).alloc _).alloc _).then hs2' (by simp)
  clear hs2'
  have hL2l : (l ++ [rrS]).length = l.length + 1 := by simp
  have hrow : rowR l ++ [.int .u8 255, .slice none 0 0] = rowR (l ++ [rrS]) := by simp [rowR, rrS, Rr.sl]
  rw [hrow, ← hL2l] at hown2
  have hd2 : ∀ x ∈ l ++ [rrS], RecIn w2 x.a x.c x.d ∧ (0 < x.d.length → ∀ b off, x.a = some ⟨b, off, none⟩ → b < w2.heap.size) := fun x hx => by
    rcases List.mem_append.1 hx with h | h
    · exact (HRW.out w2 hs2).data x h
    · simp at h
      subst h
      exact ⟨⟨fun i hi => by simp [rrS] at hi, fun _ => ⟨rfl, rfl⟩, Nat.zero_le _⟩, fun h => by simp [rrS] at h⟩
  obtain ⟨a2, cc2, hv2, hR2, -⟩ := Rcs.ofRow hown2 hd2
  cases hv2
  have hgl := owns_base hown2 g (by simp [foot, Value.ownBlock])
  obtain ⟨NN, hNN⟩ : ∃ NN, l.length + 1 = NN := ⟨_, rfl⟩
  have hrs : allR l = (l ++ [rrS]).map Rr.pr := allR_eq l
  have hd3 : ∀ x ∈ l ++ [rrS], x.d.length ≤ 1024 := fun x hx => by
    rcases List.mem_append.1 hx with h | h
    · exact hd x h
    · simp at h
      subst h
      exact Nat.zero_le _
  have hsep2 : ∀ k, k ∈ footR (some ⟨g, 0, none⟩) (l ++ [rrS]) → k ∉ w.heap.size :: footD db lv wv := fun k hk => by
    unfold footR at hk
    rcases List.mem_append.1 hk with hk | hk
    · rw [if_neg (by simp)] at hk
      obtain ⟨o, s, he⟩ := mem_footA.1 hk
      cases he
      intro hm
      rcases List.mem_cons.1 hm with h | h
      · omega
      · have := HD.out.live g h
        omega
    · rw [List.flatMap_append] at hk
      rcases List.mem_append.1 hk with hk | hk
      · have hm : k ∈ footR a l := List.mem_append_right _ hk
        have h1 := HR.out.recs.live k hm
        intro hx
        rcases List.mem_cons.1 hx with h | h
        · omega
        · exact HSep.out k hm h
      · simp [rrS] at hk
  obtain ⟨L2, hL2⟩ : ∃ L2, l ++ [rrS] = L2 := ⟨_, rfl⟩
  obtain ⟨rs, hrsd⟩ : ∃ rs, allR l = rs := ⟨_, rfl⟩
  rw [hL2] at hR2 hrs hd3 hsep2 hL2l
  rw [hrsd] at hrs
  rw [hNN] at hL2l ⊢
  have HRS := Lib.hid hrsd
  have HNN := Lib.hid hNN
  have hrl : rs.length = NN := by rw [hrs, List.length_map, hL2l]
  have HALL := Lib.hid (fun i => (show rs.getD i (0, []) = (L2.getD i rr0).pr by rw [hrs, pr_getD]))
  have HR2 := Lib.hid hR2
  have HB1 := Lib.hid hB1
  have HS2 := Lib.hid hs2
  have HD3 := Lib.hid hd3
  have HSep2 := Lib.hid hsep2
  have HRL := Lib.hid hrl
  have HGL := Lib.hid hgl
  have hNN2 : NN ≤ 301 := by omega
  have hchl : ∀ i, (chainB 0 (rs.take i)).length ≤ NN * 1040 := fun i => by
    have h1 := chainB_le (rs.take i) 0 1024 (fun r hr => by
      have h2 := List.mem_of_mem_take hr
      rw [hrs] at h2
      obtain ⟨x, hx, rfl⟩ := List.mem_map.1 h2
      exact HD3.out x hx)
    have h2 : (rs.take i).length ≤ NN := by rw [List.length_take]; omega
    have h3 := Nat.mul_le_mul_right 1040 h2
    omega
  have HCH := Lib.hid hchl
  clear hown2 hd2 hR2 hB1 hs2 hrs hd3 hsep2 hrl hgl hchl hrow hL2 hclip hrsd hNN
  go_wp2_with fail
  go_loopw [12, 35] (fun x j wr => ∃ i : Nat, i ≤ NN ∧ x = .int .i64 ((chainB 0 (rs.take i)).length : Int) ∧ j = .int .i64 (i : Int) ∧ Step [] w2 wr) (fun _ j _ => NN - (intOf j).toNat)
  case atStart => exact ⟨0, by omega, by simp [chainB], rfl, Step.refl _ _⟩
  case round =>
    obtain ⟨i, hi, rfl, rfl, hs⟩ := hrel
    have HS := Lib.hid hs
    clear hs
    by_cases hlt : i < NN
    · have p1 : (i : Int) < (NN : Int) := by omega
      have p0 : (0 : Int) ≤ (i : Int) := by omega
      obtain ⟨b, off, hb, hblt, c0, c1⟩ := (HR2.out.recs.stepF HS.out (by simp)).cells i (by omega)
      cases hb
      simp only [Nat.zero_add] at c0 c1
      have hx : L2.getD i rr0 ∈ L2 := by rw [List.getD_eq_getElem?_getD, List.getElem?_eq_getElem (by omega)]; exact List.getElem_mem _
      obtain ⟨hrec, -⟩ := HR2.out.recs.data _ hx
      have hxd := HD3.out _ hx
      have htk := congrArg List.length (chainB_take (s := 0) (rs := rs) (i := i) (by rw [HRL.out]; omega))
      rw [HALL.out i, List.length_append, frame_len] at htk
      obtain ⟨x, hxe⟩ : ∃ x, L2.getD i rr0 = x := ⟨_, rfl⟩
      rw [hxe] at c0 c1 hrec hxd htk
      simp only [Rr.sl] at c1
      simp only [Rr.pr] at htk
      have HSz := Lib.hid (fun W' (hs : Step [] w2 W') => size_any x.k x.a x.c x.d W' ⟨hrec.bytes.step hs (by simp), hrec.nil, hrec.max⟩ (by omega))
      have hch := HCH.out (i + 1)
      clear hx hxe hrec
      obtain ⟨Ci, hCi⟩ : ∃ Ci, (chainB 0 (rs.take i)).length = Ci := ⟨_, rfl⟩
      obtain ⟨H, hH⟩ : ∃ H, (headB x.k x.d).length = H := ⟨_, rfl⟩
      rw [hCi, hH] at htk
      rw [htk] at hch
      rw [hH] at HSz
      rw [hCi]
      have e1 : IntKind.i64.wrap ((Ci : Int) + ((H : Int) + 4)) = (Ci : Int) + ((H : Int) + 4) := wrap_id _ (by omega) (by omega)
      have HTk := Lib.hid htk
      clear htk hCi hH
      go_wp2_with fail
      refine (HSz.out _ (HS.out.alloc _)).mono ?_
      rintro e w4 ⟨rfl, hs4⟩
      have HS4 := Lib.hid ((HS.out.alloc _).then hs4 (by simp))
      clear hs4
      go_wp2_with fail
      go_roundw
      case rel =>
        refine ⟨i + 1, by omega, ?_, by go_num, HS4.out⟩
        rw [HTk.out]
        go_num
      case measure => simp [intOf]; omega
    · obtain rfl : i = NN := by omega
      have hall : rs.take i = rs := List.take_of_length_le (by rw [HRL.out]; exact Nat.le_refl _)
      have hch := HCH.out i
      rw [hall] at hch ⊢
      obtain ⟨CL, hCL⟩ : ∃ CL, (chainB 0 rs).length = CL := ⟨_, rfl⟩
      rw [hCL] at hch ⊢
      have HRm := Lib.hid (fun W' (hs : Step [] w2 W') => lroom_any base db w.heap.size half t 0 0 (.slice none 0 0) lv wv S W false W' (HB1.out.step hs (by simp)) (HD.out.step (HS2.out.then hs (by simp)) (by simp)) (Nat.zero_le _))
      simp only [Nat.sub_zero] at HRm
      obtain ⟨RM, hRM⟩ : ∃ RM, S.length / 2 * 55 = RM := ⟨_, rfl⟩
      rw [hRM] at HRm
      have HRM := Lib.hid hRM
      have HCL := Lib.hid hCL
      have hRM2 : RM ≤ 200000 := by omega
      clear hRM hCL hall
      have p1 : ¬ (i : Int) < (i : Int) := by omega
      go_wp2_with fail
      refine (HRm.out _ HS.out).mono ?_
      rintro e w4 ⟨rfl, n4, hw4⟩
      have hs4 : Step [] w2 w4 := by rw [hw4]; exact HS.out.drewN n4
      have HS4 := Lib.hid hs4
      clear hs4 hw4
      by_cases hfull : RM < CL
      · have p2 : (RM : Int) < (CL : Int) := by omega
        go_wp2_with fail
        go_ret2
        refine .inl ⟨?_, rfl, HS2.out.then HS4.out (by simp)⟩
        rw [HRM.out, HRS.out, HCL.out]
        exact hfull
      · have p2 : ¬ (RM : Int) < (CL : Int) := by omega
        have ht0 : tailC (chainB 0 (rs.take 0)) = [] := by rw [List.take_zero]; rfl
        have HSt := Lib.hid (show Lg w4 base w.heap.size db (.slice none 0 0) half t (chainB 0 (rs.take 0)) (chainS 0 (rs.take 0)) from
          ⟨HB1.out.step HS4.out (by simp), ⟨none, 0, by rw [ht0]; rfl, by rw [ht0]; exact ⟨fun i hi => absurd hi (Nat.not_lt_zero _), fun _ => ⟨rfl, rfl⟩, Nat.le_refl _, Nat.zero_le _, (fun ad h => (by cases h))⟩⟩, fun k hk => absurd hk (by simp [foot, Value.ownBlock]), hbase, by simp [foot, Value.ownBlock]⟩)
        have HDk := Lib.hid (HD.out.step (HS2.out.then HS4.out (by simp)) (by simp))
        have hz4 : w.heap.size ≤ w4.heap.size := (HS2.out.then HS4.out (by simp)).size
        have hz2 : w2.heap.size ≤ w4.heap.size := HS4.out.size
        have HLV := Lib.hid HD.out.live
        have hgw := HR2.out.recs.live
        have hRM3 : RM / 55 = S.length / 2 := by rw [← HRM.out]; omega
        go_wp2_with fail
        go_loopw [50] (fun j wr => ∃ (k : Nat) (tv wvi : Value), k ≤ i ∧ j = .int .i64 (k : Int) ∧ Lg wr base w.heap.size db tv half t (chainB 0 (rs.take k)) (chainS 0 (rs.take k)) ∧ Dsk wr base db lv wvi S (W ++ putsK (S.length / 2) half t rs k) false ∧ (∀ x, x ∈ footL w.heap.size tv → x ∉ footD db lv wvi) ∧ Step (w.heap.size :: footD db lv wv) w4 wr ∧ Fresh w4 (foot wv) (foot wvi) ∧ (∀ x, x ∈ foot tv → w4.heap.size ≤ x) ∧ (W ++ putsK (S.length / 2) half t rs k).length ≤ W.length + (chainB 0 (rs.take k)).length / 55 + k) (fun j _ => i - (intOf j).toNat)
        case atStart =>
          refine ⟨0, _, wv, by omega, rfl, HSt.out, ?_, fun x hx => ?_, Step.refl _ _, fun x hx => .inl hx, fun x hx => absurd hx (by simp [foot, Value.ownBlock]), ?_⟩
          · rw [show putsK (S.length / 2) half t rs 0 = [] from rfl, List.append_nil]
            exact HDk.out
          · intro hm
            have := HLV.out x hm
            simp [footL, foot, Value.ownBlock] at hx
            omega
          · rw [show putsK (S.length / 2) half t rs 0 = [] from rfl, List.append_nil]
            omega
        case round =>
          obtain ⟨k, tv, wvi, hk, rfl, g1, g2, g3, g4, g5, g6, g7⟩ := hrel
          by_cases hlt : k < i
          · have p3 : (k : Int) < (i : Int) := by omega
            have p0 : (0 : Int) ≤ (k : Int) := by omega
            have hw4r := g4.size
            have hall : Recs wr (some ⟨g, 0, none⟩) c2 L2 := HR2.out.recs.stepF ((HS4.out.mono (by simp)).then g4 (fun x hx => .inl hx)) HSep2.out
            obtain ⟨b, off, hb, hblt, c0, c1⟩ := hall.cells k (by omega)
            cases hb
            simp only [Nat.zero_add] at c0 c1
            have hx : L2.getD k rr0 ∈ L2 := by rw [List.getD_eq_getElem?_getD, List.getElem?_eq_getElem (by omega)]; exact List.getElem_mem _
            obtain ⟨hrec, -⟩ := hall.data _ hx
            have hxd := HD3.out _ hx
            have htk := chainB_take (s := 0) (rs := rs) (i := k) (by rw [HRL.out]; omega)
            have hts := chainS_take (s := 0) (rs := rs) (i := k) (by rw [HRL.out]; omega)
            rw [HALL.out k] at htk hts
            have hpk := putsK_next (S.length / 2) half t rs k
            have hmost : (chainB 0 (rs.take (k + 1))).length ≤ CL := by
              rw [← HCL.out]
              conv => rhs; rw [← List.take_append_drop (k + 1) rs, chainB_app, List.length_append]
              omega
            obtain ⟨x, hxe⟩ : ∃ x, L2.getD k rr0 = x := ⟨_, rfl⟩
            rw [hxe] at c0 c1 hrec hxd htk hts
            simp only [Rr.sl] at c1
            simp only [Rr.pr] at htk hts
            rw [htk] at hpk hmost
            rw [List.length_append] at hmost
            have hsm : chainS 0 (rs.take k) < 4294967296 := chainS_lt _ 0 (by decide)
            obtain ⟨C, hC⟩ : ∃ C, chainB 0 (rs.take k) = C := ⟨_, rfl⟩
            obtain ⟨sm, hSm⟩ : ∃ sm, chainS 0 (rs.take k) = sm := ⟨_, rfl⟩
            obtain ⟨Wk, hWk⟩ : ∃ Wk, W ++ putsK (S.length / 2) half t rs k = Wk := ⟨_, rfl⟩
            rw [hC] at g1 htk hpk hmost g7
            rw [hSm] at g1 hsm hts htk hpk hmost
            rw [hWk] at g2 g7
            have hdiv : C.length / 55 ≤ RM / 55 := Nat.div_le_div_right (by omega)
            have HPut := Lib.hid (fun W' (hs : Step [] wr W') => put_any base db w.heap.size half t sm tv lv wvi S Wk C x.k x.a x.c x.d W' (g1.step hs (by simp)) (g2.step hs (by simp)) g3 hh ht hsm hrec.nil (hrec.bytes.step hs (by simp)) hxd (by rw [HRM.out]; omega) (by have := HNN.out; omega) (Nat.le_trans hbase (Nat.le_trans hz4 (Nat.le_trans hw4r hs.size))))
            have hpl := putW_len (S.length / 2) half t C (C ++ frameB sm x.k x.d)
            unfold putN at hpl
            have hkey : ∀ (tv' wv' : Value) (w' : World) (hs : Step [] wr w') , True := fun _ _ _ _ => trivial
            have HG := Lib.hid (And.intro g4 (And.intro g5 (And.intro g6 g7)))
            have HT := Lib.hid (And.intro htk (And.intro hts hpk))
            have HWk := Lib.hid hWk
            have HPl := Lib.hid hpl
            clear hx hxe hrec hall g1 g2 g3 g4 g5 g6 g7 htk hts hpk hkey hC hSm hWk hpl hgw hdiv
            go_wp2_with fail
            refine (HPut.out _ ((Step.refl [] wr).alloc _)).mono ?_
            rintro e w6 ⟨rfl, tv', wv', k1, k2, k3, k4, k5, k6⟩
            have HK := Lib.hid (And.intro k1 (And.intro k2 (And.intro k3 (And.intro k4 (And.intro k5 k6)))))
            clear k1 k2 k3 k4 k5 k6
            go_wp2_with fail
            go_roundw
            case rel =>
              obtain ⟨g4, g5, g6, g7⟩ := HG.out
              obtain ⟨k1, k2, k3, k4, k5, k6⟩ := HK.out
              have hz := g4.size
              have hz2 := ((Step.refl [] wr).alloc (.cells #[.int .u8 (x.k.toNat : Int), .slice x.a x.d.length x.c] 34)).size
              have hWn : W ++ putsK (S.length / 2) half t rs (k + 1) = Wk ++ putW (S.length / 2) half t C (C ++ frameB sm x.k x.d) := by rw [HT.out.2.2, ← List.append_assoc, HWk.out]
              refine ⟨k + 1, tv', wv', by omega, by go_num, ?_, ?_, k3, ?_, ?_, ?_, ?_⟩
              · rw [HT.out.1, HT.out.2.1]
                exact k1
              · rw [hWn]
                exact k2
              · refine (g4.then ((Step.refl [] wr).alloc _) (by simp)).then k4 (fun y hy => ?_)
                rcases List.mem_append.1 hy with h | h
                · rcases List.mem_cons.1 h with h | h
                  · exact .inl (by simp [h])
                  · exact .inr (g6 y h)
                · simp only [footD, List.mem_cons, List.mem_append] at h ⊢
                  rcases h with h | h | h
                  · exact .inl (.inr (.inl h))
                  · exact .inl (.inr (.inr (.inl h)))
                  · exact (g5 y h).imp (fun h => .inr (.inr (.inr h))) id
              · intro y hy
                rcases k5 y hy with h | h
                · exact g5 y h
                · exact .inr (by omega)
              · intro y hy
                have := k6 y hy
                omega
              · rw [hWn, HT.out.1, List.length_append, HPl.out, List.length_append]
                omega
            case measure => simp [intOf]; omega
          · obtain rfl : k = i := by omega
            have hall : rs.take k = rs := List.take_of_length_le (by rw [HRL.out]; exact Nat.le_refl _)
            rw [hall] at g1
            have HSy := Lib.hid (sync_any base db lv wvi S _ wr g2)
            have HG := Lib.hid (And.intro g1 (And.intro g3 (And.intro g4 (And.intro g5 g6))))
            have p3 : ¬ (k : Int) < (k : Int) := by omega
            clear g1 g2 g3 g4 g5 g6 g7 hall hgw
            go_wp2_with fail
            refine HSy.out.mono ?_
            rintro e w6 ⟨rfl, hD6, hs6⟩
            have H6 := Lib.hid (And.intro hD6 hs6)
            clear hD6 hs6
            go_wp2_with fail
            go_ret2
            obtain ⟨g1, g3, g4, g5, g6⟩ := HG.out
            obtain ⟨hD6, hs6⟩ := H6.out
            refine .inr ⟨?_, w.heap.size, tv, rfl, ?_, ?_, ?_, ?_⟩
            · rw [HRM.out, HRS.out, HCL.out]
              omega
            · rw [HRS.out]
              exact g1.step hs6 g3
            · rw [HRS.out, HNN.out]
              exact hD6
            · intro x hx
              rcases List.mem_cons.1 hx with h | h
              · omega
              · have := g6 x h
                omega
            · refine ((HS2.out.then HS4.out (by simp)).mono (G := footD db lv wv) (by simp)).then (g4.then hs6 (fun x hx => ?_)) (fun x hx => ?_)
              · simp only [footD, List.mem_cons, List.mem_append] at hx ⊢
                rcases hx with h | h | h
                · exact .inl (.inr (.inl h))
                · exact .inl (.inr (.inr (.inl h)))
                · exact (g5 x h).imp (fun h => .inr (.inr (.inr h))) id
              · rcases List.mem_cons.1 hx with h | h
                · exact .inr (by omega)
                · exact .inl h
end Go.Proofs.Ytdmnhkmpfnhmdaa
end

section
namespace Go.Proofs.Ytdmnhkmpfnhmdaa
set_option linter.unusedVariables false
open Go.RowKit

def sliceLen : Value → Nat
  | .slice _ n _ => n
  | _ => 0
theorem flatten_len : ∀ (L : List (List UInt8)), (∀ s ∈ L, s.length = 64) → L.flatten.length = L.length * 64
  | [], _ => rfl
  | s :: r, h => by
    have h1 := h s (by simp)
    have h2 := flatten_len r (fun x hx => h x (by simp [hx]))
    simp only [List.flatten_cons, List.length_append, h1, h2, List.length_cons]
    omega
theorem flatS_flat (S : List (List UInt8)) : flatS S = S.flatten.map byteVal := by
  induction S with
  | nil => rfl
  | cons s r ih =>
    show secB s ++ flatS r = _
    rw [ih, List.flatten_cons, List.map_append]
    rfl
theorem Dsk.read64 {w : World} {base db : Nat} {lv wv : Value} {S : List (List UInt8)} {W : List (Nat × List UInt8)} {d : Bool} (h : Dsk w base db lv wv S W d) (f n : Nat) : ∀ s ∈ readS W S f n, s.length = 64 := fun s hs =>
  setl_64 _ W S h.len1 (fun y hy => (h.len2 y hy).2) W.length s (cutS_mem hs)
theorem readS_len (W : List (Nat × List UInt8)) (S : List (List UInt8)) (f n : Nat) (h : f + n ≤ S.length) : (readS W S f n).length = n := cutS_len (by unfold syncS; rw [setl_len]; exact h)
end Go.Proofs.Ytdmnhkmpfnhmdaa
end

section
namespace Go.Proofs.Ytdmnhkmpfnhmdaa
set_option linter.unusedVariables false
open Go.RowKit

/-- the bytes of a half that bear its turn -/
def halfF (t : Nat) : List (List UInt8) → List UInt8
  | [] => []
  | s :: r => if turnV s = t then (s.drop 9).take (min (s.getD 8 0).toNat 55) ++ (if (s.getD 8 0).toNat < 55 then [] else halfF t r) else []
def halfT (L : List (List UInt8)) : Nat := turnV (L.headD [])
def halfB (L : List (List UInt8)) : List UInt8 := if 0 < halfT L then halfF (halfT L) L else []
set_option maxRecDepth 20000 in
set_option maxHeartbeats 2000000 in
theorem half_bytes (L : List (List UInt8)) (a : Option Addr) (cap : Nat) (w : World) (hS : SlB w a L.flatten cap) (hL : ∀ s ∈ L, s.length = 64) (h0 : 0 < L.length) (h1 : L.length ≤ 4096) :
    Calls Try.prog 46 #[.slice a (L.length * 64) cap] w fun e w' => ∃ v, e = .returned (.tuple #[v, .int .u64 (halfT L : Int)]) ∧ w'.ownsRow w.heap.size 5 1 v (halfB L).length ((halfB L).map byteVal) ∧ Step [] w w' := by
  obtain ⟨i0, hi, hz0, hz1, hz2⟩ := info_parts Try.infoB
  have hfl := flatten_len L hL
  have htv : turnV L.flatten = halfT L := by
    cases L with
    | nil => simp at h0
    | cons s r =>
      have hs := hL s (by simp)
      unfold turnV halfT turnV
      rw [List.flatten_cons, List.take_append_of_le_length (by omega)]
      rfl
  have HT := Lib.hid (turnOf_any a (L.length * 64) cap L.flatten w hS.bytes hfl (by omega))
  rw [htv] at HT
  have hlt := turnV_lt (L.headD [])
  obtain ⟨t, ht⟩ : ∃ t, halfT L = t := ⟨_, rfl⟩
  have hlt' : t < 18446744073709551616 := by rw [← ht]; exact hlt
  rw [ht] at HT ⊢
  have HTT := Lib.hid ht
  have HSl := Lib.hid hS
  have HL := Lib.hid hL
  have HF := Lib.hid hfl
  clear hS hL htv hlt ht hfl
  go_enter Try.func46, Try.ntmps46
  go_wp2_with fail
  refine HT.out.mono ?_
  rintro e w1 ⟨rfl, rfl⟩
  go_wp2_with fail
  go_loopw [0, 5] (fun bv ov wr => ∃ (P R : List (List UInt8)) (O : List UInt8) (a' : Option Addr) (c' : Nat), L = P ++ R ∧ bv = .slice a' (R.length * 64) c' ∧ SlB w a' R.flatten c' ∧ (0 < t → O ++ halfF t R = halfB L) ∧ (t = 0 → O = []) ∧ O.length ≤ 64 * P.length ∧ wr.ownsRow w.heap.size 5 1 ov O.length (O.map byteVal) ∧ Step [] w wr) (fun bv _ _ => sliceLen bv)
  case atStart => exact ⟨[], L, [], a, cap, rfl, rfl, HSl.out, fun h => by unfold halfB; rw [HTT.out, if_pos h]; rfl, fun _ => rfl, by simp, ⟨rfl, .inl ⟨rfl, rfl⟩⟩, Step.refl _ _⟩
  case round =>
    obtain ⟨P, R, O, a', c', hPR, rfl, hR, hO, hO0, hOl, ho, hs⟩ := hrel
    have HR := Lib.hid hR
    have HO := Lib.hid (And.intro hO (And.intro hO0 (And.intro ho hs)))
    have HPR := Lib.hid hPR
    clear hR hO hO0 hPR ho hs
    by_cases ht0 : t = 0
    · subst ht0
      go_wp2_with fail
      go_ret2
      refine ⟨u5, rfl, ?_, HO.out.2.2.2⟩
      have h := HO.out.2.2.1
      have hb : halfB L = [] := by unfold halfB; rw [HTT.out]; rfl
      rw [hb]
      rw [HO.out.2.1 trivial] at h
      exact h
    · have ht1 : 0 < t := by omega
      have ht2 : (0 : Int) < (t : Int) := by omega
      cases R with
      | nil =>
        go_wp2_with fail
        go_ret2
        refine ⟨u5, rfl, ?_, HO.out.2.2.2⟩
        have h := HO.out.2.2.1
        have hb := HO.out.1 ht1
        rw [halfF, List.append_nil] at hb
        rw [← hb]
        exact h
      | cons s r =>
        have hs64 : s.length = 64 := HL.out s (by rw [HPR.out]; simp)
        have hfr := flatten_len (s :: r) (fun x hx => HL.out x (by rw [HPR.out]; simp only [List.mem_append]; exact .inr hx))
        have htv : turnV (s :: r).flatten = turnV s := by
          unfold turnV
          rw [List.flatten_cons, List.take_append_of_le_length (by omega)]
        have HRr := Lib.hid (HR.out.step HO.out.2.2.2 (by simp))
        have hTu := turnOf_any a' ((r.length + 1) * 64) c' (s :: r).flatten
        rw [htv] at hTu
        have HTu := Lib.hid (hTu wr HRr.out.bytes (by rw [hfr]; simp) (by omega))
        have HFr := Lib.hid hfr
        have HS64 := Lib.hid hs64
        clear hTu htv hfr
        obtain ⟨x, hx⟩ : ∃ x, turnV s = x := ⟨_, rfl⟩
        rw [hx] at HTu
        have HX := Lib.hid hx
        have hrl : r.length ≤ 4096 := by
          have := congrArg List.length HPR.out
          simp at this
          omega
        have hOn : O.length ≤ 64 * 4096 := by
          have := congrArg List.length HPR.out
          simp at this
          omega
        clear hx
        by_cases hxt : x = t
        · subst hxt
          obtain ⟨b, off, rfl, hbl, c8⟩ := HRr.out.bytes 8 (by rw [HFr.out]; simp; omega)
          have hy : (s :: r).flatten.getD 8 0 = s.getD 8 0 := by
            have := HS64.out
            simp [List.getD, List.getElem?_append_left (show 8 < s.length by omega)]
          rw [hy] at c8
          obtain ⟨y, hyv⟩ : ∃ y, s.getD 8 0 = y := ⟨_, rfl⟩
          rw [hyv] at c8
          have HY := Lib.hid hyv
          obtain ⟨n, hn⟩ : ∃ n, min y.toNat 55 = n := ⟨_, rfl⟩
          have hn55 : n ≤ 55 := by omega
          have HNn := Lib.hid hn
          have e1 : IntKind.i64.wrap (9 + (n : Int)) = ((9 + n : Nat) : Int) := by rw [wrap_id _ (by omega) (by omega)]; omega
          obtain ⟨a9, hcut, hslP, hbk9⟩ := HRr.out.cutMid (P := Try.prog) 32 5 Try.underlying32 Try.sizeB 9 (9 + n) (by omega) (by rw [HFr.out]; simp; omega)
          have hpl : (((s :: r).flatten.drop 9).take (9 + n - 9)) = (s.drop 9).take n := by
            have := HS64.out
            rw [List.flatten_cons, List.drop_append_of_le_length (by omega), List.take_append_of_le_length (by rw [List.length_drop]; omega), Nat.add_sub_cancel_left]
          rw [hpl] at hslP
          have hcut' : ∀ W : World, (Instr.slice 32 (.slice (some ⟨b, off, none⟩) ((r.length + 1) * 64) c') (some (.int .i64 9)) (some (.int .i64 ((9 + n : Nat) : Int))) none).run Try.prog W = .ok (.slice a9 n (c' - 9)) W := fun W => by
            have h := hcut W
            rw [HFr.out, Nat.add_sub_cancel_left] at h
            exact h
          obtain ⟨M9, hM9⟩ : ∃ M9, 9 + n = M9 := ⟨_, rfl⟩
          rw [hM9] at hcut' e1
          have hc64 := HRr.out.len
          rw [HFr.out] at hc64
          simp only [List.length_cons] at hc64
          have hM0 : (9 : Int) ≤ (M9 : Int) := by omega
          have hM1 : (M9 : Int) ≤ (c' : Int) := by omega
          have hpn : ((s.drop 9).take n).length = n := by
            have := HS64.out
            rw [List.length_take, List.length_drop]
            omega
          obtain ⟨a10, hlow, hslR, -⟩ := HR.out.cutLow (P := Try.prog) 32 5 Try.underlying32 Try.sizeB 64 (by rw [HFr.out]; simp; omega)
          have hdr : (s :: r).flatten.drop 64 = r.flatten := by
            rw [List.flatten_cons, List.drop_left' HS64.out]
          rw [hdr, flatten_len r (fun x hx => HL.out x (by rw [HPR.out]; simp [hx])), HFr.out] at hlow
          have hlow' : ∀ W : World, (Instr.slice 32 (.slice (some ⟨b, off, none⟩) ((r.length + 1) * 64) c') (some (.int .i64 64)) none none).run Try.prog W = .ok (.slice a10 (r.length * 64) (c' - 64)) W := hlow
          rw [hdr] at hslR
          have HP9 := Lib.hid (And.intro hslP (And.intro hpn hslR))
          have HNo := Lib.hid (show a9 = none → n = 0 ∧ c' - 9 = 0 from fun h => by have h2 := hslP.nil h; rw [hpn] at h2; exact h2)
          have HNL := Lib.hid (show (((s.drop 9).take n).map byteVal).length = n * 1 by rw [List.length_map, hpn]; omega)
          have HNW := Lib.hid hslP.bytes.news
          have hbs : w.heap.size ≤ wr.heap.size := HO.out.2.2.2.size
          have HOw := Lib.hid HO.out.2.2.1
          clear hy hyv hn hpl hcut hlow hslP hslR hpn hdr hbk9
          by_cases hy55 : y.toNat < 55
          · have hny : n = y.toNat := by have := HNn.out; omega
            subst hny
            have m1 : (y.toNat : Int) < 55 := by omega
            have m2 : (y.toNat : Int) ≤ 55 := by omega
            go_wp2_with fail
            refine HTu.out.mono ?_
            rintro e w1 ⟨rfl, rfl⟩
            go_wp2_with (at_builtin; refine wpList_append_sep rfl (.tmp 29) (.tmp 33) 32 rfl w.heap.size 5 i0 (.int .u8 0) 1 1 Try.underlying32 hi hz0 hz1 hz2 rfl (by decide) u5 O.length (O.map byteVal) rfl HOw.out a9 y.toNat (c' - 9) (((s.drop 9).take y.toNat).map byteVal) rfl HNo.out HNL.out HNW.out (byteVals_cell _) (by unfold maxLen; omega) (by omega) hbs ?_)
            intro v2 w2 hown2 hg2 hf2
            have hs2 : Step [] w w2 := HO.out.2.2.2.grown hg2 (fun r hr => .inr (owns_base HOw.out r (mem_foot.2 hr)))
            have hown2' : w2.ownsRow w.heap.size 5 1 v2 (O ++ (s.drop 9).take y.toNat).length ((O ++ (s.drop 9).take y.toNat).map byteVal) := by
              rw [List.length_append, HP9.out.2.1]
              simpa using hown2
            have HO2 := Lib.hid hown2'
            have HS2 := Lib.hid hs2
            clear hown2 hown2' hg2 hf2 hs2
            go_wp2_with fail
            go_ret2
            refine ⟨v2, rfl, ?_, HS2.out⟩
            have hb := HO.out.1 ht1
            rw [halfF, HX.out, if_pos rfl, HY.out, if_pos hy55, List.append_nil, show min y.toNat 55 = y.toNat by omega] at hb
            rw [← hb]
            exact HO2.out
          · have hny : n = 55 := by have := HNn.out; omega
            subst hny
            have m1 : ¬ (y.toNat : Int) < 55 := by omega
            have m2 : (55 : Int) ≤ (y.toNat : Int) := by omega
            have hy3 : 55 ≤ y.toNat := by omega
            have hw64 : wrap64 64 = 64 := by simp [wrap64]
            have hwy : wrap64 (y.toNat : Int) = (y.toNat : Int) := by have := y.toNat_lt; unfold wrap64; omega
            have m3 : (64 : Int) ≤ (c' : Int) := by omega
            have m4 : 64 ≤ c' := by omega
            have hp55 := HP9.out.2.1
            have hb9 : Bytes wr (some ⟨b, off + 9, none⟩) ((s.drop 9).take 55) := fun i hi => by
              rw [hp55] at hi
              obtain ⟨b', o', he, hl, hc⟩ := HRr.out.bytes (9 + i) (by rw [HFr.out]; simp; omega)
              cases he
              refine ⟨b, off + 9, rfl, hl, ?_⟩
              have h64 := HS64.out
              have hg : ((s.drop 9).take 55).getD i 0 = (s :: r).flatten.getD (9 + i) 0 := by
                simp [List.getD, List.getElem?_append_left (show 9 + i < s.length by omega), hi]
              rw [hg, Nat.add_assoc]
              exact hc
            have HNW2 := Lib.hid hb9.news
            have HNo2 := Lib.hid (show (some ⟨b, off + 9, none⟩ : Option Addr) = none → 55 = 0 ∧ c' - 9 = 0 from fun h => by cases h)
            clear e1 hM9 hcut' hM0 hM1 hb9 hp55
            have hw55 : wrap64 55 = 55 := by simp [wrap64]
            have H3 := Lib.hid (And.intro hy55 hy3)
            rcases Nat.lt_or_ge 55 y.toNat with hgt | hle
            rotate_left
            · have hy5 : y.toNat = 55 := Nat.le_antisymm hle hy3
              rw [hy5] at c8
              clear m1 m2 hwy hy3 hy55 hle hy5
              go_wp2_with fail
              refine HTu.out.mono ?_
              rintro e w1 ⟨rfl, rfl⟩
              go_wp2_with (at_builtin; refine wpList_append_sep rfl (.tmp 29) (.tmp 33) 32 rfl w.heap.size 5 i0 (.int .u8 0) 1 1 Try.underlying32 hi hz0 hz1 hz2 rfl (by decide) u5 O.length (O.map byteVal) rfl HOw.out (some ⟨b, off + 9, none⟩) 55 (c' - 9) (((s.drop 9).take 55).map byteVal) rfl HNo2.out HNL.out HNW2.out (byteVals_cell _) (by unfold maxLen; omega) (by omega) hbs ?_)
              intro v2 w2 hown2 hg2 hf2
              have hs2 : Step [] w w2 := HO.out.2.2.2.grown hg2 (fun r hr => .inr (owns_base HOw.out r (mem_foot.2 hr)))
              have hown2' : w2.ownsRow w.heap.size 5 1 v2 (O ++ (s.drop 9).take 55).length ((O ++ (s.drop 9).take 55).map byteVal) := by
                rw [List.length_append, HP9.out.2.1]
                simpa using hown2
              have HO2 := Lib.hid hown2'
              have HS2 := Lib.hid hs2
              obtain ⟨gv, cv, rfl, -⟩ := owns_form hown2' (by rw [List.length_append, HP9.out.2.1]; omega)
              clear hown2 hown2' hg2 hf2 hs2
              go_wp2_with fail
              go_roundw
              case rel =>
                refine ⟨P ++ [s], r, O ++ (s.drop 9).take 55, a10, c' - 64, by rw [HPR.out]; simp, rfl, HP9.out.2.2, fun _ => ?_, fun h => absurd h (Nat.ne_of_gt ht1), ?_, HO2.out, HS2.out⟩
                · have hb := HO.out.1 ht1
                  rw [halfF, HX.out, if_pos rfl, HY.out, if_neg H3.out.1, Nat.min_eq_right H3.out.2] at hb
                  rw [List.append_assoc]
                  exact hb
                · rw [List.length_append, List.length_append, HP9.out.2.1]
                  simp
                  omega
              case measure => simp [sliceLen]
            · have m5 : (55 : Int) < (y.toNat : Int) := Int.ofNat_lt.2 hgt
              have m6 : ¬ (y.toNat : Int) ≤ 55 := Int.not_le.2 m5
              clear hy3 hy55
              go_wp2_with fail
              refine HTu.out.mono ?_
              rintro e w1 ⟨rfl, rfl⟩
              go_wp2_with (at_builtin; refine wpList_append_sep rfl (.tmp 29) (.tmp 33) 32 rfl w.heap.size 5 i0 (.int .u8 0) 1 1 Try.underlying32 hi hz0 hz1 hz2 rfl (by decide) u5 O.length (O.map byteVal) rfl HOw.out (some ⟨b, off + 9, none⟩) 55 (c' - 9) (((s.drop 9).take 55).map byteVal) rfl HNo2.out HNL.out HNW2.out (byteVals_cell _) (by unfold maxLen; omega) (by omega) hbs ?_)
              intro v2 w2 hown2 hg2 hf2
              have hs2 : Step [] w w2 := HO.out.2.2.2.grown hg2 (fun r hr => .inr (owns_base HOw.out r (mem_foot.2 hr)))
              have hown2' : w2.ownsRow w.heap.size 5 1 v2 (O ++ (s.drop 9).take 55).length ((O ++ (s.drop 9).take 55).map byteVal) := by
                rw [List.length_append, HP9.out.2.1]
                simpa using hown2
              have HO2 := Lib.hid hown2'
              have HS2 := Lib.hid hs2
              obtain ⟨gv, cv, rfl, -⟩ := owns_form hown2' (by rw [List.length_append, HP9.out.2.1]; omega)
              clear hown2 hown2' hg2 hf2 hs2
              go_wp2_with fail
              go_roundw
              case rel =>
                refine ⟨P ++ [s], r, O ++ (s.drop 9).take 55, a10, c' - 64, by rw [HPR.out]; simp, rfl, HP9.out.2.2, fun _ => ?_, fun h => absurd h (Nat.ne_of_gt ht1), ?_, HO2.out, HS2.out⟩
                · have hb := HO.out.1 ht1
                  rw [halfF, HX.out, if_pos rfl, HY.out, if_neg H3.out.1, Nat.min_eq_right H3.out.2] at hb
                  rw [List.append_assoc]
                  exact hb
                · rw [List.length_append, List.length_append, HP9.out.2.1]
                  simp
                  omega
              case measure => simp [sliceLen]
        · have hxe : ((x : Int) == (t : Int)) = false := by simp; omega
          go_wp2_with fail
          refine HTu.out.mono ?_
          rintro e w1 ⟨rfl, rfl⟩
          go_wp2_with fail
          go_ret2
          refine ⟨u5, rfl, ?_, HO.out.2.2.2⟩
          have h := HO.out.2.2.1
          have hb := HO.out.1 ht1
          rw [halfF, HX.out, if_neg hxt, List.append_nil] at hb
          rw [← hb]
          exact h
end Go.Proofs.Ytdmnhkmpfnhmdaa
end
