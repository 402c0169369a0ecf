/- command.known, command.Bytes. -/
import Derived.Test.YtdfkagpnfgmbeaaFieldsW
import Derived.Test.YtdfkagpnfgmbeaaOctetWB
import Derived.Test.YtdfkagpnfgmbeaaSqB
namespace Go.Proofs.Ytdfkagpnfgmbeaa
set_option linter.unusedVariables false
set_option linter.unusedSimpArgs false
open Go.RowKit

theorem known_yes (k : Int) (w : World) (h : okK k) : Calls Try.prog 30 #[.int .i64 k] w (fun e w' => e = .returned (.bool true) ∧ w = w') := by
  obtain ⟨h0, h9⟩ := h
  have h10 : k < 10 := by omega
  go_enter Try.func30, Try.ntmps30
  go_wp2_with fail
  go_ret
  exact ⟨rfl, rfl⟩
theorem known_no (k : Int) (w : World) (h : ¬ okK k) : Calls Try.prog 30 #[.int .i64 k] w (fun e w' => e = .returned (.bool false) ∧ w = w') := by
  by_cases h0 : 0 ≤ k
  · have h10 : ¬ k < 10 := by unfold okK at h; omega
    clear h
    go_enter Try.func30, Try.ntmps30
    go_wp2_with fail
    go_ret
    exact ⟨rfl, rfl⟩
  · clear h
    go_enter Try.func30, Try.ntmps30
    go_wp2_with fail
    go_ret
    exact ⟨rfl, rfl⟩

theorem bytesS_len (s : PS) (h : LitS s) : (bytesS s).length ≤ 2000000 := by
  have h1 := depsS_len2 s.ds h.dl
  have h2 := h.ds
  have h3 := h.nm
  have h4 := h.tn
  have h5 := h.cr
  have t1 := txtB_len s.nm
  have t2 := txtB_len s.tn
  have t3 := txtB_len s.cr
  have i1 := intB_len s.pr
  have i2 := intB_len s.de
  have i3 := intB_len s.ba
  have i4 := intB_len s.ca
  have i5 := intB_len s.at'
  have i6 := intB_len s.le
  have i7 := intB_len s.ct
  have i8 := (numB_len s.ds.length).2
  unfold bytesS headS tailS
  simp only [List.length_append]
  omega
theorem fieldsB_len (c : PC) (h : LitC c) : (fieldsB c).length ≤ 2000000 := by
  have h1 := bytesS_len c.sp h.sp
  have h2 := txtB_len c.nm
  have h3 := txtB_len c.wk
  have h4 := (numB_len c.tk).2
  have h5 := intB_len c.vl
  have h6 := h.nm
  have h7 := h.wk
  unfold fieldsB
  repeat' split
  all_goals (try simp only [List.length_append, List.length_nil])
  all_goals omega
theorem reqB_len (q : PQ) (h : LitC q.c) : (reqB q).length ≤ 2000100 := by
  have h1 := fieldsB_len q.c h
  have h2 := (numB_len q.cl).2
  have h3 := (numB_len q.no).2
  have h4 := (numB_len q.c.kd.toNat).2
  unfold reqB cmdB
  simp only [List.length_append]
  omega

/-- what Bytes hands back: without an error the bytes -/
def CmdBytes (q : PQ) (w : World) (en : Ending) (w' : World) : Prop :=
  Step [] w w' ∧ ∃ (v : Value) (er : Int), en = .returned (.tuple #[v, .int .i64 er]) ∧ (er = 0 → okK q.c.kd ∧ w'.ownsRow w.heap.size 5 1 v (reqB q).length ((reqB q).map byteVal))

set_option maxRecDepth 20000 in
set_option maxHeartbeats 2000000 in
theorem cmdBytes_any (q : PQ) (a : Option Addr) (k : Nat) (w : World) (ha : TxS w a q.c.sp.ds) (hl : LitC q.c) (hw : WfC q.c) (hcl : q.cl < M64) (hno : q.no < M64) :
    Calls Try.prog 12 #[.agg (rqC q a q.c.sp.ds.length k).toArray] w (CmdBytes q w) := by
  have hb := Blk.new w (rqC q a q.c.sp.ds.length k).toArray 40
  have hst := (Step.refl [] w).alloc (.cells (rqC q a q.c.sp.ds.length k).toArray 40)
  have ha1 := ha.step0 hst
  obtain ⟨W, hWW⟩ : ∃ W, w.alloc (.cells (rqC q a q.c.sp.ds.length k).toArray 40) = W := ⟨_, rfl⟩
  obtain ⟨xb, hxb⟩ : ∃ xb, w.heap.size = xb := ⟨_, rfl⟩
  obtain ⟨n, hn⟩ : ∃ n, q.c.sp.ds.length = n := ⟨_, rfl⟩
  rw [hWW] at hb hst ha1
  rw [hxb] at hb
  have HN := Lib.hid hn
  rw [hn] at hWW hb ⊢
  have HWW := Lib.hid (And.intro hWW hxb)
  have HB := Lib.hid hb
  have HS := Lib.hid hst
  have HT := Lib.hid ha1
  have HX := Lib.hid (And.intro hl hw)
  have HY := Lib.hid (And.intro hcl hno)
  clear hb hst ha1 ha hWW hn hl hw hcl hno hxb
  have c0 : W.cell? ⟨xb, 0, none⟩ = some (.int .u64 (q.cl : Int)) := HB.out.cell 0
  have c1 : W.cell? ⟨xb, 1, none⟩ = some (.int .u64 (q.no : Int)) := HB.out.cell 1
  have c2 : W.cell? ⟨xb, 2, none⟩ = some (.int .i64 q.c.kd) := HB.out.cell 2
  by_cases hk : okK q.c.kd
  · have HK := Lib.hid (known_yes q.c.kd W hk)
    have HO := Lib.hid hk
    have hu : IntKind.u64.wrap q.c.kd = q.c.kd := by
      rw [IntKind.wrap_u64]
      have := hk.1
      have := hk.2
      omega
    have hkn : q.c.kd = ((q.c.kd.toNat : Nat) : Int) := by
      have := hk.1
      omega
    have HKN := Lib.hid hkn
    clear hk hkn
    go_enter Try.func12, Try.ntmps12
    go_wp2_with (rw [HWW.out.1, HWW.out.2])
    refine HK.out.mono ?_
    rintro e w1 ⟨rfl, rfl⟩
    have hW2 := Wr.new W
    have hs2 := (Step.refl [] W).alloc (.cells #[.slice none 0 0] 60)
    have hB2 := HB.out.step hs2 (by simp)
    obtain ⟨W2, hWW2⟩ : ∃ W2, W.alloc (.cells #[.slice none 0 0] 60) = W2 := ⟨_, rfl⟩
    obtain ⟨pb, hpb⟩ : ∃ pb, W.heap.size = pb := ⟨_, rfl⟩
    rw [hWW2] at hW2 hs2 hB2
    rw [hpb] at hW2
    have HWW2 := Lib.hid (And.intro hWW2 hpb)
    have HW := Lib.hid hW2
    have HS2 := Lib.hid hs2
    have HB2 := Lib.hid hB2
    clear hW2 hs2 hB2 hWW2 c0 c1 c2 HK hpb
    have c0 : W2.cell? ⟨xb, 0, none⟩ = some (.int .u64 (q.cl : Int)) := HB2.out.cell 0
    go_wp2_with (rw [HWW2.out.1, HWW2.out.2])
    have hp : W.heap.size ≤ pb := Nat.le_of_eq HWW2.out.2
    refine (num_any pb pb (.slice none 0 0) [] q.cl W2 HW.out HY.out.1 (by simp)).mono ?_
    rintro e w3 ⟨rfl, v3, hW3, hs3, -⟩
    have HS3 := Lib.hid (HS2.out.then hs3 (HW.out.new_blocks hp))
    have HW3 := Lib.hid hW3
    clear hs3 hW3 c0 HW HS2 HB2
    have c1 : w3.cell? ⟨xb, 1, none⟩ = some (.int .u64 (q.no : Int)) := (HB.out.step HS3.out (by simp)).cell 1
    go_wp2_with fail
    refine (num_any pb pb v3 _ q.no w3 HW3.out HY.out.2 (by have := numB_len q.cl; simp only [List.length_append, List.length_nil]; omega)).mono ?_
    rintro e w4 ⟨rfl, v4, hW4, hs4, -⟩
    have HS4 := Lib.hid (HS3.out.then hs4 (HW3.out.new_blocks hp))
    have HW4 := Lib.hid hW4
    clear hs4 hW4 c1 HW3 HS3
    have c2 : w4.cell? ⟨xb, 2, none⟩ = some (.int .i64 q.c.kd) := (HB.out.step HS4.out (by simp)).cell 2
    have HC4 := Lib.hid (num_any pb pb v4 _ q.c.kd.toNat w4 HW4.out (by have := HO.out.2; unfold M64; omega) (by have := numB_len q.cl; have := numB_len q.no; simp only [List.length_append, List.length_nil]; omega))
    rw [← HKN.out] at HC4
    go_wp2_with fail
    refine HC4.out.mono ?_
    rintro e w5 ⟨rfl, v5, hW5, hs5, -⟩
    have HS5 := Lib.hid (HS4.out.then hs5 (HW4.out.new_blocks hp))
    have HW5 := Lib.hid hW5
    clear hs5 hW5 c2 HW4 HS4 HC4
    have HC5 := Lib.hid (fields_w W pb pb v5 _ q a k xb w5 HW5.out hp HS5.out HT.out (by have := HB.out.step HS5.out (by simp); rwa [HN.out]) (fun hm => by
      have h1 := HB.out.lt
      rcases HW5.out.new_blocks (G := []) hp _ hm with h | h
      · cases h
      · omega) HX.out.1 HX.out.2 (by have := numB_len q.cl; have := numB_len q.no; have := numB_len q.c.kd.toNat; simp only [List.length_append, List.length_nil]; omega) HO.out)
    go_wp2_with fail
    refine HC5.out.mono ?_
    rintro e w6 ⟨rfl, v6, hW6, hs6, -⟩
    have hS6 := HS5.out.then hs6 (HW5.out.new_blocks hp)
    have HS6 := Lib.hid (HS.out.then hS6 (by simp))
    have hre : [] ++ numB q.cl ++ numB q.no ++ numB q.c.kd.toNat ++ fieldsB q.c = reqB q := by
      unfold reqB cmdB
      simp
    rw [hre] at hW6
    have HW6 := Lib.hid hW6
    clear hs6 hW6 hS6 hre HC5 HW5 HS5
    have hrl := reqB_len q HX.out.1
    go_wp2_with fail
    refine (wbytes_any pb pb v6 (reqB q) w6 HW6.out (by omega)).mono ?_
    rintro e w7 ⟨v7, rfl, hown, hs7⟩
    have HS7 := Lib.hid (HS6.out.then hs7 (by simp))
    have hown2 := owns_low (base' := w.heap.size) hown HS6.out.size
    obtain ⟨a7, cap7, rfl, hl7, -⟩ := owns_bytes hown2
    have HO7 := Lib.hid hown2
    clear hown hs7 hown2 HW6 HS6
    obtain ⟨L, hL⟩ : ∃ L, (reqB q).length = L := ⟨_, rfl⟩
    have HL := Lib.hid hL
    rw [hL] at hrl hl7 HO7 ⊢
    clear hL
    by_cases hlen : L ≤ 900
    · have hle : ¬ (900 : Int) < (L : Int) := by omega
      go_wp2_with fail
      go_ret2
      exact ⟨HS7.out, _, _, rfl, fun _ => ⟨HO.out, by rw [HL.out]; exact HO7.out⟩⟩
    · have hle : (900 : Int) < (L : Int) := by omega
      go_wp2_with fail
      go_ret2
      exact ⟨HS7.out, _, _, rfl, fun h => by cases h⟩
  · have HK := Lib.hid (known_no q.c.kd W hk)
    clear hk
    go_enter Try.func12, Try.ntmps12
    go_wp2_with (rw [HWW.out.1, HWW.out.2])
    refine HK.out.mono ?_
    rintro e w1 ⟨rfl, rfl⟩
    go_wp2_with fail
    go_ret2
    exact ⟨HS.out, _, _, rfl, fun h => by cases h⟩
end Go.Proofs.Ytdfkagpnfgmbeaa
