/- NetKeeps: what spoils a message. -/
import Derived.Test.YtminpglkipnhcaaNetL
namespace Go.Proofs.Ytminpglkipnhcaa
set_option linter.unusedVariables false
set_option linter.unusedSimpArgs false
open Go.RowKit
attribute [local go_sem ↓] exec_load_m exec_store_m
attribute [local go_sem] Try.load_m row_drew Try.store_m
/-- a cell of a byte, or of a number, may hold another one; others are as they were -/
def softV (v v' : Value) : Prop := v' = v ∨ ∃ k n n', v = .int k n ∧ v' = .int k n'
def Soft (w w' : World) : Prop := ∀ b i v, w.cell? ⟨b, i, none⟩ = some v → ∃ v', w'.cell? ⟨b, i, none⟩ = some v' ∧ softV v v'
theorem Soft.refl (w : World) : Soft w w := fun b i v h => ⟨v, h, .inl rfl⟩
theorem softV.trans {a b c : Value} (h : softV a b) (h' : softV b c) : softV a c := by
  rcases h with rfl | ⟨k, n, n', rfl, rfl⟩
  · exact h'
  · rcases h' with rfl | ⟨k2, m, m', e, rfl⟩
    · exact .inr ⟨k, n, n', rfl, rfl⟩
    · cases e
      exact .inr ⟨k, n, m', rfl, rfl⟩
theorem Soft.trans {a b c : World} (h : Soft a b) (h' : Soft b c) : Soft a c := fun p i v hv => by
  obtain ⟨v1, h1, h2⟩ := h p i v hv
  obtain ⟨v2, h3, h4⟩ := h' p i v1 h1
  exact ⟨v2, h3, h2.trans h4⟩
theorem Soft.slice {w w' : World} (h : Soft w w') {b i : Nat} {a : Option Addr} {n c : Nat} (hc : w.cell? ⟨b, i, none⟩ = some (.slice a n c)) : w'.cell? ⟨b, i, none⟩ = some (.slice a n c) := by
  obtain ⟨v, h1, h2⟩ := h b i _ hc
  rcases h2 with rfl | ⟨k, n, n', e, _⟩
  · exact h1
  · cases e
theorem Soft.int {w w' : World} (h : Soft w w') {b i : Nat} {k : IntKind} {n : Int} (hc : w.cell? ⟨b, i, none⟩ = some (.int k n)) : ∃ n', w'.cell? ⟨b, i, none⟩ = some (.int k n') := by
  obtain ⟨v, h1, h2⟩ := h b i _ hc
  rcases h2 with rfl | ⟨k, n, n', e, rfl⟩
  · exact ⟨_, h1⟩
  · cases e
    exact ⟨_, h1⟩
theorem Soft.set {w : World} {b i : Nat} {k : IntKind} {n n' : Int} (hb : ∃ C T, Blk w b C T) (hc : w.cell? ⟨b, i, none⟩ = some (.int k n)) : Soft w (w.setCell ⟨b, i, none⟩ (.int k n')) := by
  intro p j v hv
  obtain ⟨C, T, hb⟩ := hb
  by_cases e : p = b
  · subst e
    have h1 := (hb.set i (.int k n')).cell j
    rw [hb.cell j] at hv
    by_cases e2 : i = j
    · subst e2
      rw [hb.cell i] at hc
      rw [hc] at hv
      cases hv
      refine ⟨.int k n', ?_, .inr ⟨k, n, n', rfl, rfl⟩⟩
      rw [h1]
      have := (Array.getElem?_eq_some_iff.1 hc).1
      simp [this]
    · refine ⟨v, ?_, .inl rfl⟩
      rw [h1, ← hv]
      simp [Array.getElem?_setIfInBounds_ne e2]
  · have h2 : (w.setCell ⟨b, i, none⟩ (.int k n')).cell? ⟨p, j, none⟩ = w.cell? ⟨p, j, none⟩ := World.cell?_of_block (heap_setCell_other w ⟨b, i, none⟩ p (.int k n') e)
    exact ⟨v, h2.trans hv, .inl rfl⟩
/-- on the way of spoiling -/
structure SpI (D : List Nat) (w wr : World) : Prop where
  soft : Soft w wr
  st : Step D w wr
  uf : UnF wr D
theorem SpI.set {D : List Nat} {w wr : World} (h : SpI D w wr) {b i : Nat} {k : IntKind} {n n' : Int} (hb : b ∈ D) (hc : wr.cell? ⟨b, i, none⟩ = some (.int k n)) : SpI D w (wr.setCell ⟨b, i, none⟩ (.int k n')) :=
  ⟨h.soft.trans (Soft.set (h.uf b hb) hc), h.st.setCell (.inl hb) i _, h.uf.set b i _⟩
theorem SpI.free {D : List Nat} {w wr : World} (h : SpI D w wr) {b : Nat} (hb : b ∈ D) (i : Nat) : wr.frozen? ⟨b, i, none⟩ = false := by
  obtain ⟨C, T, h1⟩ := h.uf b hb
  exact h1.free i
set_option maxRecDepth 20000 in
set_option maxHeartbeats 2000000 in
theorem spoil_any (t : Tm) (w : World) (h : TmOk w t) :
    Calls Try.prog 14 #[.agg (msC t.x).toArray] w fun e w' => e = .returned (.tuple #[]) ∧ Step t.D w w' := by
  have hb1 := Blk.new w (msC t.x).toArray 31
  have hs1 := (Step.refl [] w).alloc (.cells (msC t.x).toArray 31)
  have h1 := h.step hs1 (fun k _ => List.not_mem_nil)
  have hbD : w.heap.size ∉ t.D := fun hk => by have := h.live _ hk; omega
  obtain ⟨W, hW⟩ : ∃ W, w.alloc (.cells (msC t.x).toArray 31) = W := ⟨_, rfl⟩
  obtain ⟨b1, hb⟩ : ∃ b, w.heap.size = b := ⟨_, rfl⟩
  rw [hW] at hb1 hs1 h1
  rw [hb] at hb1 hbD
  have HW := Lib.hid (And.intro hW hb)
  have H1 := Lib.hid (And.intro h1 (And.intro hb1 (And.intro hs1 hbD)))
  obtain ⟨-, -, -, -, c8, c9, c10⟩ := msg_cells hb1
  have hlen := h.few
  have e1 := h1.ok.da.len
  have e2 := h1.ok.ms.len
  obtain ⟨L, hL, hLM, hE, hEn⟩ := h1.ok.es.rows
  have HE := Lib.hid (And.intro hL (And.intro hLM (And.intro hE hEn)))
  have dn60 : t.x.dn ≤ 60 := by rw [← e1]; exact hlen.da
  have en9 : t.x.en ≤ 9 := by rw [← hLM]; exact hlen.es
  have mn9 : t.x.mn ≤ 9 := by rw [← e2]; exact hlen.ms
  have HD := Lib.hid hlen.ed
  clear h hs1 hb1 hbD hW hb h1 hlen e1 e2 hE hEn hL hLM
  go_enter Try.func14, Try.ntmps14
  go_wp2_with (rw [HW.out.1, HW.out.2])
  go_loopw [9] (fun s wr => ∃ j : Nat, s = .int .i64 (j : Int) ∧ j ≤ t.x.dn ∧ SpI t.D W wr) (fun s _ => t.x.dn - (intOf s).toNat)
  case atStart => exact ⟨0, rfl, Nat.zero_le _, Soft.refl _, Step.refl _ _, H1.out.1.uf⟩
  case round =>
    obtain ⟨j, rfl, hj, hI⟩ := hrel
    have HI := Lib.hid hI
    have d10 := hI.soft.slice c10
    by_cases hlt : j < t.x.dn
    · obtain ⟨b, off, ha, hbl, hc⟩ := H1.out.1.ok.da.rd j (by rw [H1.out.1.ok.da.len]; exact hlt)
      have hbD : b ∈ t.D := H1.out.1.ok.da.dm b off none ha
      obtain ⟨u, hu⟩ := hI.soft.int hc
      have hf := hI.free hbD (off + j)
      have p1 : (j : Int) < (t.x.dn : Int) := by omega
      have HBD := Lib.hid (And.intro hbD ha)
      clear hI hbl hc hbD
      rw [ha] at d10
      go_wp2_with fail
      have hs : SpI t.D W (wr.setCell ⟨b, off + j, none⟩ (.int .u8 (bits BinOp.xor IntKind.u8 u 255))) := HI.out.set HBD.out.1 hu
      exact ⟨⟨j + 1, by go_num, hlt, hs⟩, by simp [intOf]; omega⟩
    · have hje : j = t.x.dn := by omega
      subst hje
      have d8 := hI.soft.slice c8
      clear hI hj hlt
      go_wp2_with fail
      go_loopw [23] (fun s wr => ∃ j : Nat, s = .int .i64 (j : Int) ∧ j ≤ t.x.en ∧ SpI t.D W wr) (fun s _ => t.x.en - (intOf s).toNat)
      case atStart => exact ⟨0, rfl, Nat.zero_le _, HI.out⟩
      case round =>
        clear HI d8 d10
        obtain ⟨j, rfl, hj, hI⟩ := hrel
        have HI := Lib.hid hI
        have d8 := hI.soft.slice c8
        by_cases hlt : j < t.x.en
        · obtain ⟨b, off, ha, hbl, -, -, -, hc⟩ := HE.out.2.2.1 j (by rw [HE.out.1]; exact hlt)
          obtain ⟨x, hx⟩ : ∃ x, L.getD j en0 = x := ⟨_, rfl⟩
          rw [hx] at hc
          have hx2 : L[j]? = some x := by rw [← hx, List.getD_eq_getElem?_getD, List.getElem?_eq_getElem (by rw [HE.out.1]; exact hlt)]; rfl
          obtain ⟨e, he⟩ : ∃ e, t.M.es[j]? = some e := ⟨_, List.getElem?_eq_getElem (by rw [HE.out.2.1]; exact hlt)⟩
          have hok := HE.out.2.2.2 j x e hx2 he
          have hd60 := HD.out e (List.mem_of_getElem? he)
          have hdl := hok.da.len
          have dd60 : x.dn ≤ 60 := by omega
          have HOK := Lib.hid hok
          have dc := hI.soft.slice hc
          have p1 : (j : Int) < (t.x.en : Int) := by omega
          have HBA := Lib.hid (And.intro ha hc)
          clear hI hbl hc hx hx2 he hok hd60 hdl
          rw [ha] at d8
          go_wp2_with fail
          go_loopw [33] (fun s wr => ∃ k : Nat, s = .int .i64 (k : Int) ∧ k ≤ x.dn ∧ SpI t.D W wr) (fun s _ => x.dn - (intOf s).toNat)
          case atStart => exact ⟨0, rfl, Nat.zero_le _, HI.out⟩
          case round =>
            clear dc d8 HI
            obtain ⟨k, rfl, hk, hI⟩ := hrel
            have HI := Lib.hid hI
            have d8 := hI.soft.slice c8
            have dc := hI.soft.slice HBA.out.2
            rw [HBA.out.1] at d8
            by_cases hkt : k < x.dn
            · obtain ⟨b2, off2, ha2, hbl2, hc2⟩ := HOK.out.da.rd k (by rw [HOK.out.da.len]; exact hkt)
              have hbD : b2 ∈ t.D := HOK.out.da.dm b2 off2 none ha2
              obtain ⟨u, hu⟩ := hI.soft.int hc2
              have hf := hI.free hbD (off2 + k)
              have p2 : (k : Int) < (x.dn : Int) := by omega
              have HBD := Lib.hid (And.intro hbD ha2)
              clear hI hbl2 hc2 hbD
              rw [ha2] at dc
              go_wp2_with fail
              have hs : SpI t.D W (wr.setCell ⟨b2, off2 + k, none⟩ (.int .u8 (bits BinOp.xor IntKind.u8 u 255))) := HI.out.set HBD.out.1 hu
              exact ⟨⟨k + 1, by go_num, hkt, hs⟩, by simp [intOf]; omega⟩
            · have hke : k = x.dn := by omega
              subst hke
              clear hI hk hkt dc d8
              go_wp2_with fail
              exact ⟨⟨j + 1, by go_num, hlt, HI.out⟩, by simp [intOf]; omega⟩
        · have hje : j = t.x.en := by omega
          subst hje
          have d9 := hI.soft.slice c9
          clear hI hj hlt d8
          go_wp2_with fail
          go_loopw [52] (fun s wr => ∃ j : Nat, s = .int .i64 (j : Int) ∧ j ≤ t.x.mn ∧ SpI t.D W wr) (fun s _ => t.x.mn - (intOf s).toNat)
          case atStart => exact ⟨0, rfl, Nat.zero_le _, HI.out⟩
          case round =>
            clear HI d9
            obtain ⟨j, rfl, hj, hI⟩ := hrel
            have HI := Lib.hid hI
            have d9 := hI.soft.slice c9
            by_cases hlt : j < t.x.mn
            · obtain ⟨b, off, ha, hbl, hc⟩ := H1.out.1.ok.ms.rd j (by rw [H1.out.1.ok.ms.len]; exact hlt)
              have hbD : b ∈ t.D := H1.out.1.ok.ms.dm b off none ha
              obtain ⟨u, hu⟩ := hI.soft.int hc
              have hf := hI.free hbD (off + j)
              have p1 : (j : Int) < (t.x.mn : Int) := by omega
              have HBD := Lib.hid (And.intro hbD ha)
              clear hI hbl hc hbD
              rw [ha] at d9
              go_wp2_with fail
              have hs : SpI t.D W (wr.setCell ⟨b, off + j, none⟩ (.int .i64 0)) := HI.out.set HBD.out.1 hu
              exact ⟨⟨j + 1, by go_num, hlt, hs⟩, by simp [intOf]; omega⟩
            · have hje : j = t.x.mn := by omega
              subst hje
              clear hI hj hlt d9
              go_wp2_with fail
              go_end0
              exact ⟨rfl, (H1.out.2.2.1.mono (by simp)).then HI.out.st (fun k hk => .inl hk)⟩
end Go.Proofs.Ytminpglkipnhcaa
