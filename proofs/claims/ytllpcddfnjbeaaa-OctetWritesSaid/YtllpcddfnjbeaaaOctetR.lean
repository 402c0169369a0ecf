/- octet.Reader: Read, Err, fail, one, Num, Int, Count, Text, Flag, Left, End. -/
import Derived.Test.YtllpcddfnjbeaaaOctetW2
import Derived.Laws.IdiomStrings
import Derived.Lib.BufferRead
import Derived.Laws.Slices
namespace Go.Proofs.Ytllpcddfnjbeaaa
set_option linter.unusedVariables false
open Go.RowKit

/-- a slice of bytes, whole: its bytes, its room, its form -/
structure SlB (w : World) (a : Option Addr) (l : List UInt8) (cap : Nat) : Prop where
  bytes : Bytes w a l
  nil : a = none → l.length = 0 ∧ cap = 0
  len : l.length ≤ cap
  max : cap ≤ maxLen
  plain : ∀ ad, a = some ad → ad.spot = none

def blkOf (a : Option Addr) : Option Nat := a.map (·.block)

theorem SlB.step {F : List Nat} {w w' : World} {a : Option Addr} {l : List UInt8} {cap : Nat} (h : SlB w a l cap) (hs : Step F w w') (hn : ∀ b, blkOf a = some b → b ∉ F) : SlB w' a l cap :=
  ⟨h.bytes.step hs fun b off hb => hn b (by rw [hb]; rfl), h.nil, h.len, h.max, h.plain⟩

theorem drop_getD {α : Type} (l : List α) (k i : Nat) (d : α) : (l.drop k).getD i d = l.getD (k + i) d := by simp [List.getD]

theorem SlB.cutLow {P : Program} {w : World} {a : Option Addr} {l : List UInt8} {cap : Nat} (h : SlB w a l cap) (t e : TypeId) (ht : P.underlying t = some (.slice e)) (hz : ∀ w, (Go.sizeOf e).run P w = .ok 1 w) (k : Nat) (hk : k ≤ l.length) :
    ∃ a', (∀ W : World, (Instr.slice t (.slice a l.length cap) (some (.int .i64 (k : Int))) none none).run P W = .ok (.slice a' (l.drop k).length (cap - k)) W) ∧ SlB w a' (l.drop k) (cap - k) ∧ blkOf a' = blkOf a := by
  have ht' : P.underlying t = some (.slice (P.elem t)) := by simp [Program.elem, ht]
  have he : P.elem t = e := by simp [Program.elem, ht]
  have hl := h.len
  refine ⟨if cap = k then a else a.map (·.add k), fun W => ?_, ?_, ?_⟩
  · rw [run_slice_l W t _ _ _ ht' .i64 _ (by omega) (by omega), he, hz]
    simp [Result.andThen, sliced]
  · by_cases hc : cap = k
    · rw [if_pos hc]
      have : l.drop k = [] := List.drop_eq_nil_of_le (by omega)
      rw [this]
      exact ⟨Bytes.nil _ _, fun ha => ⟨rfl, by omega⟩, Nat.zero_le _, by have := h.max; omega, h.plain⟩
    · rw [if_neg hc]
      cases a with
      | none => have := (h.nil rfl).2; omega
      | some ad =>
        have hsp := h.plain ad rfl
        obtain ⟨b, off, sp⟩ := ad
        simp only at hsp
        subst hsp
        refine ⟨fun i hi => ?_, fun ha => (by cases ha), by rw [List.length_drop]; omega, by have := h.max; omega, fun ad ha => ?_⟩
        · rw [List.length_drop] at hi
          obtain ⟨b', off', hb, hlt, hcell⟩ := h.bytes (k + i) (by omega)
          cases hb
          exact ⟨b, off + k, by simp [add_plain], hlt, by rw [drop_getD, Nat.add_assoc]; exact hcell⟩
        · simp only [Option.map_some, add_plain] at ha
          cases ha
          rfl
  · split
    · rfl
    · cases a with
      | none => rfl
      | some ad =>
        have hsp := h.plain ad rfl
        obtain ⟨b, off, sp⟩ := ad
        simp only at hsp
        subst hsp
        simp [blkOf, add_plain]

theorem SlB.cutHigh {P : Program} {w : World} {a : Option Addr} {l : List UInt8} {cap : Nat} (h : SlB w a l cap) (t e : TypeId) (ht : P.underlying t = some (.slice e)) (hz : ∀ w, (Go.sizeOf e).run P w = .ok 1 w) (k : Nat) (hk : k ≤ l.length) :
    (∀ W : World, (Instr.slice t (.slice a l.length cap) none (some (.int .i64 (k : Int))) none).run P W = .ok (.slice a (l.take k).length cap) W) ∧ SlB w a (l.take k) cap := by
  have ht' : P.underlying t = some (.slice (P.elem t)) := by simp [Program.elem, ht]
  have he : P.elem t = e := by simp [Program.elem, ht]
  have hl := h.len
  refine ⟨fun W => ?_, h.bytes.take k, fun ha => ?_, by rw [List.length_take]; omega, h.max, h.plain⟩
  · rw [run_slice_h W t _ _ _ ht' .i64 _ (by omega) (by omega), he, hz]
    have h1 : (l.take k).length = k := by rw [List.length_take]; omega
    rw [h1]
    simp only [Result.andThen, sliced, Nat.zero_mul, Int.toNat_natCast, Nat.sub_zero]
    cases a with
    | none => simp
    | some ad =>
      obtain ⟨b, off, sp⟩ := ad
      have hsp := h.plain _ rfl
      simp only at hsp
      subst hsp
      simp [add_plain]
  · have := h.nil ha
    rw [List.length_take]
    exact ⟨by omega, this.2⟩

theorem SlB.str {P : Program} {w : World} {a : Option Addr} {l : List UInt8} {cap : Nat} (h : SlB w a l cap) (src dst e : TypeId) (hs : P.underlying src = some (.slice e)) (he : P.underlying e = some (.int .u8)) (hd : P.underlying dst = some .string) :
    (convert src dst (.slice a l.length cap)).run P w = .ok (.string ⟨l.toArray⟩) w := by
  cases a with
  | none =>
    have h0 := (h.nil rfl).1
    have hl : l = [] := List.eq_nil_of_length_eq_zero h0
    subst hl
    exact Lib.run_convert_nil_bytes w src dst e cap hs he hd
  | some ad =>
    refine run_convert_bytes_back w src dst e ad cap l hs he hd fun j hj => ?_
    obtain ⟨b, off, ha, _, hc⟩ := h.bytes j hj
    cases ha
    rw [add_plain, hc]
    simp [List.getD, hj]

theorem owns_slb {w : World} {base e : Nat} {v : Value} {n : Nat} {l : List UInt8} (h : w.ownsRow base e 1 v n (l.map byteVal)) :
    ∃ a cap, v = .slice a l.length cap ∧ l.length = n ∧ SlB w a l cap ∧ (blkOf a).toList = foot v ∧ (∀ b, blkOf a = some b → base ≤ b ∧ b < w.heap.size) := by
  have h' := h.2
  obtain ⟨a, cap, rfl, hl, hm, hnc, hB, hn, hbk⟩ := owns_bytes h
  subst hl
  rcases h' with ⟨h1, h2⟩ | ⟨g, cap', cur, hv, hg, hh, hn', hcap, hsz, htake⟩
  · injection h1 with h1 h3 h4
    subst h1
    subst h4
    exact ⟨none, 0, rfl, rfl, ⟨hB, hn, hnc, Nat.zero_le _, fun ad h => (by cases h)⟩, rfl, fun b h => (by cases h)⟩
  · injection hv with h1 h3 h4
    subst h1
    subst h4
    refine ⟨_, _, rfl, rfl, ⟨hB, hn, hnc, hcap, fun ad h => (by cases h; rfl)⟩, rfl, fun b h => ?_⟩
    cases h
    exact hbk g 0 none rfl

theorem Try.sizeB : ∀ w, (Go.sizeOf 5).run Try.prog w = .ok 1 w := fun w => by
  obtain ⟨i0, hi, hz0, hz1, hz2⟩ := info_parts Try.infoB
  have h1 : Try.prog.cellsOf 5 = 1 := by kernel_rfl
  rw [run_sizeOf _ hi, h1]

/-- a reader in block rb over bytes in block db: what is left, and the first error -/
def Rd (w : World) (rb db : Nat) (l : List UInt8) (e : Int) : Prop :=
  ∃ a cap, Blk w rb #[.slice a l.length cap, .int .i64 e] 55 ∧ SlB w a l cap ∧ (∀ b, blkOf a = some b → b = db) ∧ db ≠ rb

theorem Rd.step {F : List Nat} {w w' : World} {rb db : Nat} {l : List UInt8} {e : Int} (h : Rd w rb db l e) (hs : Step F w w') (h1 : rb ∉ F) (h2 : db ∉ F) : Rd w' rb db l e := by
  obtain ⟨a, cap, hb, hsl, hd, hne⟩ := h
  exact ⟨a, cap, hb.step hs h1, hsl.step hs (fun b hb => by rw [hd b hb]; exact h2), hd, hne⟩

/-- what a reader's method leaves -/
def Left (rb db : Nat) (l : List UInt8) (e : Int) (w : World) (w' : World) : Prop := Rd w' rb db l e ∧ Step [rb] w w'

theorem Left.trans {rb db : Nat} {l l' : List UInt8} {e e' : Int} {w w' w'' : World} (h : Left rb db l e w w') (h' : Left rb db l' e' w' w'') : Left rb db l' e' w w'' :=
  ⟨h'.1, h.2.trans h'.2 (fun k hk => .inl hk)⟩

set_option maxHeartbeats 400000 in
theorem rerr_any (rb db : Nat) (l : List UInt8) (e : Int) (w : World) (h : Rd w rb db l e) :
    Calls Try.prog 13 #[.pointer (some ⟨rb, 0, none⟩)] w fun en w' => en = .returned (.int .i64 e) ∧ w = w' := by
  obtain ⟨a, cap, hb, hsl, hd, hne⟩ := h
  have hc := hb.cell 1
  simp at hc
  clear hb hsl hd hne
  go_enter Try.func13, Try.ntmps13
  go_wp2
  go_ret
  exact ⟨rfl, rfl⟩

set_option maxHeartbeats 400000 in
theorem rfail_any (rb db : Nat) (l : List UInt8) (e x : Int) (w : World) (h : Rd w rb db l e) :
    Calls Try.prog 27 #[.pointer (some ⟨rb, 0, none⟩), .int .i64 x] w fun en w' => en = .returned (.tuple #[]) ∧ Left rb db (if e = 0 then [] else l) (if e = 0 then x else e) w w' := by
  have HE := Lib.hid (rerr_any rb db l e w h)
  have HR := Lib.hid h
  obtain ⟨a, cap, hb, hsl, hd, hne⟩ := h
  have hf0 := hb.free 0
  have hf1 := hb.free 1
  have hc0 := hb.cell 0
  have hc1 := hb.cell 1
  simp at hc0 hc1
  have HB := Lib.hid hb
  clear hb hsl hd
  by_cases h0 : e = 0
  · subst h0
    go_enter Try.func27, Try.ntmps27
    go_wp2_with fail
    refine HE.out.mono ?_
    rintro e w1 ⟨rfl, rfl⟩
    go_wp2_with fail
    go_end0
    refine ⟨rfl, ⟨none, 0, ?_, ⟨Bytes.nil _ _, fun _ => ⟨rfl, rfl⟩, Nat.le_refl _, Nat.zero_le _, fun ad h => (by cases h)⟩, fun b h => (by cases h), hne⟩, ((Step.refl _ _).setCell (.inl (by simp)) _ _).setCell (.inl (by simp)) _ _⟩
    exact (HB.out.set 1 _).set 0 _
  · have h0' : (e == 0) = false := by simpa using h0
    rw [if_neg h0, if_neg h0]
    go_enter Try.func27, Try.ntmps27
    go_wp2_with fail
    refine HE.out.mono ?_
    rintro e w1 ⟨rfl, rfl⟩
    go_wp2_with fail
    go_end0
    exact ⟨rfl, HR.out, Step.refl _ _⟩

/-- the next byte -/
def oneR (l : List UInt8) (e : Int) : UInt8 × List UInt8 × Int :=
  if e = 0 then match l with
    | [] => (0, [], 4)
    | b :: t => (b, t, 0)
  else (0, l, e)

set_option maxHeartbeats 1000000 in
theorem rone_any (rb db : Nat) (l : List UInt8) (e : Int) (w : World) (h : Rd w rb db l e) :
    Calls Try.prog 26 #[.pointer (some ⟨rb, 0, none⟩)] w fun en w' => en = .returned (.int .u8 ((oneR l e).1.toNat : Int)) ∧ Left rb db (oneR l e).2.1 (oneR l e).2.2 w w' := by
  have HE := Lib.hid (rerr_any rb db l e w h)
  have HF := Lib.hid (fun x => rfail_any rb db l e x w h)
  have HR := Lib.hid h
  obtain ⟨a, cap, hb, hsl, hd, hne⟩ := h
  have hf0 := hb.free 0
  have hc0 := hb.cell 0
  have hc1 := hb.cell 1
  simp at hc0 hc1
  have HB := Lib.hid hb
  have HD := Lib.hid hd
  by_cases h0 : e = 0
  · subst h0
    cases l with
    | nil =>
      clear hb hsl hd
      go_enter Try.func26, Try.ntmps26
      go_wp2_with fail
      refine HE.out.mono ?_
      rintro e w1 ⟨rfl, rfl⟩
      go_wp2_with fail
      refine (HF.out 4).mono ?_
      rintro e w1 ⟨rfl, h1⟩
      have HE1 := Lib.hid (rerr_any rb db _ _ w1 h1.1)
      have H1 := Lib.hid h1
      clear h1 hc0 hc1 hf0
      go_wp2_with fail
      refine HE1.out.mono ?_
      rintro e w2 ⟨rfl, rfl⟩
      go_wp2_with fail
      go_ret
      exact ⟨rfl, H1.out⟩
    | cons b t =>
      have hlen0 : ((b :: t).length == 0) = false := by simp
      obtain ⟨a', hcut, hsl', hbk⟩ := hsl.cutLow (P := Try.prog) 25 5 Try.underlying25 Try.sizeB 1 (by simp)
      obtain ⟨db', off, rfl, hlt, hcell⟩ := hsl.bytes 0 (by simp)
      simp at hcell hcut hc0 hsl'
      have HS := Lib.hid hsl'
      have HK := Lib.hid hbk
      clear hlen0
      clear hb hsl hd hsl' hbk
      go_enter Try.func26, Try.ntmps26
      go_wp2_with fail
      refine HE.out.mono ?_
      rintro e w1 ⟨rfl, rfl⟩
      go_wp2_with fail
      refine HE.out.mono ?_
      rintro e w1 ⟨rfl, rfl⟩
      go_wp2_with fail
      go_ret
      refine ⟨rfl, ⟨a', cap - 1, ?_, HS.out.step ((Step.refl [rb] _).setCell (.inl (by simp)) _ _) (fun b hb => by rw [HD.out b (by rw [← HK.out]; exact hb)]; simpa using hne), fun b hb => HD.out b (by rw [← HK.out]; exact hb), hne⟩, (Step.refl _ _).setCell (.inl (by simp)) _ _⟩
      exact HB.out.set 0 _
  · have h0' : (e == 0) = false := by simpa using h0
    have hone : oneR l e = (0, l, e) := by unfold oneR; rw [if_neg h0]
    rw [hone]
    clear hb hsl hd
    go_enter Try.func26, Try.ntmps26
    go_wp2_with fail
    refine HE.out.mono ?_
    rintro e w1 ⟨rfl, rfl⟩
    go_wp2_with fail
    refine HE.out.mono ?_
    rintro e w1 ⟨rfl, rfl⟩
    go_wp2_with fail
    go_ret
    exact ⟨rfl, HR.out, Step.refl _ _⟩

/-- a flag's byte -/
def flagR (l : List UInt8) (e : Int) : Bool × List UInt8 × Int :=
  let r := oneR l e
  if 1 < r.1.toNat then (false, [], 2) else (r.1.toNat == 1, r.2.1, r.2.2)

theorem oneR_err {l : List UInt8} {e : Int} (h : (oneR l e).2.2 ≠ 0) : (oneR l e).1 = 0 := by
  unfold oneR at *
  split
  · rename_i h0
    rw [if_pos h0] at h
    split
    · rfl
    · exact absurd rfl h
  · rfl

set_option maxHeartbeats 1000000 in
theorem rflag_any (rb db : Nat) (l : List UInt8) (e : Int) (w : World) (h : Rd w rb db l e) :
    Calls Try.prog 12 #[.pointer (some ⟨rb, 0, none⟩)] w fun en w' => en = .returned (.bool (flagR l e).1) ∧ Left rb db (flagR l e).2.1 (flagR l e).2.2 w w' := by
  have HO := Lib.hid (rone_any rb db l e w h)
  clear h
  have hE := @oneR_err l e
  unfold flagR
  generalize oneR l e = r at *
  obtain ⟨b, l1, e1⟩ := r
  simp only at *
  have hb := b.toNat_lt
  have HE := Lib.hid hE
  clear hE
  by_cases h1 : 1 < b.toNat
  · have he : e1 = 0 := by
      by_cases h : e1 = 0
      · exact h
      · have h2 := HE.out h
        subst h2
        simp at h1
    subst he
    rw [if_pos h1]
    go_enter Try.func12, Try.ntmps12
    go_wp2_with fail
    refine HO.out.mono ?_
    rintro e w1 ⟨rfl, hL⟩
    have HL := Lib.hid hL
    have HF := Lib.hid (rfail_any rb db _ _ 2 w1 hL.1)
    clear hL
    go_wp2_with fail
    refine HF.out.mono ?_
    rintro e w2 ⟨rfl, hM⟩
    go_wp2_with fail
    go_ret
    exact ⟨rfl, HL.out.trans hM⟩
  · rw [if_neg h1]
    go_enter Try.func12, Try.ntmps12
    go_wp2_with fail
    refine HO.out.mono ?_
    rintro e w1 ⟨rfl, hL⟩
    go_wp2_with fail
    go_ret
    exact ⟨ret_bool (by rw [Bool.eq_iff_iff]; simp; omega), hL⟩

set_option maxHeartbeats 1000000 in
theorem rleft_any (rb db : Nat) (l : List UInt8) (e : Int) (w : World) (h : Rd w rb db l e) :
    Calls Try.prog 15 #[.pointer (some ⟨rb, 0, none⟩)] w fun en w' => en = .returned (.int .i64 (if e = 0 then (l.length : Int) else 0)) ∧ w = w' := by
  have HE := Lib.hid (rerr_any rb db l e w h)
  obtain ⟨a, cap, hb, hsl, hd, hne⟩ := h
  have hc0 := hb.cell 0
  simp at hc0
  clear hb hsl hd hne
  by_cases h0 : e = 0
  · subst h0
    go_enter Try.func15, Try.ntmps15
    go_wp2_with fail
    refine HE.out.mono ?_
    rintro e w1 ⟨rfl, rfl⟩
    go_wp2_with fail
    go_ret
    exact ⟨rfl, rfl⟩
  · have h0' : (e == 0) = false := by simpa using h0
    rw [if_neg h0]
    go_enter Try.func15, Try.ntmps15
    go_wp2_with fail
    refine HE.out.mono ?_
    rintro e w1 ⟨rfl, rfl⟩
    go_wp2_with fail
    go_ret
    exact ⟨rfl, rfl⟩

/-- what End says -/
def endR (l : List UInt8) (e : Int) : Int := if e = 0 ∧ 0 < l.length then 15 else e

set_option maxHeartbeats 1000000 in
theorem rend_any (rb db : Nat) (l : List UInt8) (e : Int) (w : World) (h : Rd w rb db l e) :
    Calls Try.prog 14 #[.pointer (some ⟨rb, 0, none⟩)] w fun en w' => en = .returned (.int .i64 (endR l e)) ∧ w = w' := by
  have HE := Lib.hid (rerr_any rb db l e w h)
  have HL := Lib.hid (rleft_any rb db l e w h)
  clear h
  unfold endR
  generalize l.length = n at *
  by_cases h0 : e = 0
  · subst h0
    by_cases hn : 0 < n
    · have hh : (if (0 : Int) = 0 then (n : Int) else 0) = (n : Int) := by simp
      rw [hh] at HL
      rw [if_pos ⟨rfl, hn⟩]
      clear hh
      go_enter Try.func14, Try.ntmps14
      go_wp2_with fail
      refine HL.out.mono ?_
      rintro e w1 ⟨rfl, rfl⟩
      go_wp2_with fail
      go_ret
      exact ⟨rfl, rfl⟩
    · have : n = 0 := by omega
      subst this
      rw [if_neg (by simp)]
      go_enter Try.func14, Try.ntmps14
      go_wp2_with fail
      refine HL.out.mono ?_
      rintro e w1 ⟨rfl, rfl⟩
      go_wp2_with fail
      refine HE.out.mono ?_
      rintro e w1 ⟨rfl, rfl⟩
      go_wp2_with fail
      go_ret
      exact ⟨rfl, rfl⟩
  · have hh : (if e = 0 then (n : Int) else 0) = 0 := if_neg h0
    rw [hh] at HL
    rw [if_neg (fun h => h0 h.1)]
    clear hh
    go_enter Try.func14, Try.ntmps14
    go_wp2_with fail
    refine HL.out.mono ?_
    rintro e w1 ⟨rfl, rfl⟩
    go_wp2_with fail
    refine HE.out.mono ?_
    rintro e w1 ⟨rfl, rfl⟩
    go_wp2_with fail
    go_ret
    exact ⟨rfl, rfl⟩

set_option maxHeartbeats 1000000 in
theorem rread_any (a : Option Addr) (cap : Nat) (l : List UInt8) (w : World) (hS : SlB w a l cap) (hlen : l.length ≤ 70368744177664) :
    Calls Try.prog 11 #[.slice a l.length cap] w fun en w' => ∃ rb db, en = .returned (.pointer (some ⟨rb, 0, none⟩)) ∧ Rd w' rb db l 0 ∧ Step [] w w' ∧ w.heap.size ≤ rb ∧ w.heap.size ≤ db := by
  have HC := Lib.hid (clone_bytes a cap l w hS.nil hS.bytes hlen)
  clear hS
  go_enter Try.func11, Try.ntmps11
  go_wp2_with fail
  refine HC.out.mono ?_
  rintro e w1 ⟨v, rfl, hown, hst⟩
  obtain ⟨a', cap', rfl, -, hsl, hft, hbk⟩ := owns_slb hown
  have HS := Lib.hid hsl
  have HB := Lib.hid hbk
  have HT := Lib.hid hst
  clear hsl hft hbk hst hown
  go_wp2_with fail
  go_ret
  have hsz := HT.out.size
  refine ⟨w1.heap.size, (blkOf a').getD (w1.heap.size + 1), rfl, ⟨a', cap', Blk.new _ _ _, HS.out.step ((Step.refl [] _).alloc _) (by simp), fun b hb => by rw [hb]; rfl, ?_⟩, HT.out.alloc _, hsz, ?_⟩
  · cases hb : blkOf a' with
    | none => simp
    | some b => have := HB.out b hb; simp; omega
  · cases hb : blkOf a' with
    | none => simp; omega
    | some b => have := HB.out b hb; simp; omega

end Go.Proofs.Ytllpcddfnjbeaaa
