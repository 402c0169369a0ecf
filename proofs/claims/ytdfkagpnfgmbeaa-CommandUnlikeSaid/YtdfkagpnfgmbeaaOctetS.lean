/- octet: slices of bytes that are cut and read. -/
import Derived.Test.YtdfkagpnfgmbeaaOctetC
import Derived.Laws.IdiomStrings
import Derived.Lib.BufferRead
import Derived.Laws.Slices
namespace Go.Proofs.Ytdfkagpnfgmbeaa
set_option linter.unusedVariables false
open Go.RowKit

/-- a text of these bytes -/
def bstr (l : List UInt8) : ByteArray := ⟨⟨l⟩⟩

theorem bstr_app (l r : List UInt8) : bstr l ++ bstr r = bstr (l ++ r) := by
  apply ByteArray.ext
  simp [bstr, ByteArray.data_append]

theorem bstr_size (l : List UInt8) : (bstr l).size = l.length := by simp [bstr, ByteArray.size]

/-- a slice of bytes, whole: its bytes, its room, its form -/
structure SlB (w : World) (a : Option Addr) (l : List UInt8) (cap : Nat) : Prop where
  bytes : Bytes w a l
  nil : a = none → l.length = 0 ∧ cap = 0
  len : l.length ≤ cap
  max : cap ≤ maxLen
  plain : ∀ ad, a = some ad → ad.spot = none

def blkOf (a : Option Addr) : Option Nat := a.map (·.block)

theorem SlB.step {F : List Nat} {w w' : World} {a : Option Addr} {l : List UInt8} {cap : Nat} (h : SlB w a l cap) (hs : Step F w w') (hn : ∀ b, blkOf a = some b → b ∉ F) : SlB w' a l cap :=
  ⟨h.bytes.step hs fun b off hb => hn b (by rw [hb]; rfl), h.nil, h.len, h.max, h.plain⟩

theorem drop_getD {α : Type} (l : List α) (k i : Nat) (d : α) : (l.drop k).getD i d = l.getD (k + i) d := by simp [List.getD]

theorem SlB.cutLow {P : Program} {w : World} {a : Option Addr} {l : List UInt8} {cap : Nat} (h : SlB w a l cap) (t e : TypeId) (ht : P.underlying t = some (.slice e)) (hz : ∀ w, (Go.sizeOf e).run P w = .ok 1 w) (k : Nat) (hk : k ≤ l.length) :
    ∃ a', (∀ W : World, (Instr.slice t (.slice a l.length cap) (some (.int .i64 (k : Int))) none none).run P W = .ok (.slice a' (l.drop k).length (cap - k)) W) ∧ SlB w a' (l.drop k) (cap - k) ∧ blkOf a' = blkOf a := by
  have ht' : P.underlying t = some (.slice (P.elem t)) := by simp [Program.elem, ht]
  have he : P.elem t = e := by simp [Program.elem, ht]
  have hl := h.len
  refine ⟨if cap = k then a else a.map (·.add k), fun W => ?_, ?_, ?_⟩
  · rw [run_slice_l W t _ _ _ ht' .i64 _ (by omega) (by omega), he, hz]
    simp [Result.andThen, sliced]
  · by_cases hc : cap = k
    · rw [if_pos hc]
      have : l.drop k = [] := List.drop_eq_nil_of_le (by omega)
      rw [this]
      exact ⟨Bytes.nil _ _, fun ha => ⟨rfl, by omega⟩, Nat.zero_le _, by have := h.max; omega, h.plain⟩
    · rw [if_neg hc]
      cases a with
      | none => have := (h.nil rfl).2; omega
      | some ad =>
        have hsp := h.plain ad rfl
        obtain ⟨b, off, sp⟩ := ad
        simp only at hsp
        subst hsp
        refine ⟨fun i hi => ?_, fun ha => (by cases ha), by rw [List.length_drop]; omega, by have := h.max; omega, fun ad ha => ?_⟩
        · rw [List.length_drop] at hi
          obtain ⟨b', off', hb, hlt, hcell⟩ := h.bytes (k + i) (by omega)
          cases hb
          exact ⟨b, off + k, by simp [add_plain], hlt, by rw [drop_getD, Nat.add_assoc]; exact hcell⟩
        · simp only [Option.map_some, add_plain] at ha
          cases ha
          rfl
  · split
    · rfl
    · cases a with
      | none => rfl
      | some ad =>
        have hsp := h.plain ad rfl
        obtain ⟨b, off, sp⟩ := ad
        simp only at hsp
        subst hsp
        simp [blkOf, add_plain]

theorem SlB.cutHigh {P : Program} {w : World} {a : Option Addr} {l : List UInt8} {cap : Nat} (h : SlB w a l cap) (t e : TypeId) (ht : P.underlying t = some (.slice e)) (hz : ∀ w, (Go.sizeOf e).run P w = .ok 1 w) (k : Nat) (hk : k ≤ l.length) :
    (∀ W : World, (Instr.slice t (.slice a l.length cap) none (some (.int .i64 (k : Int))) none).run P W = .ok (.slice a (l.take k).length cap) W) ∧ SlB w a (l.take k) cap := by
  have ht' : P.underlying t = some (.slice (P.elem t)) := by simp [Program.elem, ht]
  have he : P.elem t = e := by simp [Program.elem, ht]
  have hl := h.len
  refine ⟨fun W => ?_, h.bytes.take k, fun ha => ?_, by rw [List.length_take]; omega, h.max, h.plain⟩
  · rw [run_slice_h W t _ _ _ ht' .i64 _ (by omega) (by omega), he, hz]
    have h1 : (l.take k).length = k := by rw [List.length_take]; omega
    rw [h1]
    simp only [Result.andThen, sliced, Nat.zero_mul, Int.toNat_natCast, Nat.sub_zero]
    cases a with
    | none => simp
    | some ad =>
      obtain ⟨b, off, sp⟩ := ad
      have hsp := h.plain _ rfl
      simp only at hsp
      subst hsp
      simp [add_plain]
  · have := h.nil ha
    rw [List.length_take]
    exact ⟨by omega, this.2⟩

theorem SlB.str {P : Program} {w : World} {a : Option Addr} {l : List UInt8} {cap : Nat} (h : SlB w a l cap) (src dst e : TypeId) (hs : P.underlying src = some (.slice e)) (he : P.underlying e = some (.int .u8)) (hd : P.underlying dst = some .string) :
    (convert src dst (.slice a l.length cap)).run P w = .ok (.string ⟨l.toArray⟩) w := by
  cases a with
  | none =>
    have h0 := (h.nil rfl).1
    have hl : l = [] := List.eq_nil_of_length_eq_zero h0
    subst hl
    exact Lib.run_convert_nil_bytes w src dst e cap hs he hd
  | some ad =>
    refine run_convert_bytes_back w src dst e ad cap l hs he hd fun j hj => ?_
    obtain ⟨b, off, ha, _, hc⟩ := h.bytes j hj
    cases ha
    rw [add_plain, hc]
    simp [List.getD, hj]

theorem owns_slb {w : World} {base e : Nat} {v : Value} {n : Nat} {l : List UInt8} (h : w.ownsRow base e 1 v n (l.map byteVal)) :
    ∃ a cap, v = .slice a l.length cap ∧ l.length = n ∧ SlB w a l cap ∧ (blkOf a).toList = foot v ∧ (∀ b, blkOf a = some b → base ≤ b ∧ b < w.heap.size) := by
  have h' := h.2
  obtain ⟨a, cap, rfl, hl, hm, hnc, hB, hn, hbk⟩ := owns_bytes h
  subst hl
  rcases h' with ⟨h1, h2⟩ | ⟨g, cap', cur, hv, hg, hh, hn', hcap, hsz, htake⟩
  · injection h1 with h1 h3 h4
    subst h1
    subst h4
    exact ⟨none, 0, rfl, rfl, ⟨hB, hn, hnc, Nat.zero_le _, fun ad h => (by cases h)⟩, rfl, fun b h => (by cases h)⟩
  · injection hv with h1 h3 h4
    subst h1
    subst h4
    refine ⟨_, _, rfl, rfl, ⟨hB, hn, hnc, hcap, fun ad h => (by cases h; rfl)⟩, rfl, fun b h => ?_⟩
    cases h
    exact hbk g 0 none rfl

theorem Try.sizeB : ∀ w, (Go.sizeOf 5).run Try.prog w = .ok 1 w := fun w => by
  obtain ⟨i0, hi, hz0, hz1, hz2⟩ := info_parts Try.infoB
  have h1 : Try.prog.cellsOf 5 = 1 := by kernel_rfl
  rw [run_sizeOf _ hi, h1]
end Go.Proofs.Ytdfkagpnfgmbeaa
