/- octet.Writer: Num. -/
import Derived.Test.YtdfkagpnfgmbeaaOctetC
namespace Go.Proofs.Ytdfkagpnfgmbeaa
set_option linter.unusedVariables false
open Go.RowKit

/-- a number's bytes: seven bits each, the lowest first -/
def numF : Nat → Nat → List UInt8
  | 0, x => [UInt8.ofNat x]
  | k + 1, x => if x < 128 then [UInt8.ofNat x] else UInt8.ofNat (x % 128 + 128) :: numF k (x / 128)

def numB (x : Nat) : List UInt8 := numF 9 x

theorem numF_len : ∀ k x, 1 ≤ (numF k x).length ∧ (numF k x).length ≤ k + 1
  | 0, x => by simp [numF]
  | k + 1, x => by
    unfold numF
    have := numF_len k (x / 128)
    split
    · simp
    · simp; omega

theorem numB_len (x : Nat) : 1 ≤ (numB x).length ∧ (numB x).length ≤ 10 := numF_len 9 x

theorem numF_low (k x : Nat) (h : x < 128) : numF k x = [UInt8.ofNat x] := by
  cases k with
  | zero => rfl
  | succ k => simp [numF, h]

theorem numF_high (k x : Nat) (h : ¬ x < 128) : numF (k + 1) x = UInt8.ofNat (x % 128 + 128) :: numF k (x / 128) := by simp [numF, h]

/-- a writer in block pb: its slice v holds just these bytes -/
structure Wr (w : World) (base pb : Nat) (v : Value) (bs : List UInt8) : Prop where
  blk : Blk w pb #[v] 60
  own : w.ownsRow base 5 1 v bs.length (bs.map byteVal)
  low : base ≤ pb
  apart : pb ∉ foot v

theorem Wr.step {F : List Nat} {w w' : World} {base pb : Nat} {v : Value} {bs : List UInt8} (h : Wr w base pb v bs) (hs : Step F w w') (h1 : pb ∉ F) (h2 : ∀ k, k ∈ foot v → k ∉ F) : Wr w' base pb v bs :=
  ⟨h.blk.step hs h1, owns_step h.own hs h2, h.low, h.apart⟩

/-- a writer behind an append that was stored back -/
theorem Wr.put {w w2 w0 : World} {base pb : Nat} {v v2 : Value} {cur l : List UInt8} (h : Wr w base pb v cur) (hs : Step (foot v) w w2)
    (hown : w2.ownsRow base 5 1 v2 (cur.length + l.length) (cur.map byteVal ++ l.map byteVal)) (h0 : w.heap.size ≤ w0.heap.size) (hf : Fresh w0 (foot v) (foot v2)) :
    Wr (w2.setCell ⟨pb, 0, none⟩ v2) base pb v2 (cur ++ l) ∧ Step (pb :: foot v) w (w2.setCell ⟨pb, 0, none⟩ v2) ∧ Fresh w (foot v) (foot v2) := by
  have hlt := h.blk.lt
  have hap : pb ∉ foot v2 := fun hk => (hf pb hk).elim h.apart (fun h2 => by omega)
  refine ⟨⟨?_, ?_, h.low, hap⟩, (hs.mono (fun k hk => List.mem_cons_of_mem _ hk)).setCell (.inl (List.mem_cons_self)) 0 v2, fun k hk => (hf k hk).imp id (fun h2 => by omega)⟩
  · exact (h.blk.step hs h.apart).set 0 v2
  · rw [List.length_append, List.map_append]
    refine owns_step hown ((Step.refl [pb] w2).setCell (.inl (by simp)) 0 v2) (fun k hk hm => ?_)
    simp at hm
    subst hm
    exact hap hk

/-- what a writing leaves -/
def Wrote (base pb : Nat) (v : Value) (bs : List UInt8) (w : World) (e : Ending) (w' : World) : Prop :=
  e = .returned (.tuple #[]) ∧ ∃ v', Wr w' base pb v' bs ∧ Step (pb :: foot v) w w' ∧ Fresh w (foot v) (foot v')

theorem or_128 (x : Nat) : bits .or .u8 ((x : Int) % 256) 128 = ((UInt8.ofNat (x % 128 + 128)).toNat : Int) := by
  have h1 := u8_or_nat (x % 256) 128 (by omega) (by decide)
  have e1 : ((x % 256 : Nat) : Int) = (x : Int) % 256 := by omega
  have e2 : x % 256 ||| 128 = x % 128 + 128 := by
    have : x % 256 = x % 128 ∨ x % 256 = x % 128 + 128 := by omega
    rcases this with h | h
    · rw [h, Nat.or_comm]
      rw [nat_join 7 128 (x % 128) (by decide) (by omega), Nat.add_comm]
    · rw [h]
      have e3 : x % 128 + 128 = 128 ||| x % 128 := by rw [nat_join 7 128 (x % 128) (by decide) (by omega)]; omega
      rw [e3, Nat.or_comm, ← Nat.or_assoc, Nat.or_self]
  rw [← e1]
  have e4 : ((128 : Nat) : Int) = 128 := rfl
  rw [← e4, h1, e2, UInt8.toNat_ofNat_of_lt' (show x % 128 + 128 < 2 ^ 8 by omega)]

set_option maxRecDepth 100000 in
set_option maxHeartbeats 2000000 in
theorem num_any (base pb : Nat) (v : Value) (bs : List UInt8) (x0 : Nat) (w : World) (hW : Wr w base pb v bs) (hx : x0 < M64) (hlen : bs.length ≤ 35184372088832) :
    Calls Try.prog 27 #[.pointer (some ⟨pb, 0, none⟩), .int .u64 x0] w (Wrote base pb v (bs ++ numB x0) w) := by
  obtain ⟨i0, hi, hz0, hz1, hz2⟩ := info_parts Try.infoB
  have HW := Lib.hid hW
  clear hW
  go_enter Try.func27, Try.ntmps27
  go_wp2_with fail
  go_loopw [1] (fun xs wr => ∃ (k x : Nat) (cur : List UInt8) (v' : Value), xs = .int .u64 x ∧ x < M64 ∧ x < 128 * 128 ^ k ∧ Wr wr base pb v' cur ∧ cur ++ numF k x = bs ++ numB x0 ∧ Step (pb :: foot v) w wr ∧ Fresh w (foot v) (foot v')) (fun xs _ => (intOf xs).toNat)
  case atStart => exact ⟨9, x0, bs, v, rfl, hx, by unfold M64 at hx; omega, HW.out, rfl, Step.refl _ _, fun k hk => .inl hk⟩
  case round =>
    obtain ⟨k, x, cur, v', rfl, hx64, hxk, hWr, hcat, hst, hfr⟩ := hrel
    have hcl : cur.length ≤ bs.length + 10 := by
      have h1 := congrArg List.length hcat
      simp only [List.length_append] at h1
      have h2 := numF_len k x
      have h3 := numB_len x0
      omega
    have HR := Lib.hid hWr
    have HC := Lib.hid hcat
    have hc0 := hWr.blk.cell 0
    have hf0 := hWr.blk.free 0
    simp at hc0
    clear hWr hcat
    have HK := Lib.hid hxk
    have HS := Lib.hid hst
    have HF := Lib.hid hfr
    clear hxk hst hfr
    by_cases h128 : x < 128
    · go_wp2_with (at_builtin; refine wpList_append_sep rfl (.tmp 26) (.tmp 29) 23 rfl base 5 i0 (.int .u8 0) 1 1 Try.underlying23 hi hz0 hz1 hz2 rfl (by decide) _ cur.length (cur.map byteVal) rfl (HR.out.own.alloc _) (some ⟨wr.heap.size, 0, none⟩) 1 1 [.int .u8 (x : Int)] rfl (by intro h; cases h) rfl (fun ad h => by cases h; exact cell_one_new _ _ _) (by intro u hu; simp at hu; subst hu; rfl) (by unfold maxLen; omega) (by omega) (by have h1 := HR.out.low; have h2 := HR.out.blk.lt; simp; omega) ?_)
      intro v2 w2 hown2 hg2 hf2
      have hs2 : Step (foot v') wr w2 := ((Step.refl _ _).alloc _).grown hg2 (fun k hk => .inl (mem_foot.2 hk))
      have hc2 : w2.cell? ⟨pb, 0, none⟩ = some v' := by rw [hs2.cell HR.out.blk.lt HR.out.apart]; exact hc0
      have hf2' : w2.frozen? ⟨pb, 0, none⟩ = false := by rw [hs2.frozen HR.out.blk.lt HR.out.apart]; exact hf0
      have hb : [Value.int .u8 (x : Int)] = [UInt8.ofNat x].map byteVal := by
        simp [byteVal]
        omega
      rw [hb] at hown2
      have HP := Lib.hid (HR.out.put hs2 hown2 (by simp) hf2)
      obtain ⟨g, cg, rfl, hgb, hgw, hgc, hgm⟩ := owns_form hown2 (by omega)
      clear hown2 hg2 hf2 hs2 hb hc0 hf0
      go_wp2_with fail
      go_end0
      have hp := HP.out
      have hc := HC.out
      rw [numF_low k x h128] at hc
      rw [hc] at hp
      refine ⟨rfl, _, hp.1, HS.out.trans hp.2.1 (fun k hk => ?_), fun k hk => ?_⟩
      · rcases List.mem_cons.1 hk with rfl | hk
        · exact .inl List.mem_cons_self
        · exact (HF.out k hk).imp (fun h => List.mem_cons_of_mem _ h) id
      · rcases hp.2.2 k hk with h | h
        · exact HF.out k h
        · exact .inr (Nat.le_trans HS.out.size h)
    · obtain ⟨k, rfl⟩ : ∃ j, k = j + 1 := by
        cases k with
        | zero => have := HK.out; omega
        | succ j => exact ⟨j, rfl⟩
      have ho := Lib.hid (or_128 x)
      go_wp2_with (at_builtin; refine wpList_append_sep rfl (.tmp 14) (.tmp 18) 23 rfl base 5 i0 (.int .u8 0) 1 1 Try.underlying23 hi hz0 hz1 hz2 rfl (by decide) _ cur.length (cur.map byteVal) rfl (HR.out.own.alloc _) (some ⟨wr.heap.size, 0, none⟩) 1 1 [.int .u8 (bits .or .u8 ((x : Int) % 256) 128)] rfl (by intro h; cases h) rfl (fun ad h => by cases h; exact cell_one_new _ _ _) (by intro u hu; simp at hu; subst hu; rfl) (by unfold maxLen; omega) (by omega) (by have h1 := HR.out.low; have h2 := HR.out.blk.lt; simp; omega) ?_)
      intro v2 w2 hown2 hg2 hf2
      have hs2 : Step (foot v') wr w2 := ((Step.refl _ _).alloc _).grown hg2 (fun k hk => .inl (mem_foot.2 hk))
      have hc2 : w2.cell? ⟨pb, 0, none⟩ = some v' := by rw [hs2.cell HR.out.blk.lt HR.out.apart]; exact hc0
      have hf2' : w2.frozen? ⟨pb, 0, none⟩ = false := by rw [hs2.frozen HR.out.blk.lt HR.out.apart]; exact hf0
      rw [ho.out] at hown2
      have HP := Lib.hid (HR.out.put (l := [UInt8.ofNat (x % 128 + 128)]) hs2 hown2 (by simp) hf2)
      obtain ⟨g, cg, rfl, hgb, hgw, hgc, hgm⟩ := owns_form hown2 (by omega)
      clear hown2 hg2 hf2 hs2 hc0 hf0
      go_wp2_with fail
      go_roundw
      case rel =>
        have hp := HP.out
        have hc := HC.out
        have hk := HK.out
        rw [numF_high k x h128, List.append_cons] at hc
        refine ⟨k, x / 128, _, _, rfl, by unfold M64 at *; omega, ?_, hp.1, hc, HS.out.trans hp.2.1 (fun k hk => ?_), fun k hk => ?_⟩
        · rw [Nat.pow_succ] at hk
          exact Nat.div_lt_of_lt_mul (by rw [show 128 * (128 * 128 ^ k) = 128 * (128 ^ k * 128) by rw [Nat.mul_comm 128 (128 ^ k)]]; exact hk)
        · rcases List.mem_cons.1 hk with rfl | hk
          · exact .inl List.mem_cons_self
          · exact (HF.out k hk).imp (fun h => List.mem_cons_of_mem _ h) id
        · rcases hp.2.2 k hk with h | h
          · exact HF.out k h
          · exact .inr (Nat.le_trans HS.out.size h)
      case measure => simp [intOf]; omega
end Go.Proofs.Ytdfkagpnfgmbeaa
