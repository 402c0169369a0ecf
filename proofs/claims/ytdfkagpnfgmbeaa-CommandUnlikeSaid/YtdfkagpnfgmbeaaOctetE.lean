/- octet.Reader: Err, fail, one. -/
import Derived.Test.YtdfkagpnfgmbeaaOctetS
namespace Go.Proofs.Ytdfkagpnfgmbeaa
set_option linter.unusedVariables false
open Go.RowKit

/-- a reader in block rb over bytes in block db: what is left, and the first error -/
def Rd (w : World) (rb db : Nat) (l : List UInt8) (e : Int) : Prop :=
  ∃ a cap, Blk w rb #[.slice a l.length cap, .int .i64 e] 76 ∧ SlB w a l cap ∧ (∀ b, blkOf a = some b → b = db) ∧ db ≠ rb

theorem Rd.step {F : List Nat} {w w' : World} {rb db : Nat} {l : List UInt8} {e : Int} (h : Rd w rb db l e) (hs : Step F w w') (h1 : rb ∉ F) (h2 : db ∉ F) : Rd w' rb db l e := by
  obtain ⟨a, cap, hb, hsl, hd, hne⟩ := h
  exact ⟨a, cap, hb.step hs h1, hsl.step hs (fun b hb => by rw [hd b hb]; exact h2), hd, hne⟩

/-- what a reader's method leaves -/
def Left (rb db : Nat) (l : List UInt8) (e : Int) (w : World) (w' : World) : Prop := Rd w' rb db l e ∧ Step [rb] w w'

theorem Left.trans {rb db : Nat} {l l' : List UInt8} {e e' : Int} {w w' w'' : World} (h : Left rb db l e w w') (h' : Left rb db l' e' w' w'') : Left rb db l' e' w w'' :=
  ⟨h'.1, h.2.trans h'.2 (fun k hk => .inl hk)⟩

set_option maxHeartbeats 400000 in
theorem rerr_any (rb db : Nat) (l : List UInt8) (e : Int) (w : World) (h : Rd w rb db l e) :
    Calls Try.prog 34 #[.pointer (some ⟨rb, 0, none⟩)] w fun en w' => en = .returned (.int .i64 e) ∧ w = w' := by
  obtain ⟨a, cap, hb, hsl, hd, hne⟩ := h
  have hc := hb.cell 1
  simp at hc
  clear hb hsl hd hne
  go_enter Try.func34, Try.ntmps34
  go_wp2
  go_ret
  exact ⟨rfl, rfl⟩

set_option maxHeartbeats 400000 in
theorem rfail_any (rb db : Nat) (l : List UInt8) (e x : Int) (w : World) (h : Rd w rb db l e) :
    Calls Try.prog 39 #[.pointer (some ⟨rb, 0, none⟩), .int .i64 x] w fun en w' => en = .returned (.tuple #[]) ∧ Left rb db (if e = 0 then [] else l) (if e = 0 then x else e) w w' := by
  have HE := Lib.hid (rerr_any rb db l e w h)
  have HR := Lib.hid h
  obtain ⟨a, cap, hb, hsl, hd, hne⟩ := h
  have hf0 := hb.free 0
  have hf1 := hb.free 1
  have hc0 := hb.cell 0
  have hc1 := hb.cell 1
  simp at hc0 hc1
  have HB := Lib.hid hb
  clear hb hsl hd
  by_cases h0 : e = 0
  · subst h0
    go_enter Try.func39, Try.ntmps39
    go_wp2_with fail
    refine HE.out.mono ?_
    rintro e w1 ⟨rfl, rfl⟩
    go_wp2_with fail
    go_end0
    refine ⟨rfl, ⟨none, 0, ?_, ⟨Bytes.nil _ _, fun _ => ⟨rfl, rfl⟩, Nat.le_refl _, Nat.zero_le _, fun ad h => (by cases h)⟩, fun b h => (by cases h), hne⟩, ((Step.refl _ _).setCell (.inl (by simp)) _ _).setCell (.inl (by simp)) _ _⟩
    exact (HB.out.set 1 _).set 0 _
  · have h0' : (e == 0) = false := by simpa using h0
    rw [if_neg h0, if_neg h0]
    go_enter Try.func39, Try.ntmps39
    go_wp2_with fail
    refine HE.out.mono ?_
    rintro e w1 ⟨rfl, rfl⟩
    go_wp2_with fail
    go_end0
    exact ⟨rfl, HR.out, Step.refl _ _⟩

/-- the next byte -/
def oneR (l : List UInt8) (e : Int) : UInt8 × List UInt8 × Int :=
  if e = 0 then match l with
    | [] => (0, [], 4)
    | b :: t => (b, t, 0)
  else (0, l, e)

set_option maxHeartbeats 1000000 in
theorem rone_any (rb db : Nat) (l : List UInt8) (e : Int) (w : World) (h : Rd w rb db l e) :
    Calls Try.prog 38 #[.pointer (some ⟨rb, 0, none⟩)] w fun en w' => en = .returned (.int .u8 ((oneR l e).1.toNat : Int)) ∧ Left rb db (oneR l e).2.1 (oneR l e).2.2 w w' := by
  have HE := Lib.hid (rerr_any rb db l e w h)
  have HF := Lib.hid (fun x => rfail_any rb db l e x w h)
  have HR := Lib.hid h
  obtain ⟨a, cap, hb, hsl, hd, hne⟩ := h
  have hf0 := hb.free 0
  have hc0 := hb.cell 0
  have hc1 := hb.cell 1
  simp at hc0 hc1
  have HB := Lib.hid hb
  have HD := Lib.hid hd
  by_cases h0 : e = 0
  · subst h0
    cases l with
    | nil =>
      clear hb hsl hd
      go_enter Try.func38, Try.ntmps38
      go_wp2_with fail
      refine HE.out.mono ?_
      rintro e w1 ⟨rfl, rfl⟩
      go_wp2_with fail
      refine (HF.out 4).mono ?_
      rintro e w1 ⟨rfl, h1⟩
      have HE1 := Lib.hid (rerr_any rb db _ _ w1 h1.1)
      have H1 := Lib.hid h1
      clear h1 hc0 hc1 hf0
      go_wp2_with fail
      refine HE1.out.mono ?_
      rintro e w2 ⟨rfl, rfl⟩
      go_wp2_with fail
      go_ret
      exact ⟨rfl, H1.out⟩
    | cons b t =>
      have hlen0 : ((b :: t).length == 0) = false := by simp
      obtain ⟨a', hcut, hsl', hbk⟩ := hsl.cutLow (P := Try.prog) 23 5 Try.underlying23 Try.sizeB 1 (by simp)
      obtain ⟨db', off, rfl, hlt, hcell⟩ := hsl.bytes 0 (by simp)
      simp at hcell hcut hc0 hsl'
      have HS := Lib.hid hsl'
      have HK := Lib.hid hbk
      clear hlen0
      clear hb hsl hd hsl' hbk
      go_enter Try.func38, Try.ntmps38
      go_wp2_with fail
      refine HE.out.mono ?_
      rintro e w1 ⟨rfl, rfl⟩
      go_wp2_with fail
      refine HE.out.mono ?_
      rintro e w1 ⟨rfl, rfl⟩
      go_wp2_with fail
      go_ret
      refine ⟨rfl, ⟨a', cap - 1, ?_, HS.out.step ((Step.refl [rb] _).setCell (.inl (by simp)) _ _) (fun b hb => by rw [HD.out b (by rw [← HK.out]; exact hb)]; simpa using hne), fun b hb => HD.out b (by rw [← HK.out]; exact hb), hne⟩, (Step.refl _ _).setCell (.inl (by simp)) _ _⟩
      exact HB.out.set 0 _
  · have h0' : (e == 0) = false := by simpa using h0
    have hone : oneR l e = (0, l, e) := by unfold oneR; rw [if_neg h0]
    rw [hone]
    clear hb hsl hd
    go_enter Try.func38, Try.ntmps38
    go_wp2_with fail
    refine HE.out.mono ?_
    rintro e w1 ⟨rfl, rfl⟩
    go_wp2_with fail
    refine HE.out.mono ?_
    rintro e w1 ⟨rfl, rfl⟩
    go_wp2_with fail
    go_ret
    exact ⟨rfl, HR.out, Step.refl _ _⟩
end Go.Proofs.Ytdfkagpnfgmbeaa
