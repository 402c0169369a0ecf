/- quota.Ledger: those that have some, in order; All. -/
import Derived.Test.YthdagklibmdglaaQuoI
import Derived.Test.YthdagklibmdglaaRangeSep
import Derived.Sort.KeysCollected
import Derived.RangeFuncNested
import Derived.RangeFuncBound
import Derived.RangeFuncCalls
import Derived.RangeFuncLeaves
import Derived.Shelf.Abstract
import Derived.WalkKit
import Derived.OwnWalkIn
import Derived.TacticsInMore
import Derived.LoopNIn
import Derived.LoopIn
namespace Go.Proofs.Ythdagklibmdglaa
set_option linter.unusedVariables false
set_option linter.unusedSimpArgs false
open Go.RowKit Go.Maps Go.Shelf
attribute [local go_sem] Oper.semAt_some
theorem less_lt : ∀ (x y : List UInt8), Op.bytesLess x y = decide (x < y)
  | [], [] => by simp [Op.bytesLess]
  | _ :: _, [] => by simp [Op.bytesLess]
  | [], _ :: _ => by simp [Op.bytesLess]
  | a :: x, b :: y => by
    rw [Op.bytesLess, less_lt x y]
    simp only [List.cons_lt_cons_iff]
    by_cases h1 : a < b <;> by_cases h2 : a = b <;> by_cases h3 : x < y <;> simp [h1, h2, h3]
/-- the keys of what is said, in order -/
structure Ks (f : ByteArray → Option Int) (ks : List (List UInt8)) : Prop where
  pw : ks.Pairwise (fun a b => a < b)
  mem : ∀ x : List UInt8, x.length ≤ maxLen → (x ∈ ks ↔ f ⟨x.toArray⟩ ≠ none)
  small : ∀ x ∈ ks, x.length ≤ maxLen
theorem Ks.nodup {f : ByteArray → Option Int} {ks : List (List UInt8)} (h : Ks f ks) : ks.Nodup := h.pw.imp fun {a b} hab e => by subst e; exact List.lt_irrefl _ hab
theorem Ks.one {f : ByteArray → Option Int} {a b : List (List UInt8)} (h : Ks f a) (h' : Ks f b) : a = b := by
  refine List.Perm.eq_of_pairwise (le := fun x y => x < y) (fun x y _ _ h1 h2 => absurd (List.lt_trans h1 h2) (List.lt_irrefl _)) h.pw h'.pw (perm_of_nodup h.nodup h'.nodup fun x => ?_)
  constructor
  · intro hx
    have hl := h.small x hx
    exact (h'.mem x hl).2 ((h.mem x hl).1 hx)
  · intro hx
    have hl := h'.small x hx
    exact (h.mem x hl).2 ((h'.mem x hl).1 hx)
theorem MapF.keys {P : Program} {k : TypeId} {hk : P.underlying k = some .string} {E : ElT Int} {w : World} {b n : Nat} {f : ByteArray → Option Int} (h : MapF (strKey hk) E w b n f) :
    ∃ D ks, w.ownsMap P k E.R b n D ∧ Ks f ks ∧ ∀ ss : List (List UInt8), ss.Perm (strKeys D) → ss.mergeSort leB = ks := by
  obtain ⟨D, hown, hs⟩ := h
  obtain ⟨es, hD, hpw, _⟩ := hown.entries (string_keyed hk)
  obtain ⟨es', hD', hko⟩ := hown.keysOf
  obtain rfl : es = es' := by rw [hD] at hD'; simpa using hD'
  have hstr : ∀ p ∈ es, ∃ x, p.1 = .string x := fun p hp => by
    obtain ⟨v, hv⟩ := hko p hp
    obtain ⟨x, _, hx, _⟩ := Maps.keyOf_str hk hv
    exact ⟨x, hx⟩
  have hle := strKeys_le hown hk
  have hnd : (strKeys D).Nodup := by
    rw [hD]
    show (es.map fun p => strOf p.1).Nodup
    refine List.pairwise_map.2 (hpw.imp_of_mem fun {p q} hp' hq' hne e => hne ?_)
    obtain ⟨a, ha⟩ := hstr p hp'
    obtain ⟨b, hb⟩ := hstr q hq'
    rw [ha, hb] at e ⊢
    exact congrArg _ e
  have hmem : ∀ x, x ∈ strKeys D ↔ Maps.has D (.string x) = true := fun x => by
    rw [hD, Maps.has_eq, List.any_eq_true]
    show x ∈ (es.map fun p => strOf p.1) ↔ _
    rw [List.mem_map]
    constructor
    · rintro ⟨p, hp', rfl⟩
      obtain ⟨a, ha⟩ := hstr p hp'
      exact ⟨p, hp', by rw [ha]; simp [Lit.sameKey, strOf]⟩
    · rintro ⟨p, hp', hs⟩
      obtain ⟨a, ha⟩ := hstr p hp'
      rw [ha] at hs
      exact ⟨p, hp', by rw [ha]; simpa [Lit.sameKey, strOf] using hs⟩
  have tr : ∀ a b c : List UInt8, leB a b = true → leB b c = true → leB a c = true := fun a b c h1 h2 => by simp only [leB, decide_eq_true_eq] at *; exact List.le_trans h1 h2
  have tot : ∀ a b : List UInt8, (leB a b || leB b a) = true := fun a b => by simp only [leB, Bool.or_eq_true, decide_eq_true_eq]; exact List.le_total a b
  have hpm := List.mergeSort_perm (strKeys D) leB
  refine ⟨D, (strKeys D).mergeSort leB, hown, ⟨?_, fun x hx => ?_, fun x hx => hle x (hpm.mem_iff.1 hx)⟩, fun ss hp => mergeSort_of_perm hp⟩
  · refine (List.pairwise_mergeSort tr tot (strKeys D)).imp₂ (fun a b h1 h2 => ?_) (hpm.nodup_iff.2 hnd)
    simp only [leB, decide_eq_true_eq] at h1
    exact Std.lt_of_le_of_ne h1 h2
  · rw [hpm.mem_iff, hmem x]
    have h4 := hs.has (x := ⟨x.toArray⟩) (show (⟨x.toArray⟩ : ByteArray).size ≤ maxLen from by simpa [ByteArray.size] using hx)
    have h5 : (strKey hk).lit ⟨x.toArray⟩ = .string x := by simp [strKey]
    rw [h5] at h4
    rw [h4]
    cases f ⟨x.toArray⟩ <;> simp
theorem Lg.keys {w : World} {tb hb mb n : Nat} {each : Int} {f g : ByteArray → Option Int} (h : Lg w tb hb mb n each f g) : ∃ ks, Ks f ks := by
  obtain ⟨_, ks, _, h2, _⟩ := h.has.keys
  exact ⟨ks, h2⟩
theorem qall_box (p : Option Addr) (w : World) : Calls Try.prog 16 #[.pointer p] w fun e w' => e = .returned (.func (.func 19) #[] #[.pointer (some ⟨w.heap.size, 0, none⟩)]) ∧ w' = w.alloc (.cells #[.pointer p] 24) := by
  go_enter Try.func16, Try.ntmps16
  go_wp2_with fail
  go_ret
  exact ⟨rfl, rfl⟩
set_option maxRecDepth 20000 in
set_option maxHeartbeats 2000000 in
theorem qall_sep (n0 : Nat) (hn0 : 6 ≤ n0) (bx tb hb mb n : Nat) (hn : n ≤ 1000000) (each : Int) (f g : ByteArray → Option Int) (ks : List (List UInt8)) (hks : Ks f ks) :
    SeqSep Fence.wide n0 Try.prog 19 #[.pointer (some ⟨bx, 0, none⟩)] (fun y : List UInt8 => #[encStr y, .int .i64 (hasV f ⟨y.toArray⟩)]) [bx, tb, hb, mb] (fun pre => pre <+: ks) (fun xs => xs = ks) (fun _ => True)
      (fun W => Blk W bx #[.pointer (some ⟨tb, 0, none⟩)] 24 ∧ Lg W tb hb mb n each f g) := by
  intro l J Jx W ⟨hB, hL⟩ hJ hJx hY h0
  obtain ⟨D, ks', hown, hk', hsort⟩ := hL.has.keys
  obtain rfl := hk'.one hks
  clear hk'
  have c0 := hB.cell 0
  simp only [List.getElem?_toArray, List.getElem?_cons_zero] at c0
  have c1 := hL.cell1
  have HB := Lib.hid hB
  have hsz : Maps.size D ≤ 1000000 := Nat.le_trans hown.size_le hn
  have HC := Lib.hid (Try.slices_Sorted_keys_20_21 hb n D elN.R W hown (by unfold maxLen; omega) (by omega))
  have HL := Lib.hid hL
  have HJ := Lib.hid hJ
  have HJX := Lib.hid hJx
  have HY := Lib.hid hY
  have H0 := Lib.hid h0
  have HS := Lib.hid hsort
  have HK := Lib.hid hks
  have HZ := Lib.hid (And.intro hsz (show (strKeys D).length = Maps.size D from by obtain ⟨es, hes⟩ := hown.isMap; rw [hes]; simp [strKeys, Maps.size]))
  clear hL hJ hJx hY h0 hB hown hsz hsort hks
  refine callsIn_of_wp Try.func19 rfl trivial ?_ rfl
  simp only [Try.ntmps19, List.size_toArray, List.length_cons, List.length_nil, Nat.reduceAdd, Nat.reduceSub, Array.replicate_succ, Array.replicate_zero, List.push_toArray, List.append_toArray, List.nil_append, List.cons_append]
  gi_wp2
  refine ⟨trivial, fun _ => by omega, (callsIn_wide.2 (callsIn_wide.1 (Try.maps_Keys_21 (some hb) W))).mono ?_⟩
  rintro e w1 ⟨rfl, rfl⟩
  gi_wp2
  refine ⟨trivial, fun _ => by omega, (callsIn_wide.2 (callsIn_wide.1 HC.out)).mono ?_⟩
  rintro e w2 ⟨v, ss, rfl, hperm, ho, hnil, hbl⟩
  have hs2 : Step [] W w2 := ((Step.refl [] W).alloc _).then (Step.of_below hbl []) (by simp)
  rw [HS.out ss hperm] at ho
  have hlen : ss.length = ks'.length := by rw [← HS.out ss hperm, List.length_mergeSort]
  rw [hlen] at ho
  obtain ⟨ao, cap, rfl⟩ : ∃ ao c, v = .slice ao ks'.length c := by
    rcases ho.2 with ⟨h1, h2⟩ | ⟨g, c, cur, h1, _⟩
    · exact ⟨none, 0, by rw [h1, h2]⟩
    · exact ⟨_, c, h1⟩
  have hb2 : ∀ k, k ∈ foot (.slice ao ks'.length cap) → W.heap.size ≤ k := fun k hk => by
    have := owns_base ho k hk
    rw [World.size_alloc] at this
    omega
  have hl2 := owns_live ho
  have H1 := Lib.hid (And.intro (owns_low ho (base' := W.heap.size) (by rw [World.size_alloc]; omega)) (And.intro (HB.out.step hs2 (by simp)) (And.intro (HL.out.step0 hs2) (HJ.out [] W w2 [] (foot (.slice ao ks'.length cap)) H0.out hs2 (fun k hk => .inr (hb2 k hk)) hl2))))
  have HD := Lib.hid (fun k hk hm => by
    have h1 := hb2 k hk
    rcases List.mem_cons.1 hm with h | h
    · subst h; have := HB.out.lt; omega
    · have := HL.out.live k h; omega : Dj (foot (.slice ao ks'.length cap)) [bx, tb, hb, mb])
  obtain ⟨N, hNN⟩ : ∃ N, ks'.length = N := ⟨_, rfl⟩
  have HNN := Lib.hid hNN
  rw [hNN] at H1 HD
  simp only [hNN]
  have p0 : N ≤ 1000000 := by
    have h6 := hperm.length_eq
    have h7 : (strKeys D).length = Maps.size D := HZ.out.2
    have h8 := HZ.out.1
    omega
  clear ho hs2 hb2 hl2 hbl hnil hperm hlen hNN HC c0 c1
  gi_wp2
  gi_loopw [14] (fun s wr => ∃ (i : Nat), s = .int .i64 (i : Int) ∧ i ≤ N ∧ J (ks'.take i) wr (foot (.slice ao N cap)) ∧ wr.ownsRow W.heap.size 9 1 (.slice ao N cap) N (ks'.map encStr) ∧ Blk wr bx #[.pointer (some ⟨tb, 0, none⟩)] 24 ∧ Lg wr tb hb mb n each f g) (fun s _ => N - (intOf s).toNat)
  case atStart => exact ⟨0, rfl, Nat.zero_le _, H1.out.2.2.2, H1.out.1, H1.out.2.1, H1.out.2.2.1⟩
  case round =>
    obtain ⟨i, rfl, hi, hJr, hor, hBr, hLr⟩ := hrel
    have HR := Lib.hid (And.intro hJr (And.intro hor (And.intro hBr hLr)))
    by_cases hlt : i < N
    · obtain ⟨g', c, hv, _⟩ := owns_form hor (by omega)
      injection hv with hv1 _ hv2
      subst hv1
      subst hv2
      have hix : i < ks'.length := by rw [HNN.out]; exact hlt
      obtain ⟨x, hx⟩ : ∃ x, ks'[i] = x := ⟨_, rfl⟩
      have r1 : wr.cell? ⟨g', i, none⟩ = some (encStr x) := by
        rw [World.ownsRow.cellAt hor i (by omega)]
        simp [hix, hx]
      have hxl : x.length ≤ maxLen := HK.out.small x (by rw [← hx]; exact List.getElem_mem hix)
      have htk : ks'.take (i + 1) = ks'.take i ++ [x] := by rw [← hx, List.take_append_getElem]
      have c0 := hBr.cell 0
      simp only [List.getElem?_toArray, List.getElem?_cons_zero] at c0
      have c1 := hLr.cell1
      have hk := hLr.look ⟨x.toArray⟩ (by simpa [ByteArray.size] using hxl)
      obtain ⟨fn, tmps, asg, bd, hy, hrr⟩ := HY.out (ks'.take i) x wr _ hJr (by rw [← htk]; exact List.take_prefix _ _)
      rw [← htk] at hrr
      have HRR := Lib.hid hrr
      have p1 : (i : Int) < (N : Int) := by omega
      have p2 : (0 : Int) ≤ (i : Int) := by omega
      clear hrr hJr hor hBr hLr hxl htk hix hx H1
      gi_wp2
      refine ⟨fun _ => by omega, HRR.out.mono ?_⟩
      rintro e B (⟨rfl, hj3, H3, s3, d3⟩ | ⟨rfl, hj3, _⟩)
      · have HF := Lib.hid (And.intro hj3 (And.intro (owns_step HR.out.2.1 s3 (fun k hk => d3 k (List.mem_append_right _ hk))) (And.intro (HR.out.2.2.1.step s3 (d3 bx (by simp))) (HR.out.2.2.2.step s3 (fun k hk => d3 k (List.mem_append_left _ (List.mem_cons_of_mem _ hk)))))))
        clear hj3 s3 d3
        gi_wp2
        go_roundw
        case rel => exact ⟨i + 1, by go_num, hlt, HF.out⟩
        case measure => simp [intOf]; omega
      · have HF := Lib.hid hj3
        clear hj3
        gi_wp2
        refine bodyPost_ret (results_none rfl _ _ _) rfl ?_
        exact ⟨⟨_, rfl⟩, .inr ⟨_, _, trivial, HF.out⟩⟩
    · obtain rfl : N = i := by omega
      have p1 : ¬ (N : Int) < (N : Int) := by omega
      clear hor hBr hLr
      gi_wp2
      go_end0
      exact ⟨⟨_, rfl⟩, .inl ⟨_, by have := HR.out.1; rwa [← HNN.out, List.take_length] at this⟩⟩
end Go.Proofs.Ythdagklibmdglaa
