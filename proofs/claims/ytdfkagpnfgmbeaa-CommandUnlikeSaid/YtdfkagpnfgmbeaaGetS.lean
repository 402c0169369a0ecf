/- spec.text; octet.Get[string] of texts, octet.Put[string]. -/
import Derived.Test.YtdfkagpnfgmbeaaOctetI
import Derived.Test.YtdfkagpnfgmbeaaSqM
import Derived.Test.YtdfkagpnfgmbeaaOctetWB
import Derived.Deep.AppendLies
namespace Go.Proofs.Ytdfkagpnfgmbeaa
set_option linter.unusedVariables false
open Go.RowKit

set_option maxHeartbeats 1000000 in
theorem stext_rel (rb db : Nat) (l : List UInt8) (e : Int) (w : World) (h : Rd w rb db l e) :
    Calls Try.prog 49 #[.pointer (some ⟨rb, 0, none⟩)] w (TextRd 255 rb db l e w) := by
  have HN := Lib.hid (rtext_rel rb db 255 l e w (by decide) h)
  clear h
  go_enter Try.func49, Try.ntmps49
  go_wp2_with fail
  refine HN.out.mono ?_
  rintro en w1 ⟨s, m, e1, rfl, hx⟩
  have HX := Lib.hid hx
  clear hx HN
  go_wp2_with fail
  go_ret
  exact ⟨s, m, e1, rfl, HX.out⟩

theorem Rd.stepM {F : List Nat} {w w' : World} {rb db : Nat} {l : List UInt8} {e : Int} (h : Rd w rb db l e) (hs : Step F w w') (h1 : rb ∉ F) (h2 : 0 < l.length → db ∉ F) : Rd w' rb db l e := by
  obtain ⟨a, cap, hb, hsl, hd, hne⟩ := h
  refine ⟨a, cap, hb.step hs h1, ⟨?_, hsl.nil, hsl.len, hsl.max, hsl.plain⟩, hd, hne⟩
  by_cases q : 0 < l.length
  · exact hsl.bytes.step hs (fun b off hb => by rw [hd b (by rw [hb]; rfl)]; exact h2 q)
  · have : l = [] := List.eq_nil_of_length_eq_zero (by omega)
    subst this
    exact Bytes.nil _ _
theorem Rd.lts' {w : World} {rb db : Nat} {l : List UInt8} {e : Int} (h : Rd w rb db l e) : rb < w.heap.size ∧ (0 < l.length → db < w.heap.size) := by
  obtain ⟨a, cap, hb, hsl, hd, hne⟩ := h
  refine ⟨hb.lt, fun q => ?_⟩
  obtain ⟨b, off, ha, hlt, -⟩ := hsl.bytes 0 q
  have := hd b (by rw [ha]; rfl)
  omega
theorem depsS_snoc (l : List (List UInt8)) (x : List UInt8) : depsS (l ++ [x]) = depsS l ++ txtB x := by simp [depsS]

/-- what reading a row of texts leaves -/
def RowRd (rb db : Nat) (l : List UInt8) (e : Int) (w : World) (en : Ending) (w' : World) : Prop :=
  ∃ (ds : List (List UInt8)) (m : List UInt8) (e1 : Int) (v : Value), en = .returned v ∧ w'.ownsRow w.heap.size 9 1 v ds.length (ds.map txV) ∧ Left rb db m e1 w w' ∧ m.length ≤ l.length ∧ ds.length ≤ 255 ∧ (∀ d ∈ ds, d.length ≤ 255) ∧ (e1 = 0 → e = 0 ∧ l = numB ds.length ++ (depsS ds ++ m))

set_option maxRecDepth 20000 in
set_option maxHeartbeats 2000000 in
theorem gets_rel (rb db : Nat) (l : List UInt8) (e : Int) (w : World) (h : Rd w rb db l e) :
    Calls Try.prog 51 #[.pointer (some ⟨rb, 0, none⟩), .int .i64 255, .func (.func 49) #[] #[]] w (RowRd rb db l e w) := by
  obtain ⟨i0, hi0, hz0, hz1, hz2⟩ := info_parts Try.infoT
  have HC := Lib.hid (rcount_rel rb db 255 l e w (by decide) h)
  have hlt0 := h.lts'
  have HLT := Lib.hid hlt0
  clear h hlt0
  go_enter Try.func51, Try.ntmps51
  go_wp2_with fail
  refine HC.out.mono ?_
  rintro en w1 ⟨c, l1, e1, rfl, hL, hlen, hc, hback, hzero⟩
  have HL1 := Lib.hid hL
  have HK := Lib.hid (And.intro hlen (And.intro hback hzero))
  clear hL HC hlen hback hzero
  go_wp2_with fail
  go_loopw [7, 12] (fun v i wr => ∃ (k : Nat) (out : List (List UInt8)) (m : List UInt8), k ≤ c ∧ i = .int .i64 k ∧ out.length = k ∧ wr.ownsRow w.heap.size 9 1 v k (out.map txV) ∧ rb ∉ foot v ∧ (0 < m.length → db ∉ foot v) ∧ Rd wr rb db m e1 ∧ Step [rb] w wr ∧ m.length ≤ l.length ∧ (∀ d ∈ out, d.length ≤ 255) ∧ (e1 = 0 → e = 0 ∧ l = numB c ++ (depsS out ++ m))) (fun _ i _ => c - (intOf i).toNat)
  case atStart => exact ⟨0, [], l1, Nat.zero_le _, rfl, rfl, World.ownsRow_nil _ _ _ _, by simp [foot, Value.ownBlock], by simp [foot, Value.ownBlock], HL1.out.1, HL1.out.2, HK.out.1, fun d hd => by simp at hd, HK.out.2.1⟩
  case round =>
    obtain ⟨k, out, m, hk, rfl, hol, hown, hap, hap2, hRd, hs, hml, hds, hbk⟩ := hrel
    have HO := Lib.hid hown
    have HAp := Lib.hid hap
    have HAp2 := Lib.hid hap2
    have HRd := Lib.hid hRd
    have HS := Lib.hid hs
    have HD := Lib.hid (And.intro hml (And.intro hds hbk))
    have HOL := Lib.hid hol
    clear hown hap hap2 hRd hs hml hds hbk hol HL1
    by_cases hkc : k < c
    · have hkm : (k : Int) < (c : Int) := by omega
      have he1 : e1 = 0 := by
        rcases Decidable.em (e1 = 0) with h | h
        · exact h
        · have := HK.out.2.2 h; omega
      subst he1
      have HN := Lib.hid (stext_rel rb db m 0 wr HRd.out)
      go_wp2_with fail
      refine HN.out.mono ?_
      rintro en w2 ⟨y, m2, e2, rfl, hL, hm2, hy, hb2⟩
      have HE := Lib.hid (rerr_any rb db _ _ w2 hL.1)
      have HL := Lib.hid hL
      have HY := Lib.hid (And.intro hm2 (And.intro hy hb2))
      clear hL HN hm2 hy hb2
      go_wp2_with fail
      refine HE.out.mono ?_
      rintro en w3 ⟨rfl, rfl⟩
      by_cases he2 : ¬ e2 = 0
      · have p2 : (e2 == 0) = false := by simpa using he2
        have HNE := Lib.hid he2
        clear he2
        go_wp2_with fail
        go_ret
        exact ⟨[], m2, e2, _, rfl, World.ownsRow_nil _ _ _ _, ⟨HL.out.1, HS.out.then HL.out.2 (fun j hj => .inl hj)⟩, Nat.le_trans HY.out.1 HD.out.1, Nat.zero_le _, fun d hd => by simp at hd, fun h => absurd h HNE.out⟩
      replace he2 : e2 = 0 := Decidable.not_not.1 he2
      subst he2
      have hO2 := owns_step HO.out HL.out.2 (fun j hj hm => by simp at hm; subst hm; exact HAp.out hj)
      have HO2 := Lib.hid hO2
      have HS2 := Lib.hid (HS.out.then HL.out.2 (fun j hj => .inl hj))
      have hsz2 := HS2.out.size
      clear hO2
      go_wp2_with (at_builtin; refine wpList_append_sep rfl (.tmp 20) (.tmp 22) 34 rfl w.heap.size 9 i0 _ 1 16 Try.underlying34 hi0 hz0 hz1 hz2 rfl (by decide) _ k (out.map txV) rfl (owns_step HO2.out ((Step.refl [] w2).alloc _) (by simp)) (some ⟨w2.heap.size, 0, none⟩) 1 1 [txV y] rfl (by intro h; cases h) rfl (fun ad h => by cases h; exact World.news_of_block (Go.heap_alloc_new _ _)) (by intro u hu; simp at hu; subst hu; rfl) (by unfold maxLen; omega) (by omega) (by rw [World.size_alloc]; omega) ?_)
      intro v3 w3 hown3 hg3 hf3
      have hst : Step (foot u7) (w2.alloc (.cells #[.string (bstr y)] 9)) w3 := (Step.refl _ _).grown hg3 (fun r hr => .inl (mem_foot.2 hr))
      have hst2 : Step (foot u7) w2 w3 := ((Step.refl (foot u7) w2).alloc _).then hst (fun r hr => .inl hr)
      have hlts := HL.out.1.lts'
      have hRd3 := HL.out.1.stepM hst2 HAp.out (fun h => HAp2.out (by have := HY.out.1; omega))
      have hap3 : rb ∉ foot v3 := fun hm => by
        rcases hf3 _ hm with h | h
        · exact HAp.out h
        · rw [World.size_alloc] at h; omega
      have hap4 : 0 < m2.length → db ∉ foot v3 := fun hq hm => by
        rcases hf3 _ hm with h | h
        · exact HAp2.out (by have := HY.out.1; omega) h
        · rw [World.size_alloc] at h; have := hlts.2 hq; omega
      have hS3 := HS2.out.then hst2 (fun r hr => .inr (owns_base HO.out r hr))
      have hm3 : out.map txV ++ [txV y] = (out ++ [y]).map txV := by simp
      rw [hm3] at hown3
      have HO3 := Lib.hid hown3
      have HR3 := Lib.hid hRd3
      have HA3 := Lib.hid hap3
      have HA4 := Lib.hid hap4
      have HS3 := Lib.hid hS3
      have hol2 : (out ++ [y]).length = k + 1 := by rw [List.length_append, HOL.out]; rfl
      have HOL2 := Lib.hid hol2
      clear hown3 hg3 hf3 hst hst2 hlts hRd3 hap3 hap4 hS3 hm3 hol2
      go_wp2_with fail
      go_roundw
      case rel =>
        refine ⟨k + 1, _, m2, by omega, by go_num, HOL2.out, HO3.out, HA3.out, HA4.out, HR3.out, HS3.out, Nat.le_trans HY.out.1 HD.out.1, fun d hd => ?_, fun h => ⟨(HD.out.2.2 h).1, ?_⟩⟩
        · rcases List.mem_append.1 hd with h | h
          · exact HD.out.2.1 d h
          · simp at h
            subst h
            exact HY.out.2.1
        · rw [(HD.out.2.2 h).2, (HY.out.2.2 h).2, depsS_snoc]
          simp only [List.append_assoc]
      case measure => simp [intOf]; omega
    · have hke : k = c := by omega
      subst hke
      go_wp2_with fail
      go_ret
      refine ⟨out, m, e1, _, rfl, ?_, ⟨HRd.out, HS.out⟩, HD.out.1, ?_, HD.out.2.1, ?_⟩
      · rw [HOL.out]; exact HO.out
      · rw [HOL.out]; exact hc
      · rw [HOL.out]; exact HD.out.2.2
/-- a writer's way: what is written, and a block that stays -/
structure Pk (w0 : World) (base pb : Nat) (v0 : Value) (B : Nat) (C : Array Value) (T : TypeId) (n : Nat) (v : Value) (bs : List UInt8) (w : World) : Prop where
  wr : Wr w base pb v bs
  st : Step (pb :: foot v0) w0 w
  fr : Fresh w0 (foot v0) (foot v)
  blk : Blk w B C T
  ap : B ∉ pb :: foot v
  len : bs.length ≤ n
theorem Wrote.next {base pb : Nat} {v0 v : Value} {bs x : List UInt8} {w0 w w' : World} {e : Ending} (hst : Step (pb :: foot v0) w0 w) (hfr : Fresh w0 (foot v0) (foot v)) (h : Wrote base pb v (bs ++ x) w e w') :
    e = .returned (.tuple #[]) ∧ ∃ v', Wr w' base pb v' (bs ++ x) ∧ Step (pb :: foot v0) w0 w' ∧ Fresh w0 (foot v0) (foot v') ∧ Step (pb :: foot v) w w' ∧ Fresh w (foot v) (foot v') := by
  obtain ⟨he, v', hW, hs, hf⟩ := h
  refine ⟨he, v', hW, hst.then hs (fun k hk => ?_), fun k hk => ?_, hs, hf⟩
  · rcases List.mem_cons.1 hk with rfl | hk
    · exact .inl List.mem_cons_self
    · exact (hfr k hk).imp (fun h => List.mem_cons_of_mem _ h) id
  · rcases hf k hk with h | h
    · exact hfr k h
    · exact .inr (Nat.le_trans hst.size h)
theorem Pk.next {w0 : World} {base pb : Nat} {v0 : Value} {B : Nat} {C : Array Value} {T : TypeId} {n : Nat} {v : Value} {bs : List UInt8} {w : World} (h : Pk w0 base pb v0 B C T n v bs w) {x : List UInt8} {m : Nat} (hx : x.length ≤ m) {e : Ending} {w' : World} (he : Wrote base pb v (bs ++ x) w e w') :
    e = .returned (.tuple #[]) ∧ ∃ v', Pk w0 base pb v0 B C T (n + m) v' (bs ++ x) w' := by
  obtain ⟨h1, v', h2, h3, h4, h5, h6⟩ := he.next h.st h.fr
  refine ⟨h1, v', h2, h3, h4, h.blk.step h5 h.ap, fun hm => ?_, by rw [List.length_append]; have := h.len; omega⟩
  rcases List.mem_cons.1 hm with rfl | hm
  · exact h.ap List.mem_cons_self
  · rcases h6 _ hm with h7 | h7
    · exact h.ap (List.mem_cons_of_mem _ h7)
    · have := h.blk.lt; omega
theorem Pk.wrote {w0 : World} {base pb : Nat} {v0 : Value} {B : Nat} {C : Array Value} {T : TypeId} {n : Nat} {v : Value} {bs : List UInt8} {w : World} (h : Pk w0 base pb v0 B C T n v bs w) : Wrote base pb v0 bs w0 (.returned (.tuple #[])) w :=
  ⟨rfl, v, h.wr, h.st, h.fr⟩
theorem TxS.step' {F : List Nat} {w w' : World} {a : Option Addr} {l : List (List UInt8)} (h : TxS w a l) (hs : Step F w w') (hn : 0 < l.length → ∀ b off, a = some ⟨b, off, none⟩ → b ∉ F) : TxS w' a l := fun i hi => h.step hs (hn (by omega)) i hi
theorem depsS_len3 : ∀ (t : List (List UInt8)), (∀ x ∈ t, x.length ≤ 1000) → (depsS t).length ≤ 1010 * t.length
  | [], _ => by simp [depsS]
  | x :: r, h => by
    have h1 := depsS_len3 r (fun y hy => h y (by simp [hy]))
    have h2 := txtB_len x
    have h3 := h x (by simp)
    simp only [depsS, List.flatMap_cons, List.length_append, List.length_cons] at h1 ⊢
    omega

set_option maxRecDepth 20000 in
set_option maxHeartbeats 1000000 in
theorem puts_any (base pb : Nat) (v : Value) (bs : List UInt8) (a : Option Addr) (cap : Nat) (l : List (List UInt8)) (w : World) (hW : Wr w base pb v bs) (hl : TxS w a l) (hap : 0 < l.length → ∀ b off, a = some ⟨b, off, none⟩ → b ∉ pb :: foot v)
    (hg : ∀ x ∈ l, x.length ≤ 1000) (hlen : l.length ≤ 1000) (hbl : bs.length ≤ 1000000000) :
    Calls Try.prog 54 #[.pointer (some ⟨pb, 0, none⟩), .slice a l.length cap, .func (.func 52) #[] #[]] w (Wrote base pb v (bs ++ (numB l.length ++ depsS l)) w) := by
  have HN := Lib.hid (num_any base pb v bs l.length w hW (by unfold M64; omega) (by omega))
  have HL := Lib.hid hl
  have HG := Lib.hid hg
  have HAp := Lib.hid hap
  clear hW hl hg hap
  go_enter Try.func54, Try.ntmps54
  go_wp2_with fail
  refine HN.out.mono ?_
  rintro e w1 hwr
  obtain ⟨rfl, v1, hW1, hs1, hf1, -, -⟩ := hwr.next (Step.refl _ w) (fun k hk => .inl hk)
  have HS1 := Lib.hid (And.intro hs1 hf1)
  have HW1 := Lib.hid hW1
  clear hW1 hs1 hf1 HN hwr
  go_wp2_with fail
  go_loopw [7, 15] (fun _ i wr => ∃ (k : Nat) (v' : Value), k ≤ l.length ∧ i = .int .i64 k ∧ Wr wr base pb v' (bs ++ numB l.length ++ depsS (l.take k)) ∧ Step (pb :: foot v) w wr ∧ Fresh w (foot v) (foot v')) (fun _ i _ => l.length - (intOf i).toNat)
  case atStart => exact ⟨0, v1, Nat.zero_le _, rfl, by simpa [depsS] using HW1.out, HS1.out⟩
  case round =>
    obtain ⟨k, v', hk, rfl, hW, hs, hf⟩ := hrel
    have HW := Lib.hid hW
    have HS := Lib.hid (And.intro hs hf)
    clear hW hs hf HW1 HS1
    by_cases hkl : k < l.length
    · obtain ⟨b, off, rfl, hlt, hc⟩ := HL.out.step' HS.out.1 HAp.out k hkl
      have hm : (k : Int) < (l.length : Int) := by omega
      have hx := HG.out _ (List.getElem_mem hkl)
      have hE : depsS (l.take (k + 1)) = depsS (l.take k) ++ txtB l[k] := by rw [List.take_succ_eq_append_getElem hkl, depsS_snoc]
      have HE := Lib.hid hE
      have hdl : (depsS (l.take k)).length ≤ 2000000 := by
        have h2 := depsS_len3 (l.take k) (fun x hx => HG.out x (List.mem_of_mem_take hx))
        rw [List.length_take] at h2
        omega
      have hbl2 : (bs ++ numB l.length ++ depsS (l.take k)).length + l[k].length ≤ 17592186044416 := by
        have h1 := numB_len l.length
        rw [List.length_append, List.length_append]
        omega
      rw [getD_eq hkl] at hc
      obtain ⟨x, hxx⟩ : ∃ x, l[k] = x := ⟨_, rfl⟩
      rw [hxx] at hc hx hbl2 HE
      have HC := Lib.hid (wtext_any base pb v' _ x wr HW.out hbl2)
      rw [show numB x.length ++ x = txtB x from rfl] at HC
      clear hbl2 hdl hE hxx
      go_wp2_with fail
      refine HC.out.mono ?_
      rintro e w2 hwr
      obtain ⟨rfl, v2, hW2, hs2, hf2, -, -⟩ := hwr.next HS.out.1 HS.out.2
      rw [List.append_assoc, ← HE.out] at hW2
      have HS2 := Lib.hid (And.intro hs2 hf2)
      have HW2 := Lib.hid hW2
      clear hW2 hs2 hf2 HW HS HC hwr
      go_wp2_with fail
      go_roundw
      case rel => exact ⟨k + 1, v2, by omega, by go_num, HW2.out, HS2.out⟩
      case measure => simp [intOf]; omega
    · have hke : k = l.length := by omega
      subst hke
      have hW := HW.out
      rw [List.take_length, List.append_assoc] at hW
      have HW3 := Lib.hid hW
      clear hW
      go_wp2_with fail
      go_end0
      exact ⟨rfl, v', HW3.out, HS.out⟩
end Go.Proofs.Ytdfkagpnfgmbeaa
