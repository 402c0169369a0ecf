/- disk: the clones; Sync, Crash; Copy. -/
import Derived.Test.YtjemdcdcjohjpaaDiskC
namespace Go.Proofs.Ytjemdcdcjohjpaa
set_option linter.unusedVariables false
open Go.RowKit

set_option maxRecDepth 20000 in
set_option maxHeartbeats 1000000 in
/-- slices.Clone of compline/disk.sectors -/
theorem clone_S (ao : Option Addr) (m cap : Nat) (cs : List Value) (w : World) (hn : ao = none → m = 0 ∧ cap = 0) (hl : cs.length = m * 64) (hm : m ≤ 1000000) (h1 : ∀ u ∈ cs, u.oneCell' = true)
    (hc : ∀ w' x, ao = some x → Step [] w w' → ∀ j u, cs[j]? = some u → w'.cell? (x.add j) = some u) :
    Calls Try.prog 24 #[.slice ao m cap] w fun e w' => ∃ v, e = .returned v ∧ w'.ownsRow w.heap.size 55 64 v m cs ∧ Step [] w w' := by
  cases ao with
  | none =>
    obtain ⟨rfl, rfl⟩ := hn rfl
    have : cs = [] := List.eq_nil_of_length_eq_zero (by omega)
    subst this
    have he := fun w => Lib.run_eql_slice_nil (P := Try.prog) w 50 55 none 0 0 0 0 Try.underlying50
    clear hc h1 hl hm hn
    go_enter Try.func24, Try.ntmps24
    go_wp2
    go_ret
    exact ⟨_, rfl, World.ownsRow_nil _ _ _ _, Step.refl _ _⟩
  | some x =>
    obtain ⟨i0, hi, hz0, hz1, hz2⟩ := info_parts Try.infoS
    have he := fun w => Lib.run_eql_slice_nil (P := Try.prog) w 50 55 (some x) m cap 0 0 Try.underlying50
    simp at he
    have HC := Lib.hid hc
    have HL := Lib.hid hl
    have H1 := Lib.hid h1
    clear hc h1 hl hn
    go_enter Try.func24, Try.ntmps24
    go_wp2_with (at_builtin; refine wpList_append_own_any rfl (.tmp 5) (.tmp 6) 50 rfl w.heap.size 55 i0 _ 64 64 Try.underlying50 hi hz0 hz1 hz2 rfl (by decide) _ 0 [] rfl (World.ownsRow_made _ _ 0 (Nat.le_refl _) (Nat.zero_le _) rfl) (some x) m cap cs rfl (by intro h; cases h) HL.out (by intro a ha j u hu; exact HC.out _ a ha ((Step.refl [] w).alloc _) j u hu) H1.out (by unfold maxLen; omega) (by omega) (by simp) ?_)
    intro v2 w2 hown2 hg2
    have hs2 : Step [] w w2 := ((Step.refl _ _).alloc _).grown hg2 (fun k hk => by cases hk; exact .inr (Nat.le_refl _))
    have HO := Lib.hid hown2
    clear hown2 hg2
    go_wp2
    go_ret
    exact ⟨v2, rfl, by simpa using HO.out, hs2⟩

set_option maxRecDepth 20000 in
set_option maxHeartbeats 1000000 in
/-- slices.Clone of compline/disk.writings -/
theorem clone_W (ao : Option Addr) (m cap : Nat) (cs : List Value) (w : World) (hn : ao = none → m = 0 ∧ cap = 0) (hl : cs.length = m * 65) (hm : m ≤ 1000000) (h1 : ∀ u ∈ cs, u.oneCell' = true)
    (hc : ∀ w' x, ao = some x → Step [] w w' → ∀ j u, cs[j]? = some u → w'.cell? (x.add j) = some u) :
    Calls Try.prog 25 #[.slice ao m cap] w fun e w' => ∃ v, e = .returned v ∧ w'.ownsRow w.heap.size 57 65 v m cs ∧ Step [] w w' := by
  cases ao with
  | none =>
    obtain ⟨rfl, rfl⟩ := hn rfl
    have : cs = [] := List.eq_nil_of_length_eq_zero (by omega)
    subst this
    have he := fun w => Lib.run_eql_slice_nil (P := Try.prog) w 51 57 none 0 0 0 0 Try.underlying51
    clear hc h1 hl hm hn
    go_enter Try.func25, Try.ntmps25
    go_wp2
    go_ret
    exact ⟨_, rfl, World.ownsRow_nil _ _ _ _, Step.refl _ _⟩
  | some x =>
    obtain ⟨i0, hi, hz0, hz1, hz2⟩ := info_parts Try.infoW
    have he := fun w => Lib.run_eql_slice_nil (P := Try.prog) w 51 57 (some x) m cap 0 0 Try.underlying51
    simp at he
    have HC := Lib.hid hc
    have HL := Lib.hid hl
    have H1 := Lib.hid h1
    clear hc h1 hl hn
    go_enter Try.func25, Try.ntmps25
    go_wp2_with (at_builtin; refine wpList_append_own_any rfl (.tmp 5) (.tmp 6) 51 rfl w.heap.size 57 i0 _ 65 72 Try.underlying51 hi hz0 hz1 hz2 rfl (by decide) _ 0 [] rfl (World.ownsRow_made _ _ 0 (Nat.le_refl _) (Nat.zero_le _) rfl) (some x) m cap cs rfl (by intro h; cases h) HL.out (by intro a ha j u hu; exact HC.out _ a ha ((Step.refl [] w).alloc _) j u hu) H1.out (by unfold maxLen; omega) (by omega) (by simp) ?_)
    intro v2 w2 hown2 hg2
    have hs2 : Step [] w w2 := ((Step.refl _ _).alloc _).grown hg2 (fun k hk => by cases hk; exact .inr (Nat.le_refl _))
    have HO := Lib.hid hown2
    clear hown2 hg2
    go_wp2
    go_ret
    exact ⟨v2, rfl, by simpa using HO.out, hs2⟩

theorem yes_any (i : Nat) (w : World) : Calls Try.prog 22 #[.int .i64 (i : Int)] w fun e w' => e = .returned (.bool true) ∧ w = w' := by
  go_enter Try.func22, Try.ntmps22
  go_wp2
  go_ret
  exact ⟨rfl, rfl⟩
theorem no_any (i : Nat) (w : World) : Calls Try.prog 23 #[.int .i64 (i : Int)] w fun e w' => e = .returned (.bool false) ∧ w = w' := by
  go_enter Try.func23, Try.ntmps23
  go_wp2
  go_ret
  exact ⟨rfl, rfl⟩

/-- all that wait are written: as settled -/
def syncS (W : List (Nat × List UInt8)) (S : List (List UInt8)) : List (List UInt8) := setl (fun _ => true) W S W.length

set_option maxHeartbeats 1000000 in
theorem sync_any (base db : Nat) (lv wv : Value) (S : List (List UInt8)) (W : List (Nat × List UInt8)) (w : World) (h : Dsk w base db lv wv S W false) :
    Calls Try.prog 11 #[.pointer (some ⟨db, 0, none⟩)] w fun e w' => e = .returned (.int .i64 0) ∧ Dsk w' base db lv (.slice none 0 0) (syncS W S) [] false ∧ Step (footD db lv wv) w w' := by
  have HDn := Lib.hid (down_any base db lv wv S W false w h)
  have HS := Lib.hid (settle_any base db lv wv S W false w h 22 #[] (fun _ => true) (fun args w => by rfl) (fun i w' _ _ => yes_any i w'))
  clear h
  go_enter Try.func11, Try.ntmps11
  go_wp2_with fail
  refine HDn.out.mono ?_
  rintro e w1 ⟨rfl, rfl⟩
  go_wp2_with fail
  refine HS.out.mono ?_
  rintro e w1 ⟨rfl, h1, h2⟩
  have HA := Lib.hid (And.intro h1 h2)
  clear h1 h2
  go_wp2_with fail
  go_ret
  exact ⟨rfl, HA.out⟩

theorem eqlIn_func {P : Program} (d : Nat) (T : TypeId) (ps rs : Array TypeId) (vr : Bool) (h : P.underlying T = some (.func ps rs vr)) (f : FuncId) (caps : Array Value) (w : World) : (Op.equalIn (d + 1) T (.func (.func f) #[] caps) .nilFunc).run P w = .ok false w := by
  simp [Op.equalIn, run_underlying h]
theorem eqlIn_func_nil {P : Program} (d : Nat) (T : TypeId) (ps rs : Array TypeId) (vr : Bool) (h : P.underlying T = some (.func ps rs vr)) (w : World) : (Op.equalIn (d + 1) T .nilFunc .nilFunc).run P w = .ok true w := by
  simp [Op.equalIn, run_underlying h]
theorem eql_func {P : Program} (T : TypeId) (ps rs : Array TypeId) (vr : Bool) (h : P.underlying T = some (.func ps rs vr)) (f : FuncId) (caps : Array Value) (w : World) : (binOp .eql T (.func (.func f) #[] caps) .nilFunc).run P w = .ok (.bool false) w := by
  simp only [binOp]
  simp [Op.equal, Op.maxDepth, eqlIn_func 9999 T ps rs vr h f caps w]
theorem eql_func_nil {P : Program} (T : TypeId) (ps rs : Array TypeId) (vr : Bool) (h : P.underlying T = some (.func ps rs vr)) (w : World) : (binOp .eql T .nilFunc .nilFunc).run P w = .ok (.bool true) w := by
  simp only [binOp]
  simp [Op.equal, Op.maxDepth, eqlIn_func_nil 9999 T ps rs vr h w]

/-- a function value that decides, without changing anything -/
def KeepF (P : Program) (F : List Nat) (w : World) (n : Nat) (f : FuncId) (caps : Array Value) (kp : Nat → Bool) : Prop :=
  ∀ (i : Nat) (w' : World), i < n → Step F w w' → Calls P f (#[.int .i64 (i : Int)] ++ caps) w' fun e w'' => e = .returned (.bool (kp i)) ∧ w' = w''

theorem Dsk.dn {w : World} {base db : Nat} {lv wv : Value} {S : List (List UInt8)} {W : List (Nat × List UInt8)} {d : Bool} (h : Dsk w base db lv wv S W d) (d2 : Bool) : Dsk (w.setCell ⟨db, 2, none⟩ (.bool d2)) base db lv wv S W d2 ∧ Step [db] w (w.setCell ⟨db, 2, none⟩ (.bool d2)) := by
  have hst : Step [db] w (w.setCell ⟨db, 2, none⟩ (.bool d2)) := (Step.refl [db] w).setCell (.inl (by simp)) 2 _
  obtain ⟨h1, h2, h3, h4, h5, h6, h7, h8, h9, h10, h11, h12⟩ := h
  exact ⟨⟨h1.set 2 _, owns_step h2 hst (fun k hk hm => by simp at hm; subst hm; exact h7 hk), owns_step h3 hst (fun k hk hm => by simp at hm; subst hm; exact h8 hk), h4, h5, h6, h7, h8, h9, h10, h11, h12⟩, hst⟩

set_option maxHeartbeats 1000000 in
theorem crash_any (base db : Nat) (lv wv : Value) (S : List (List UInt8)) (W : List (Nat × List UInt8)) (d : Bool) (w : World) (h : Dsk w base db lv wv S W d) (f : FuncId) (caps : Array Value) (kp : Nat → Bool) (eg : ∀ args w, (callFunc f args).run Try.prog w = .ok (.enter f args) w)
    (hk : KeepF Try.prog (footD db lv wv) w W.length f caps kp) :
    Calls Try.prog 12 #[.pointer (some ⟨db, 0, none⟩), .func (.func f) #[] caps] w fun e w' => e = .returned (.tuple #[]) ∧ Dsk w' base db lv (.slice none 0 0) (setl kp W S W.length) [] true ∧ Step (footD db lv wv) w w' := by
  have HS := Lib.hid (settle_any base db lv wv S W d w h f caps kp eg hk)
  have he := fun w => eql_func 39 _ _ _ Try.underlying39 f caps w
  clear h hk
  go_enter Try.func12, Try.ntmps12
  go_wp2_with fail
  refine HS.out.mono ?_
  rintro e w1 ⟨rfl, h1, h2⟩
  obtain ⟨g1, g2⟩ := h1.dn true
  have HA := Lib.hid (And.intro g1 (h2.then g2 (fun k hk => .inl (by simp at hk; subst hk; simp [footD]))))
  have c2 : w1.cell? ⟨db, 2, none⟩ = some (.bool d) := h1.blk.cell 2
  have f2 := h1.blk.free 2
  clear h1 h2 g1 g2
  go_wp2_with fail
  go_end0
  exact ⟨rfl, HA.out⟩

theorem setl_no (W : List (Nat × List UInt8)) (S : List (List UInt8)) (k : Nat) : setl (fun _ => false) W S k = S := by
  induction k with
  | zero => rfl
  | succ k ih =>
    unfold setl
    split
    · simpa using ih
    · exact ih

set_option maxHeartbeats 1000000 in
theorem crash_nil (base db : Nat) (lv wv : Value) (S : List (List UInt8)) (W : List (Nat × List UInt8)) (d : Bool) (w : World) (h : Dsk w base db lv wv S W d) :
    Calls Try.prog 12 #[.pointer (some ⟨db, 0, none⟩), .nilFunc] w fun e w' => e = .returned (.tuple #[]) ∧ Dsk w' base db lv (.slice none 0 0) S [] true ∧ Step (footD db lv wv) w w' := by
  have hs0 := settle_any base db lv wv S W d w h 23 #[] (fun _ => false) (fun args w => by rfl) (fun i w' _ _ => no_any i w')
  rw [setl_no] at hs0
  have HS := Lib.hid hs0
  have he := fun w => eql_func_nil 39 _ _ _ Try.underlying39 w
  clear h hs0
  go_enter Try.func12, Try.ntmps12
  go_wp2_with fail
  refine HS.out.mono ?_
  rintro e w1 ⟨rfl, h1, h2⟩
  obtain ⟨g1, g2⟩ := h1.dn true
  have HA := Lib.hid (And.intro g1 (h2.then g2 (fun k hk => .inl (by simp at hk; subst hk; simp [footD]))))
  have c2 : w1.cell? ⟨db, 2, none⟩ = some (.bool d) := h1.blk.cell 2
  have f2 := h1.blk.free 2
  clear h1 h2 g1 g2
  go_wp2_with fail
  go_end0
  exact ⟨rfl, HA.out⟩
end Go.Proofs.Ytjemdcdcjohjpaa
