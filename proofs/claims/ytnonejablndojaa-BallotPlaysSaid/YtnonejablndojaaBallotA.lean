/- ballot.Ballot: what its functions do. -/
import Derived.Test.YtnonejablndojaaMaps
import Derived.Test.YtnonejablndojaaMembers
namespace Go.Proofs.Ytnonejablndojaa
set_option linter.unusedVariables false
open Go.RowKit Go.Maps

def keyI : KeyT Try.prog 3 Int := intKey Try.underlying3
theorem zeroB (w : World) : (zeroValue 4).run Try.prog w = .ok (boolEl.val false) w := by kernel_rfl
theorem IsI.good {x : Int} (h : IsI x) : keyI.good x := h

/-- a ballot: its block, its members, its votes -/
structure Bal (w : World) (bb mb n : Nat) (a : Option Addr) (cap : Nat) (l : List Int) (f : Int → Option Bool) : Prop where
  blk : Blk w bb #[.slice a l.length cap, .map (some mb)] 40
  row : Ints w a l
  map : MapF keyI boolEl w mb n f
  ne : mb ≠ bb
  far : ∀ b off, a = some ⟨b, off, none⟩ → 0 < l.length → b ≠ mb ∧ b ≠ bb

variable {w w' : World} {bb mb n cap : Nat} {a : Option Addr} {l : List Int} {f : Int → Option Bool}

theorem Bal.step {F : List Nat} (h : Bal w bb mb n a cap l f) (hs : Step F w w') (h1 : bb ∉ F) (h2 : mb ∉ F) (h3 : ∀ b off, a = some ⟨b, off, none⟩ → 0 < l.length → b ∉ F) : Bal w' bb mb n a cap l f :=
  ⟨h.blk.step hs h1, h.row.step hs h3, h.map.step hs h2, h.ne, h.far⟩
theorem Bal.step0 (h : Bal w bb mb n a cap l f) (hs : Step [] w w') : Bal w' bb mb n a cap l f := h.step hs (by simp) (by simp) (fun _ _ _ _ => by simp)
theorem Bal.mono (h : Bal w bb mb n a cap l f) {m : Nat} (hm : n ≤ m) : Bal w bb mb m a cap l f := ⟨h.blk, h.row, h.map.mono hm, h.ne, h.far⟩
theorem Bal.stored {m : Nat} {g : Int → Option Bool} (h : Bal w bb mb n a cap l f) (hm : MapF keyI boolEl w' mb m g) (hs : Step [mb] w w') : Bal w' bb mb m a cap l g :=
  ⟨h.blk.step hs (by simpa using fun e => h.ne e.symm), h.row.step hs (fun b off e h0 => by simpa using (h.far b off e h0).1), hm, h.ne, h.far⟩
theorem Bal.cell0 (h : Bal w bb mb n a cap l f) : w.cell? ⟨bb, 0, none⟩ = some (.slice a l.length cap) := (h.blk.cell 0).trans rfl
theorem Bal.cell1 (h : Bal w bb mb n a cap l f) : w.cell? ⟨bb, 1, none⟩ = some (.map (some mb)) := (h.blk.cell 1).trans rfl
theorem Bal.look_ok (h : Bal w bb mb n a cap l f) (x : Int) (hx : IsI x) :
    (Instr.lookup 28 (.map (some mb)) (.int .i64 x) true).run Try.prog w = .ok (.tuple #[.bool ((f x).getD false), .bool (f x).isSome]) w :=
  h.map.run_ok Try.underlying28 false (zeroB _) x hx.good

/-- what New leaves -/
def NewB (l : List Int) (w : World) (e : Ending) (w' : World) : Prop :=
  ∃ bb mb a cap, e = .returned (.pointer (some ⟨bb, 0, none⟩)) ∧ Bal w' bb mb 0 a cap l (fun _ => none) ∧ Step [] w w' ∧ w.heap.size ≤ bb ∧ w.heap.size ≤ mb ∧ ∀ b off, a = some ⟨b, off, none⟩ → w.heap.size ≤ b ∧ b < w'.heap.size

set_option maxHeartbeats 1000000 in
theorem bnew_any (a : Option Addr) (cap : Nat) (l : List Int) (w : World) (hn : a = none → l.length = 0 ∧ cap = 0) (hl : Ints w a l) (hlen : l.length < 1000000) :
    Calls Try.prog 7 #[.slice a l.length cap] w (NewB l w) := by
  have hmm := @run_makeMap Try.prog
  have HC := Lib.hid (clone_ints a cap l w hn hl (by omega))
  clear hl hn
  go_enter Try.func7, Try.ntmps7
  go_wp2_with fail
  refine HC.out.mono ?_
  rintro e w1 ⟨v, rfl, hown, hs⟩
  obtain ⟨a1, cap1, rfl, _, _, _, hI, _, hbl⟩ := owns_ints hown
  have hsz := hs.size
  have hI2 := hI.step (((Step.refl [] w1).alloc (.map #[] 0)).alloc (.cells #[.slice a1 l.length cap1, .map (some w1.heap.size)] 40)) (by simp)
  have hm := (MapF.made keyI boolEl w1).step ((Step.refl [] _).alloc (.cells #[.slice a1 l.length cap1, .map (some w1.heap.size)] 40)) (by simp)
  have hb := Blk.new (w1.alloc (.map #[] 0)) #[.slice a1 l.length cap1, .map (some w1.heap.size)] 40
  rw [World.size_alloc] at hb
  have HB := Lib.hid (⟨hb, hI2, hm, by omega, fun b off e _ => by have := hbl b off none e; exact ⟨by omega, by omega⟩⟩ : Bal _ (w1.heap.size + 1) w1.heap.size 0 a1 cap1 l (fun _ => none))
  have HS := Lib.hid ((hs.alloc (.map #[] 0)).alloc (.cells #[.slice a1 l.length cap1, .map (some w1.heap.size)] 40))
  clear hI2 hm hb hown hI HC
  go_wp2_with fail
  go_ret
  exact ⟨_, _, _, _, rfl, HB.out, HS.out, by omega, by omega, fun b off e => by have := hbl b off none e; simp; omega⟩

set_option maxHeartbeats 400000 in
theorem bright_any (w : World) (hB : Bal w bb mb n a cap l f) (hlen : l.length < 1000000) :
    Calls Try.prog 13 #[.pointer (some ⟨bb, 0, none⟩)] w fun e w' => e = .returned (.bool (goodM l)) ∧ Step [] w w' := by
  have HR := Lib.hid (right_any a cap l w hB.row hlen)
  have hc0 := hB.cell0
  clear hB
  go_enter Try.func13, Try.ntmps13
  go_wp2_with fail
  refine HR.out.mono ?_
  rintro e w1 ⟨rfl, hs⟩
  go_wp2_with fail
  go_ret
  exact ⟨rfl, hs⟩

set_option maxHeartbeats 400000 in
theorem chas_any (a : Option Addr) (cap : Nat) (l : List Int) (x : Int) (w : World) (hl : Ints w a l) (hlen : l.length < 1000000) :
    Calls Try.prog 14 #[.slice a l.length cap, .int .i64 x] w fun e w' => e = .returned (.bool (decide (x ∈ l))) ∧ w = w' := by
  have HC := Lib.hid (contains_any a cap l x w hl hlen)
  clear hl
  go_enter Try.func14, Try.ntmps14
  go_wp2_with fail
  refine HC.out.mono ?_
  rintro e w1 ⟨rfl, rfl⟩
  go_wp2_with fail
  go_ret
  exact ⟨rfl, rfl⟩

def voteUp (l : List Int) (f : Int → Option Bool) (x : Int) : Bool := goodM l && decide (x ∈ l) && (f x).isNone
def voteF (l : List Int) (f : Int → Option Bool) (x : Int) (y : Bool) : Int → Option Bool := if voteUp l f x then upd f x (some y) else f

set_option maxHeartbeats 1000000 in
theorem vote_any (x : Int) (y : Bool) (w : World) (hB : Bal w bb mb n a cap l f) (hlen : l.length < 1000000) (hx : IsI x) (hn : n < 1000000) :
    Calls Try.prog 9 #[.pointer (some ⟨bb, 0, none⟩), .int .i64 x, .bool y] w fun e w' => e = .returned (.bool (voteUp l f x)) ∧ Bal w' bb mb (n + 1) a cap l (voteF l f x y) ∧ Step [mb] w w' := by
  have HR := Lib.hid (bright_any w hB hlen)
  have HB := Lib.hid hB
  clear hB
  cases hg : goodM l with
  | false =>
    have e1 : voteUp l f x = false := by simp [voteUp, hg]
    have e2 : voteF l f x y = f := by simp [voteF, e1]
    rw [e1, e2]
    rw [hg] at HR
    go_enter Try.func9, Try.ntmps9
    go_wp2_with fail
    refine HR.out.mono ?_
    rintro e w1 ⟨rfl, hs⟩
    have HS := Lib.hid hs
    clear hs
    go_wp2_with fail
    go_ret
    exact ⟨rfl, (HB.out.step0 HS.out).mono (by omega), HS.out.mono (fun k hk => by cases hk)⟩
  | true =>
    rw [hg] at HR
    go_enter Try.func9, Try.ntmps9
    go_wp2_with fail
    refine HR.out.mono ?_
    rintro e w1 ⟨rfl, hs⟩
    have hB1 := HB.out.step0 hs
    have HS := Lib.hid hs
    have hc0 := hB1.cell0
    have hc1 := hB1.cell1
    have HC := Lib.hid (chas_any a cap l x w1 hB1.row hlen)
    have hk := hB1.look_ok x hx
    have HB1 := Lib.hid hB1
    clear hs hB1 HB HR
    by_cases hxl : x ∈ l
    · have hd : decide (x ∈ l) = true := by simpa using hxl
      rw [hd] at HC
      cases hf : f x with
      | none =>
        have e1 : voteUp l f x = true := by simp [voteUp, hg, hxl, hf]
        have e2 : voteF l f x y = upd f x (some y) := by simp [voteF, e1]
        have HE1 := Lib.hid e1
        have HE2 := Lib.hid e2
        clear e1 e2
        rw [hf] at hk
        simp only [Option.getD_none, Option.isSome_none] at hk
        go_wp2_with fail
        refine HC.out.mono ?_
        rintro e w2 ⟨rfl, rfl⟩
        go_wp2_with (at_mapUpdate; refine wpList_store keyI boolEl rfl _ _ _ 28 4 rfl Try.underlying28 rfl HB1.out.map (by unfold maxLen; omega) x rfl hx.good y rfl ?_; intro w4 hm4 hs4)
        have HB4 := Lib.hid (HB1.out.stored hm4 hs4)
        go_ret
        rw [HE1.out, HE2.out]
        exact ⟨rfl, HB4.out, (HS.out.mono (G := [mb]) (fun k hk => by cases hk)).then hs4 (fun k hk => .inl hk)⟩
      | some z =>
        have e1 : voteUp l f x = false := by simp [voteUp, hf]
        have e2 : voteF l f x y = f := by simp [voteF, e1]
        have HE1 := Lib.hid e1
        have HE2 := Lib.hid e2
        clear e1 e2
        rw [hf] at hk
        simp only [Option.getD_some, Option.isSome_some] at hk
        go_wp2_with fail
        refine HC.out.mono ?_
        rintro e w2 ⟨rfl, rfl⟩
        go_wp2_with fail
        go_ret
        rw [HE1.out, HE2.out]
        exact ⟨rfl, HB1.out.mono (by omega), HS.out.mono (fun k hk => by cases hk)⟩
    · have hd : decide (x ∈ l) = false := by simpa using hxl
      rw [hd] at HC
      have e1 : voteUp l f x = false := by simp [voteUp, hxl]
      have e2 : voteF l f x y = f := by simp [voteF, e1]
      have HE1 := Lib.hid e1
      have HE2 := Lib.hid e2
      clear e1 e2
      go_wp2_with fail
      refine HC.out.mono ?_
      rintro e w2 ⟨rfl, rfl⟩
      go_wp2_with fail
      go_ret
      rw [HE1.out, HE2.out]
      exact ⟨rfl, HB1.out.mono (by omega), HS.out.mono (fun k hk => by cases hk)⟩

/-- how many of ks said b -/
def cnt (f : Int → Option Bool) : List Int → Bool → Nat
  | [], _ => 0
  | k :: ks, b => (if f k = some b then 1 else 0) + cnt f ks b
/-- .. of those that are not to come -/
def cntD (f : Int → Option Bool) (left : Int → Bool) : List Int → Bool → Nat
  | [], _ => 0
  | k :: ks, b => (if f k = some b ∧ left k = false then 1 else 0) + cntD f left ks b

theorem cntD_none (f : Int → Option Bool) (left : Int → Bool) (x : Int) (b : Bool) : ∀ (ks : List Int), x ∉ ks → cntD f (fun y => left y && !decide (y = x)) ks b = cntD f left ks b
  | [], _ => rfl
  | k :: ks, h => by
    have hk : k ≠ x := fun e => h (by simp [e])
    unfold cntD
    rw [cntD_none f left x b ks (fun hh => h (by simp [hh]))]
    simp [hk]

theorem cntD_step (f : Int → Option Bool) (left : Int → Bool) (x : Int) (c b : Bool) (hl : left x = true) (hf : f x = some c) : ∀ (ks : List Int), ks.Nodup → x ∈ ks →
    cntD f (fun y => left y && !decide (y = x)) ks b = cntD f left ks b + if c = b then 1 else 0
  | [], _, h => by cases h
  | k :: ks, hn, h => by
    obtain ⟨hk, hn'⟩ := List.nodup_cons.1 hn
    by_cases hkx : k = x
    · subst hkx
      unfold cntD
      rw [cntD_none f left k b ks hk]
      simp [hl, hf]
      omega
    · unfold cntD
      rw [cntD_step f left x c b hl hf ks hn' (by
        rcases List.mem_cons.1 h with h | h
        · exact absurd h.symm hkx
        · exact h)]
      simp [hkx]
      omega

theorem cntD_start (f : Int → Option Bool) (b : Bool) : ∀ ks, cntD f (fun x => (f x).isSome) ks b = 0
  | [] => rfl
  | k :: ks => by
    unfold cntD
    rw [cntD_start f b ks]
    cases hk : f k <;> simp
theorem cntD_end (f : Int → Option Bool) (left : Int → Bool) (b : Bool) : ∀ ks, (∀ x ∈ ks, left x = false) → cntD f left ks b = cnt f ks b
  | [], _ => rfl
  | k :: ks, h => by
    unfold cntD cnt
    rw [cntD_end f left b ks (fun x hx => h x (by simp [hx]))]
    simp [h k (by simp)]
theorem cnt_le (f : Int → Option Bool) (b : Bool) : ∀ ks, cnt f ks b ≤ ks.length
  | [] => Nat.le_refl _
  | k :: ks => by
    have := cnt_le f b ks
    unfold cnt
    simp only [List.length_cons]
    split <;> omega
theorem cntD_le (f : Int → Option Bool) (left : Int → Bool) (b : Bool) : ∀ ks, cntD f left ks b ≤ ks.length
  | [] => Nat.le_refl _
  | k :: ks => by
    have := cntD_le f left b ks
    unfold cntD
    simp only [List.length_cons]
    split <;> omega

set_option maxHeartbeats 1000000 in
theorem count_any (ks : List Int) (w : World) (hB : Bal w bb mb n a cap l f) (hnd : ks.Nodup) (hks : ∀ x, IsI x → (f x).isSome = true → x ∈ ks) (hgd : ∀ x ∈ ks, IsI x) (hlen : ks.length < 1000000) :
    Calls Try.prog 10 #[.pointer (some ⟨bb, 0, none⟩)] w fun e w' => e = .returned (.tuple #[.int .i64 (cnt f ks true), .int .i64 (cnt f ks false)]) ∧ Step [] w w' := by
  have hc1 := hB.cell1
  have HB := Lib.hid hB
  have HN := Lib.hid hnd
  have HK := Lib.hid hks
  have HG := Lib.hid hgd
  clear hB hnd hks hgd
  have hmb := HB.out.map.lt
  go_enter Try.func10, Try.ntmps10
  go_wp2_with (at_range; refine wpList_rng keyI boolEl rfl _ _ 4 rfl Try.underlying28 rfl HB.out.map ?_; intro w1 cnt1 hR1 hs1)
  go_frame
  go_loopw [2, 3, 5] (fun y z _ wr => ∃ (left : Int → Bool) (c : Nat), MapR keyI boolEl wr mb w.heap.size n f left c ∧ y = .int .i64 (cntD f left ks true) ∧ z = .int .i64 (cntD f left ks false) ∧ Step [] w wr) (fun _ _ _ wr => wr.rangeLeft mb w.heap.size)
  case atStart => exact ⟨_, cnt1, hR1, by rw [cntD_start]; rfl, by rw [cntD_start]; rfl, hs1⟩
  case round =>
    obtain ⟨left, c, hR, rfl, rfl, hs⟩ := hrel
    have HR := Lib.hid hR
    have HS := Lib.hid hs
    clear hR hs hR1 hs1
    go_wp2_with (at_next; refine wpList_nxt keyI boolEl rfl _ rfl rfl HR.out ?_ ?_)
    · intro _ hl0
      have ht := cntD_end f left true ks (fun x hx => hl0 x (HG.out x hx))
      have hf2 := cntD_end f left false ks (fun x hx => hl0 x (HG.out x hx))
      rw [ht, hf2]
      clear hl0 ht hf2
      go_wp2
      go_ret2
      exact ⟨rfl, HS.out⟩
    · intro x
      refine ⟨?_, ?_⟩
      · intro w2 cnt2 hgx hlx hfx hR2 hlt hs2 hen
        have HR2 := Lib.hid hR2
        have HS2 := Lib.hid (HS.out.then hs2 (fun k hk => by simp at hk; exact .inr (by omega)))
        have hxk := HK.out x hgx (by rw [hfx]; rfl)
        have ht := Lib.hid (cntD_step f left x false true hlx hfx ks HN.out hxk)
        have hu := Lib.hid (cntD_step f left x false false hlx hfx ks HN.out hxk)
        have hb1 := cntD_le f left true ks
        have hb2 := cntD_le f left false ks
        generalize cntD f left ks true = y at *
        generalize cntD f left ks false = z at *
        clear hR2 hs2 HS hxk
        go_wp2_with fail
        go_roundw
        case rel => exact ⟨_, cnt2, HR2.out, by rw [ht.out]; simp, by rw [hu.out]; simp, HS2.out⟩
        case measure => rw [HR2.out.cnt_eq, HR.out.cnt_eq]; exact hlt
      · intro w2 cnt2 hgx hlx hfx hR2 hlt hs2 hen
        have HR2 := Lib.hid hR2
        have HS2 := Lib.hid (HS.out.then hs2 (fun k hk => by simp at hk; exact .inr (by omega)))
        have hxk := HK.out x hgx (by rw [hfx]; rfl)
        have ht := Lib.hid (cntD_step f left x true true hlx hfx ks HN.out hxk)
        have hu := Lib.hid (cntD_step f left x true false hlx hfx ks HN.out hxk)
        have hb1 := cntD_le f left true ks
        have hb2 := cntD_le f left false ks
        generalize cntD f left ks true = y at *
        generalize cntD f left ks false = z at *
        clear hR2 hs2 HS hxk
        go_wp2_with fail
        go_roundw
        case rel => exact ⟨_, cnt2, HR2.out, by rw [ht.out]; simp, by rw [hu.out]; simp, HS2.out⟩
        case measure => rw [HR2.out.cnt_eq, HR.out.cnt_eq]; exact hlt

/-- a ballot's state, by what was said -/
def stateV (l : List Int) (y z : Nat) : Int := if goodM l then (if l.length / 2 + 1 ≤ y then 1 else if l.length < z + (l.length / 2 + 1) then 2 else 0) else 2

set_option maxHeartbeats 400000 in
theorem major_any (a : Option Addr) (cap : Nat) (l : List Int) (w : World) (hlen : l.length < 1000000) :
    Calls Try.prog 15 #[.slice a l.length cap] w fun e w' => e = .returned (.int .i64 ((l.length / 2 + 1 : Nat) : Int)) ∧ w = w' := by
  go_enter Try.func15, Try.ntmps15
  go_wp2
  go_ret
  refine ⟨ret_int ?_, rfl⟩
  first | omega | (simp; omega) | (simp)

set_option maxHeartbeats 1000000 in
theorem state_any (ks : List Int) (w : World) (hB : Bal w bb mb n a cap l f) (hlen : l.length < 1000000) (hnd : ks.Nodup) (hks : ∀ x, IsI x → (f x).isSome = true → x ∈ ks) (hgd : ∀ x ∈ ks, IsI x) (hlen2 : ks.length < 1000000) :
    Calls Try.prog 11 #[.pointer (some ⟨bb, 0, none⟩)] w fun e w' => e = .returned (.int .i64 (stateV l (cnt f ks true) (cnt f ks false))) ∧ Step [] w w' := by
  have HR := Lib.hid (bright_any w hB hlen)
  have HB := Lib.hid hB
  have HC := Lib.hid (fun w1 h => count_any ks w1 (hB.step0 (w' := w1) h) hnd hks hgd hlen2)
  clear hB hnd hks hgd
  have hb1 := cnt_le f true ks
  have hb2 := cnt_le f false ks
  have hv : stateV l (cnt f ks true) (cnt f ks false) = if goodM l then (if l.length / 2 + 1 ≤ cnt f ks true then 1 else if l.length < cnt f ks false + (l.length / 2 + 1) then 2 else 0) else 2 := rfl
  have HV := Lib.hid hv
  clear hv
  generalize stateV l (cnt f ks true) (cnt f ks false) = V at *
  generalize cnt f ks true = y at *
  generalize cnt f ks false = z at *
  cases hg : goodM l with
  | false =>
    rw [hg] at HR HV
    go_enter Try.func11, Try.ntmps11
    go_wp2_with fail
    refine HR.out.mono ?_
    rintro e w1 ⟨rfl, hs⟩
    go_wp2_with fail
    go_ret
    exact ⟨by rw [HV.out]; rfl, hs⟩
  | true =>
    rw [hg] at HR HV
    go_enter Try.func11, Try.ntmps11
    go_wp2_with fail
    refine HR.out.mono ?_
    rintro e w1 ⟨rfl, hs⟩
    have HS := Lib.hid hs
    clear hs
    go_wp2_with fail
    refine (HC.out w1 HS.out).mono ?_
    rintro e w2 ⟨rfl, hs⟩
    have HS2 := Lib.hid (HS.out.then hs (fun k hk => by cases hk))
    clear hs HS HC HR
    have hc0 := (HB.out.step0 HS2.out).cell0
    go_wp2_with fail
    refine (major_any a cap l w2 hlen).mono ?_
    rintro e w3 ⟨rfl, rfl⟩
    have hq : l.length / 2 ≤ l.length := Nat.div_le_self _ _
    generalize hqq : l.length / 2 + 1 = q at *
    go_wp2_with fail
    all_goals
      go_ret
      refine ⟨?_, HS2.out⟩
      rw [HV.out]
      refine ret_int ?_
      simp
      omega
end Go.Proofs.Ytnonejablndojaa
