/- FrameScans: what the law's walk keeps. -/
import Derived.Test.YtkogchmnpffiaaaScanB
import Derived.Test.YtkogchmnpffiaaaScanC
import Derived.Test.YtkogchmnpffiaaaRecs
import Derived.Test.YtkogchmnpffiaaaLoopM
import Derived.Test.YtkogchmnpffiaaaRelW
namespace Go.Proofs.Ytkogchmnpffiaaa
set_option linter.unusedVariables false
open Go.RowKit

theorem leave_scans {w wr : World} {Ds : List Nat} {T : TypeId} {tmps : Array Value} {Q : Ending → World → Prop} {b : Nat} (hb : Blk wr b #[.bool true] T) (hs : Step [] w wr) (hm : MarksOk wr Ds) (hD : ∀ D, D ∈ Ds → w.heap.size ≤ D ∧ D ≠ b)
    (h12 : tmps[12]?.getD undef = .pointer (some ⟨b, 0, none⟩)) (hQ : ∀ w', Step [] w w' → Q (.returned (.bool true)) w') :
    LeavesInM Fence.wide 3 Try.prog Try.f5 tmps Q (mks Ds) .returning wr := by
  have hne : b ∉ Ds := fun hd => (hD _ hd).2 rfl
  refine leaves_marks Ds wr hm (fun w' hs2 => ?_)
  have c0 := (hb.step hs2 hne).cell 0
  simp only [List.getElem?_toArray, List.getElem?_cons_zero] at c0
  refine ⟨.bool true, ?_, hQ w' (hs.then hs2 (fun k hk => .inr (hD k hk).1))⟩
  simp [results, Try.f5, go_sem, c0, h12]

def intVal (x : Nat) : Value := .int .i64 (x : Int)
/-- where the first records begin -/
def startsF (s : Nat) (rs : List (UInt8 × List UInt8)) (i : Nat) : List Nat := (List.range i).map fun j => (chainB s (rs.take j)).length
theorem startsF_len (s : Nat) (rs : List (UInt8 × List UInt8)) (i : Nat) : (startsF s rs i).length = i := by simp [startsF]
theorem startsF_snoc (s : Nat) (rs : List (UInt8 × List UInt8)) (i : Nat) : startsF s rs (i + 1) = startsF s rs i ++ [(chainB s (rs.take i)).length] := by simp [startsF, List.range_succ]
theorem startsF_at {s : Nat} {rs : List (UInt8 × List UInt8)} {i j : Nat} (h : j < i) : (startsF s rs i)[j]? = some (chainB s (rs.take j)).length := by simp [startsF, h]

/-- what the law keeps: the box of its rows, of its result, of where the records begin; these; their bytes -/
structure Ck (w0 : World) (b7 b14 base : Nat) (lv sv bv : Value) (ss : List Nat) (B : List UInt8) (w : World) : Prop where
  st : Step [] w0 w
  c7 : Blk w b7 #[lv] 40
  c12 : Blk w (b7 + 1) #[.bool false] 4
  c14 : Blk w b14 #[sv] 42
  low : w0.heap.size ≤ b7
  lt14 : b7 + 1 < b14
  ltb : b14 < base
  srow : w.ownsRow base 3 1 sv ss.length (ss.map intVal)
  brow : w.ownsRow base 5 1 bv B.length (B.map byteVal)
  dj : Dj (foot sv) (foot bv)
theorem Ck.step {w0 w w' : World} {b7 b14 base : Nat} {lv sv bv : Value} {ss : List Nat} {B : List UInt8} {H : List Nat} (h : Ck w0 b7 b14 base lv sv bv ss B w) (hs : Step H w w') (hH : ∀ k, k ∈ H → base ≤ k ∧ k ∉ foot sv ∧ k ∉ foot bv) : Ck w0 b7 b14 base lv sv bv ss B w' := by
  have h1 := h.low
  have h2 := h.lt14
  have h3 := h.ltb
  have hz := h.st.size
  exact ⟨h.st.then hs (fun k hk => .inr (by have := (hH k hk).1; omega)), h.c7.step hs (fun hm => by have := (hH _ hm).1; omega), h.c12.step hs (fun hm => by have := (hH _ hm).1; omega), h.c14.step hs (fun hm => by have := (hH _ hm).1; omega),
    h1, h2, h3, owns_step h.srow hs (fun k hk hm => (hH k hm).2.1 hk), owns_step h.brow hs (fun k hk hm => (hH k hm).2.2 hk), h.dj⟩
theorem Ck.quiet {w0 w w' : World} {b7 b14 base : Nat} {lv sv bv : Value} {ss : List Nat} {B : List UInt8} (h : Ck w0 b7 b14 base lv sv bv ss B w) (hs : Step [] w w') : Ck w0 b7 b14 base lv sv bv ss B w' := h.step hs (fun k hk => absurd hk List.not_mem_nil)
/-- a start more -/
theorem Ck.start {w0 w w2 : World} {b7 b14 base : Nat} {lv sv bv sv2 : Value} {ss : List Nat} {B : List UInt8} (h : Ck w0 b7 b14 base lv sv bv ss B w) {x : Nat}
    (hs : Step (foot sv) w w2) (ho : w2.ownsRow base 3 1 sv2 (ss.length + 1) (ss.map intVal ++ [intVal x])) (hf : Fresh w (foot sv) (foot sv2)) :
    Ck w0 b7 b14 base lv sv2 bv (ss ++ [x]) B (w2.setCell ⟨b14, 0, none⟩ sv2) ∧ Step (b14 :: foot sv) w (w2.setCell ⟨b14, 0, none⟩ sv2) := by
  have hb := owns_base h.srow
  have hb2 := owns_base ho
  have hb3 := owns_base h.brow
  have hl3 := owns_live h.brow
  have h1 := h.low
  have h2 := h.lt14
  have h3 := h.ltb
  have n14 : b14 ∉ foot sv := fun hm => by have := hb _ hm; omega
  have s2 : Step [b14] w2 (w2.setCell ⟨b14, 0, none⟩ sv2) := (Step.refl _ _).setCell (.inl (by simp)) 0 _
  refine ⟨⟨(h.st.then hs (fun k hk => .inr (by have := hb k hk; omega))).then s2 (fun k hk => .inr (by simp at hk; omega)), (h.c7.step hs (fun hm => by have := hb _ hm; omega)).step s2 (by simp; omega), (h.c12.step hs (fun hm => by have := hb _ hm; omega)).step s2 (by simp; omega),
    (h.c14.step hs n14).set 0 _, h1, h2, h3, ?_, ?_, fun k hk hm => ?_⟩, (hs.mono (fun k hk => List.mem_cons_of_mem _ hk)).setCell (.inl List.mem_cons_self) 0 _⟩
  · rw [List.length_append, List.map_append]
    exact owns_step ho s2 (fun k hk hm => by simp at hm; have := hb2 k hk; omega)
  · exact owns_step (owns_step h.brow hs (fun k hk hm => h.dj k hm hk)) s2 (fun k hk hm => by simp at hm; have := hb3 k hk; omega)
  · rcases hf k hk with h4 | h4
    · exact h.dj k h4 hm
    · have := hl3 k hm
      omega
/-- bytes more -/
theorem Ck.more {w0 w w2 : World} {b7 b14 base : Nat} {lv sv bv bv2 : Value} {ss : List Nat} {B X : List UInt8} (h : Ck w0 b7 b14 base lv sv bv ss B w)
    (hs : Step (foot bv) w w2) (ho : w2.ownsRow base 5 1 bv2 (B.length + X.length) (B.map byteVal ++ X.map byteVal)) (hf : Fresh w (foot bv) (foot bv2)) : Ck w0 b7 b14 base lv sv bv2 ss (B ++ X) w2 := by
  have hb := owns_base h.brow
  have hl3 := owns_live h.srow
  have h1 := h.low
  have h2 := h.lt14
  have h3 := h.ltb
  refine ⟨h.st.then hs (fun k hk => .inr (by have := hb k hk; omega)), h.c7.step hs (fun hm => by have := hb _ hm; omega), h.c12.step hs (fun hm => by have := hb _ hm; omega), h.c14.step hs (fun hm => by have := hb _ hm; omega), h1, h2, h3,
    owns_step h.srow hs (fun k hk hm => h.dj k hk hm), ?_, fun k hk hm => ?_⟩
  · rw [List.length_append, List.map_append]
    exact ho
  · rcases hf k hm with h4 | h4
    · exact h.dj k hk h4
    · have := hl3 k hk
      omega

theorem Step.offF {F R H : List Nat} {n : Nat} {w A B : World} (h : Step F w A) (hs : Step H A B) (hd : Dj (offR R n) H) (hR : ∀ k, k ∈ R → k ∈ F) (hn : w.heap.size ≤ n) : Step F w B :=
  h.then hs (fun k hk => by
    by_cases hkR : k ∈ R
    · exact .inl (hR k hkR)
    · rcases Nat.lt_or_ge k n with hlt | hge
      · exact absurd hk (hd k (mem_offR.2 ⟨hlt, hkR⟩))
      · exact .inr (by omega))
theorem idx_prefix {s : Nat} {T : List UInt8} {pre : List Sx} {x : Sx} (h : (pre ++ [x]).map Sx.pr <+: scanR 0 s T) : (scanR 0 s T)[pre.length]? = some x.pr := by
  obtain ⟨t, ht⟩ := h
  rw [← ht, List.map_append, List.append_assoc, List.getElem?_append_right (by simp)]
  simp
theorem scanF_len : ∀ (f p s : Nat) (l : List UInt8), (scanF f p s l).length ≤ l.length
  | 0, _, _, _ => Nat.zero_le _
  | f + 1, p, s, l => by
    unfold scanF
    cases hn : nextR s l with
    | bad e => exact Nat.zero_le _
    | ok k d n t =>
      obtain ⟨h0, h1, -⟩ := nextR_ok hn
      have := scanF_len f (p + n) t (l.drop n)
      rw [List.length_drop] at this
      simp only [List.length_cons]
      omega
theorem scanR_len (p s : Nat) (l : List UInt8) : (scanR p s l).length ≤ l.length := scanF_len _ p s l
theorem scanR_lt {p s j : Nat} {l : List UInt8} {x : Nat × UInt8 × List UInt8} (h : (scanR p s l)[j]? = some x) : j < l.length := by
  have h1 := scanR_len p s l
  rcases Nat.lt_or_ge j (scanR p s l).length with h2 | h2
  · omega
  · rw [List.getElem?_eq_none h2] at h; cases h
theorem u8_xor_byte (x : UInt8) (b : Nat) (hb : b < 256) : bits .xor .u8 (x.toNat : Int) (b : Int) = ((x ^^^ UInt8.ofNat b).toNat : Int) := by
  have hx := x.toNat_lt
  rw [u8_xor_nat x.toNat b (by omega) hb]
  simp
  rw [Nat.mod_eq_of_lt hb]
theorem xor_ne (x : UInt8) {b : Nat} (h : b ≠ 0) (hb : b < 256) : x ^^^ UInt8.ofNat b ≠ x := by
  intro he
  have h1 := congrArg UInt8.toNat he
  simp at h1
  rw [Nat.mod_eq_of_lt hb] at h1
  have h2 : x.toNat ^^^ (x.toNat ^^^ b) = x.toNat ^^^ x.toNat := by rw [h1]
  rw [← Nat.xor_assoc, Nat.xor_self, Nat.zero_xor] at h2
  exact h h2
/-- the boxes behind the scan: all bytes, the end, the last sum, how many -/
structure Bo (b20 : Nat) (tv : Value) (e la j : Nat) (w : World) : Prop where
  c20 : Blk w b20 #[tv] 23
  c21 : Blk w (b20 + 1) #[.int .i64 (e : Int)] 3
  c22 : Blk w (b20 + 1 + 1) #[.int .u32 (la : Int)] 22
  c23 : Blk w (b20 + 1 + 1 + 1) #[.int .i64 (j : Int)] 3
theorem Bo.step {b20 : Nat} {tv : Value} {e la j : Nat} {w w' : World} {H : List Nat} (h : Bo b20 tv e la j w) (hs : Step H w w') (hd : ∀ k, b20 ≤ k → k ≤ b20 + 1 + 1 + 1 → k ∉ H) : Bo b20 tv e la j w' :=
  ⟨h.c20.step hs (hd _ (by omega) (by omega)), h.c21.step hs (hd _ (by omega) (by omega)), h.c22.step hs (hd _ (by omega) (by omega)), h.c23.step hs (hd _ (by omega) (by omega))⟩
theorem Bo.count {b20 : Nat} {tv : Value} {e la j : Nat} {w : World} (h : Bo b20 tv e la j w) (j2 : Nat) : Bo b20 tv e la j2 (w.setCell ⟨b20 + 1 + 1 + 1, 0, none⟩ (.int .i64 (j2 : Int))) :=
  ⟨h.c20.set_ne _ _ _ (by omega), h.c21.set_ne _ _ _ (by omega), h.c22.set_ne _ _ _ (by omega), h.c23.set 0 _⟩
theorem Bo.ends {b20 : Nat} {tv : Value} {e la j : Nat} {w : World} (h : Bo b20 tv e la j w) (e2 la2 : Nat) : Bo b20 tv e2 la2 j ((w.setCell ⟨b20 + 1, 0, none⟩ (.int .i64 (e2 : Int))).setCell ⟨b20 + 1 + 1, 0, none⟩ (.int .u32 (la2 : Int))) :=
  ⟨(h.c20.set_ne _ _ _ (by omega)).set_ne _ _ _ (by omega), (h.c21.set 0 _).set_ne _ _ _ (by omega), (h.c22.set_ne _ _ _ (by omega)).set 0 _, (h.c23.set_ne _ _ _ (by omega)).set_ne _ _ _ (by omega)⟩
/-- what holds behind j records that were told: n of them are the chain's, the others what goes on behind it -/
def Fi (s : Nat) (T : List UInt8) (n NB S j e la : Nat) : Prop :=
  e ≤ T.length ∧ la < 4294967296 ∧ (j ≤ n → e = NB ∧ la = S) ∧ (n ≤ j → (scanR 0 s T).drop j = scanR e la (T.drop e) ∧ goodR s T = ((goodR la (T.drop e)).1 + e, (goodR la (T.drop e)).2))
section
variable {s n j e la : Nat} {rs : List (UInt8 × List UInt8)} {r : List UInt8}
theorem Fi.start (hs : s < 4294967296) (h : ∀ y ∈ rs, y.2.length ≤ 100) (hn : rs.length = n) : Fi s (chainB s rs ++ r) n (chainB s rs).length (chainS s rs) 0 (chainB s rs).length (chainS s rs) := by
  obtain ⟨h1, h2⟩ := scan_chain rs 0 s r (fun y hy => Nat.le_trans (h y hy) (by decide))
  refine ⟨by rw [List.length_append]; omega, chainS_lt rs s hs, fun _ => ⟨rfl, rfl⟩, fun h0 => ?_⟩
  have hr : rs = [] := List.eq_nil_of_length_eq_zero (by omega)
  subst hr
  rw [List.drop_left, h2]
  exact ⟨by rw [h1]; simp [chainE, chainB, chainS], rfl⟩
theorem Fi.low (h : Fi s (chainB s rs ++ r) n (chainB s rs).length (chainS s rs) j e la) (hr : ∀ y ∈ rs, y.2.length ≤ 100) (hn : rs.length = n) (hj : j < n) {x : Nat × UInt8 × List UInt8} (hx : (scanR 0 s (chainB s rs ++ r))[j]? = some x) :
    x.1 = (chainB s (rs.take j)).length ∧ x.2 = rs.getD j (0, []) ∧ Fi s (chainB s rs ++ r) n (chainB s rs).length (chainS s rs) (j + 1) e la := by
  obtain ⟨h1, h2⟩ := scan_chain rs 0 s r (fun y hy => Nat.le_trans (hr y hy) (by decide))
  have h3 := chainE_at rs 0 s j (by omega)
  rw [h1, List.getElem?_append_left (by rw [chainE_len]; omega), h3] at hx
  cases hx
  obtain ⟨he, hla, h4, h5⟩ := h
  obtain ⟨rfl, rfl⟩ := h4 (by omega)
  refine ⟨by simp, rfl, he, hla, fun _ => ⟨rfl, rfl⟩, fun h6 => ?_⟩
  have h7 : j + 1 = n := by omega
  rw [List.drop_left, h2]
  refine ⟨?_, rfl⟩
  rw [h1, h7, ← hn, List.drop_left' (chainE_len rs 0 s), Nat.zero_add]
theorem Fi.high {T : List UInt8} {NB S : Nat} (h : Fi s T n NB S j e la) (hj : n ≤ j) {x : Nat × UInt8 × List UInt8} (hx : (scanR 0 s T)[j]? = some x) :
    ∃ m t, x.1 = e ∧ nextR la (T.drop e) = .ok x.2.1 x.2.2 m t ∧ e + m ≤ T.length ∧ t < 4294967296 ∧ Fi s T n NB S (j + 1) (e + m) t := by
  obtain ⟨he, hla, h4, h5⟩ := h
  obtain ⟨h6, h7⟩ := h5 hj
  have hlt : j < (scanR 0 s T).length := by
    rcases Nat.lt_or_ge j (scanR 0 s T).length with h | h
    · exact h
    · rw [List.getElem?_eq_none h] at hx; cases hx
  have hcons := List.drop_eq_getElem_cons hlt
  have hxe : (scanR 0 s T)[j] = x := by rw [List.getElem?_eq_getElem hlt] at hx; exact Option.some.inj hx
  rw [hxe] at hcons
  rcases scanR_cases e la (T.drop e) with ⟨er, h8, h9, h10⟩ | ⟨k, d, m, t, h8, h9, h10⟩
  · rw [h6, h9] at hcons; cases hcons
  · rw [h6, h9] at hcons
    injection hcons with h11 h12
    subst h11
    obtain ⟨q1, q2, q3⟩ := nextR_ok h8
    rw [List.length_drop] at q2
    refine ⟨m, t, rfl, h8, by omega, by omega, by omega, by omega, fun h => by omega, fun _ => ?_⟩
    rw [List.drop_drop] at h12 h10
    refine ⟨h12.symm, ?_⟩
    rw [h7, h10]
    simp only [Prod.mk.injEq, and_true]
    omega
theorem Fi.done {T : List UInt8} {NB S : Nat} (h : Fi s T n NB S j e la) (hj : (scanR 0 s T).length = j) (hn : n ≤ j) : (∃ er, nextR la (T.drop e) = .bad er) ∧ goodR s T = (e, la) := by
  obtain ⟨he, hla, h4, h5⟩ := h
  obtain ⟨h6, h7⟩ := h5 hn
  rw [← hj, List.drop_length] at h6
  rcases scanR_cases e la (T.drop e) with ⟨er, h8, h9, h10⟩ | ⟨k, d, m, t, h8, h9, h10⟩
  · refine ⟨⟨er, h8⟩, ?_⟩
    rw [h7, h10]
    simp
  · rw [h9] at h6; cases h6
theorem Fi.low' {T : List UInt8} {NB S : Nat} (hT : chainB s rs ++ r = T) (hNB : (chainB s rs).length = NB) (hS : chainS s rs = S) (h : Fi s T n NB S j e la) (hr : ∀ y ∈ rs, y.2.length ≤ 100) (hn : rs.length = n) (hj : j < n) {x : Nat × UInt8 × List UInt8} (hx : (scanR 0 s T)[j]? = some x) :
    x.1 = (chainB s (rs.take j)).length ∧ x.2 = rs.getD j (0, []) ∧ Fi s T n NB S (j + 1) e la := by
  subst hT hNB hS
  exact h.low hr hn hj hx
theorem scan_many (h : ∀ y ∈ rs, y.2.length ≤ 100) : rs.length ≤ (scanR 0 s (chainB s rs ++ r)).length := by
  obtain ⟨h1, h2⟩ := scan_chain rs 0 s r (fun y hy => Nat.le_trans (h y hy) (by decide))
  rw [h1, List.length_append, chainE_len]
  omega
end
set_option maxRecDepth 100000 in
theorem lit290 (f : Nat → Value) : litN 290 f = #[f 0, f 1, f 2, f 3, f 4, f 5, f 6, f 7, f 8, f 9, f 10, f 11, f 12, f 13, f 14, f 15, f 16, f 17, f 18, f 19, f 20, f 21, f 22, f 23, f 24, f 25, f 26, f 27, f 28, f 29, f 30, f 31, f 32, f 33, f 34, f 35, f 36, f 37, f 38, f 39, f 40, f 41, f 42, f 43, f 44, f 45, f 46, f 47, f 48, f 49, f 50, f 51, f 52, f 53, f 54, f 55, f 56, f 57, f 58, f 59, f 60, f 61, f 62, f 63, f 64, f 65, f 66, f 67, f 68, f 69, f 70, f 71, f 72, f 73, f 74, f 75, f 76, f 77, f 78, f 79, f 80, f 81, f 82, f 83, f 84, f 85, f 86, f 87, f 88, f 89, f 90, f 91, f 92, f 93, f 94, f 95, f 96, f 97, f 98, f 99, f 100, f 101, f 102, f 103, f 104, f 105, f 106, f 107, f 108, f 109, f 110, f 111, f 112, f 113, f 114, f 115, f 116, f 117, f 118, f 119, f 120, f 121, f 122, f 123, f 124, f 125, f 126, f 127, f 128, f 129, f 130, f 131, f 132, f 133, f 134, f 135, f 136, f 137, f 138, f 139, f 140, f 141, f 142, f 143, f 144, f 145, f 146, f 147, f 148, f 149, f 150, f 151, f 152, f 153, f 154, f 155, f 156, f 157, f 158, f 159, f 160, f 161, f 162, f 163, f 164, f 165, f 166, f 167, f 168, f 169, f 170, f 171, f 172, f 173, f 174, f 175, f 176, f 177, f 178, f 179, f 180, f 181, f 182, f 183, f 184, f 185, f 186, f 187, f 188, f 189, f 190, f 191, f 192, f 193, f 194, f 195, f 196, f 197, f 198, f 199, f 200, f 201, f 202, f 203, f 204, f 205, f 206, f 207, f 208, f 209, f 210, f 211, f 212, f 213, f 214, f 215, f 216, f 217, f 218, f 219, f 220, f 221, f 222, f 223, f 224, f 225, f 226, f 227, f 228, f 229, f 230, f 231, f 232, f 233, f 234, f 235, f 236, f 237, f 238, f 239, f 240, f 241, f 242, f 243, f 244, f 245, f 246, f 247, f 248, f 249, f 250, f 251, f 252, f 253, f 254, f 255, f 256, f 257, f 258, f 259, f 260, f 261, f 262, f 263, f 264, f 265, f 266, f 267, f 268, f 269, f 270, f 271, f 272, f 273, f 274, f 275, f 276, f 277, f 278, f 279, f 280, f 281, f 282, f 283, f 284, f 285, f 286, f 287, f 288, f 289] := rfl
end Go.Proofs.Ytkogchmnpffiaaa
