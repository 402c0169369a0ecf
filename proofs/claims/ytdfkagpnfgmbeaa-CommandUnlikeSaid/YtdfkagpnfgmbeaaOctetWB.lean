/- octet.Writer: Bytes, and a new one. -/
import Derived.Test.YtdfkagpnfgmbeaaOctetP
namespace Go.Proofs.Ytdfkagpnfgmbeaa
set_option linter.unusedVariables false
open Go.RowKit

/-- a new writer -/
theorem Wr.new (w : World) : Wr (w.alloc (.cells #[.slice none 0 0] 60)) w.heap.size w.heap.size (.slice none 0 0) [] :=
  ⟨Blk.new _ _ _, World.ownsRow_nil _ _ _ _, Nat.le_refl _, fun hk => by cases hk⟩

theorem Wr.new_blocks {w : World} {base pb : Nat} {v : Value} {bs : List UInt8} (h : Wr w base pb v bs) {G : List Nat} {B : Nat} (hB : B ≤ base) : ∀ k, k ∈ pb :: foot v → k ∈ G ∨ B ≤ k := fun k hk => by
  rcases List.mem_cons.1 hk with rfl | hk
  · exact .inr (Nat.le_trans hB h.low)
  · exact .inr (Nat.le_trans hB (owns_base h.own k hk))

set_option maxHeartbeats 400000 in
theorem wbytes_any (base pb : Nat) (v : Value) (bs : List UInt8) (w : World) (hW : Wr w base pb v bs) (hlen : bs.length ≤ 35184372088832) :
    Calls Try.prog 28 #[.pointer (some ⟨pb, 0, none⟩)] w (NewBytes bs w) := by
  obtain ⟨a, cap, rfl, hl, hm, hnc, hB, hn, _⟩ := owns_bytes hW.own
  have hc0 := hW.blk.cell 0
  simp at hc0
  have HC := Lib.hid (clone_bytes a cap bs w hn hB (by omega))
  clear hW hB hn
  go_enter Try.func28, Try.ntmps28
  go_wp2_with fail
  refine HC.out.mono ?_
  rintro e w1 ⟨v1, rfl, h1, h2⟩
  go_wp2_with fail
  go_ret
  exact ⟨_, rfl, h1, h2⟩
end Go.Proofs.Ytdfkagpnfgmbeaa
