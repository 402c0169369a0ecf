/- wheel.step. -/
import Derived.Test.YtmfplcmncipojaaWhDa0
import Derived.Test.YtmfplcmncipojaaWhDa1
import Derived.Test.YtmfplcmncipojaaWhDb0
import Derived.Test.YtmfplcmncipojaaWhDb1
import Derived.Test.YtmfplcmncipojaaWhDc0
namespace Go.Proofs.Ytmfplcmncipojaa
set_option linter.unusedVariables false
open Go.RowKit Go.Maps
theorem wstep_any (wb : Nat) (mb : Nat → Nat) (hb : Nat) (now last most : Int) (T : ByteArray → Option Int) (ks : List ByteArray) (w : World) (h : Wh w wb mb hb now most ks.length (WL T (PI now T)) (SL T (PI now T))) (ht : Tim T ks) (h0 : 0 ≤ now) (hl : now < last) (hm : last ≤ 1099511627776) :
    Calls Try.prog 25 #[ptr wb, .int .i64 last] w (Stepped wb mb hb now last most T ks w) := by
  obtain ⟨t, hS, hE⟩ := st_first now last T ks ht h0 _ (now + 1) (Nat.le_refl _) ⟨⟨by omega, by omega, by omega, fun x hx a ha => by omega⟩, fun u h1 h2 => by omega⟩
  by_cases hc : t % 16777216 = 0
  · rcases hE with hE | hE | hE
    · exact wstep_a1 wb mb hb now last t most T ks w h ht h0 hm hS hE hc
    · exact wstep_b1 wb mb hb now last t most T ks w h ht h0 hm hS hE hc
    · exact absurd hc (by have := hE.2.1; omega)
  · rcases hE with hE | hE | hE
    · exact wstep_a0 wb mb hb now last t most T ks w h ht h0 hm hS hE hc
    · exact wstep_b0 wb mb hb now last t most T ks w h ht h0 hm hS hE hc
    · exact wstep_c0 wb mb hb now last t most T ks w h ht h0 hm hS hE hc
end Go.Proofs.Ytmfplcmncipojaa
