/- node.Affiliate. Written by gen_n30.py. -/
import Derived.Test.YtpjaopcgoaannaaN30b
import Derived.Test.YtpjaopcgoaannaaN30c
import Derived.Test.YtpjaopcgoaannaaN30d
namespace Go.Proofs.Ytpjaopcgoaannaa
open Go.RowKit Go.Lib
open Hb

set_option maxRecDepth 100000 in
set_option maxHeartbeats 8000000 in
theorem affiliate_any (v : Value) (n : PNode) (by_ who : ByteArray) (r : Int) (w : World) (hv : NodeV w v n) (hbd : Bd n) (hsw : Sm who) :
    Calls Try.prog 31 #[v, .string by_, .string who, .int .u8 r] w fun e w' => ∃ v', e = .returned (.tuple #[v', .int .i64 (affiliateN pr n by_ who r).2]) ∧ NodeV w' v' (affiliateN pr n by_ who r).1 ∧ Below w.heap.size w w' := by
  by_cases h : ownerN pr n by_ = 0 ∧ addrB who = true ∧ ¬ r < 1 ∧ ¬ 5 < r
  · obtain ⟨ho, had, h1, h2⟩ := h
    by_cases h4 : r = 2
    · subst h4; exact affiliate_two v n by_ who w hv hbd hsw ho had
    by_cases h5 : r = 1
    · subst h5; exact affiliate_out v n by_ who w hv hbd hsw ho had
    exact affiliate_role v n by_ who r w hv hbd hsw ho had h1 h2 h4 h5
  · exact affiliate_bad v n by_ who r w hv hbd hsw (fun a b c d => h ⟨a, b, by omega, by omega⟩)
end Go.Proofs.Ytpjaopcgoaannaa
