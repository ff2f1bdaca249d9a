/- NodeKeeps: the walk, as the row asks for it. -/
import Derived.Test.YtpjaopcgoaannaaN26
import Derived.Test.YtpjaopcgoaannaaN40
namespace Go.Proofs.Ytpjaopcgoaannaa
open Go.RowKit Go.Lib
open Hb
theorem nodeKeeps_row (w : World) (vi : Value) (ids : List UInt8) (hi : SlE encB 1 w vi ids) (hil : ids.length ≤ maxLen) (m : Int) (hm : (Lit.int .u8 m).wf = true) :
    Calls Try.prog 3 #[vi, .int .u8 m] w fun e w' => e = .returned (.bool true) ∧ Below w.heap.size w w' :=
  nodeKeeps_walk w vi ids hi hil m (u8_rng hm).1 (u8_rng hm).2
end Go.Proofs.Ytpjaopcgoaannaa
