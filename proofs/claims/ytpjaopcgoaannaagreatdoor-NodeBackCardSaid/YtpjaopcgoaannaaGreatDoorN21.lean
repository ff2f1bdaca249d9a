/- node.Publish. Written by gen_n20.py. -/
import Derived.Test.YtpjaopcgoaannaaGreatDoorN20
namespace Go.Proofs.YtpjaopcgoaannaaGreatDoor
open Go.RowKit Go.Lib
open Hb
theorem item_one1 (x : PItem) : ∀ u ∈ x.enc, u.oneCell' = true := by
  intro u hu
  exact PItem.one [x] u (by simpa using hu)

end Go.Proofs.YtpjaopcgoaannaaGreatDoor
