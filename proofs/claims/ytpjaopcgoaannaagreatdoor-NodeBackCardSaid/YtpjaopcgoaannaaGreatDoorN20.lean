/- node.Configure, node.Publish. Written by gen_n20.py. -/
import Derived.Test.YtpjaopcgoaannaaGreatDoorN19
namespace Go.Proofs.YtpjaopcgoaannaaGreatDoor
open Go.RowKit Go.Lib
open Hb

end Go.Proofs.YtpjaopcgoaannaaGreatDoor
