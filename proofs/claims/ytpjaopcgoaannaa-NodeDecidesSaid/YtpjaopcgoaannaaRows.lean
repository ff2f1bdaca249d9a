/-
  No cell of these rows narrows 'for every input' (looked for: loops, veiled, ifaces, maps, wideKeys, modest, calm, conditions, laid).
  DERIVED. THE GIVEN ROWS OF THIS SEAT. 5 by the template 'for every input the law returns true; each argument reads behind the call as it read before'; 0 by the template 'total and deterministic' (their statements: YtpjaopcgoaannaaTotals.lean).
  GIVEN WITH THE SEED: the statements are not yours to turn. If you find one false, say at which input.
  Laid BY PROGRAM, IN A SANDBOX (cutbox-rows.mjs): the forced cells as the released guide's own fill.sh prints them over the translation ba6cc6557f367def… (all of the seat's roots in one cut). By AI agents, Wed Nov 11 2026. No macro, syntax, notation, axiom, sorry.
-/
import Derived.Test.YtpjaopcgoaannaaChecked
import GoSem.Claim
import GoSem.ClaimJoined
import GoSem.ClaimMapViews
import Derived.JoinedTies
import Derived.KernelRfl
namespace Go.Proofs.Ytpjaopcgoaannaa
/- THE CELL 'sum', in the pinned program and in every row, IS THE sha256 OF THE DUMP (.gsa) THAT YtpjaopcgoaannaaProg.lean LOADS. Nothing in Lean hashes anything: it is a label: what it is worth is what the hold of that sum in a sandbox is worth. -/
noncomputable def Try.pinned : Pinned := { name := "ytpjaopcgoaannaa", sum := "ba6cc6557f367defcb31e7d0ac70b9b75561c0b70a8dd926c263d056d40b6921", checked := Try.checked }
namespace Rows
def none {H : Type} : Left H := { results := [], args := [] }

/-- 'heliographlaw11.NodeKeeps': WHATEVER THE INPUT: true; the input reads as it did. -/
def nodeKeepsSpec : ChangeSpec := { name := "nodeKeeps", fn := fun _ => fun
  | [d1, d2] => { results := [.lit (.bool true)], args := [d1, d2] }
  | _ => none }
def nodeKeepsRow : OpenClaim := { program := "ytpjaopcgoaannaa", sum := "ba6cc6557f367defcb31e7d0ac70b9b75561c0b70a8dd926c263d056d40b6921", func := "heliograph/heliographlaw11.NodeKeeps", spec := "nodeKeeps", inPlace := ["internal/bytealg.IndexByteString", "internal/bytealg.IndexString", "internal/bytealg.abigen_runtime_cmpstring", "slices.overlaps[heliograph/api.Sub]"], unfollowed := true, recurses := true, named := ["internal/bytealg.MaxLen"], apart := false }
def NodeKeepsSaid : Prop := nodeKeepsRow.holds Try.pinned (OpenSpec.ofChange nodeKeepsSpec)

/-- ITS FALSE NEIGHBOUR: 'it returns false'. Refute it at one input. -/
def nodeKeepsWrong : ChangeSpec := { name := "nodeKeeps", fn := fun _ => fun
  | [d1, d2] => { results := [.lit (.bool false)], args := [d1, d2] }
  | _ => none }
def NodeKeepsWrongFalsely : Prop := nodeKeepsRow.holds Try.pinned (OpenSpec.ofChange nodeKeepsWrong)

/-- 'heliographlaw11.NodeStays': WHATEVER THE INPUT: true; the input reads as it did. -/
def nodeStaysSpec : ChangeSpec := { name := "nodeStays", fn := fun _ => fun
  | [d1, d2, d3] => { results := [.lit (.bool true)], args := [d1, d2, d3] }
  | _ => none }
def nodeStaysRow : OpenClaim := { program := "ytpjaopcgoaannaa", sum := "ba6cc6557f367defcb31e7d0ac70b9b75561c0b70a8dd926c263d056d40b6921", func := "heliograph/heliographlaw11.NodeStays", spec := "nodeStays", inPlace := ["internal/bytealg.IndexByteString", "internal/bytealg.IndexString", "internal/bytealg.abigen_runtime_cmpstring", "slices.overlaps[heliograph/api.Sub]", "slices.overlaps[heliograph/api.Aff]"], unfollowed := true, recurses := true, named := ["internal/bytealg.MaxLen"], apart := false }
def NodeStaysSaid : Prop := nodeStaysRow.holds Try.pinned (OpenSpec.ofChange nodeStaysSpec)

/-- ITS FALSE NEIGHBOUR: 'it returns false'. Refute it at one input. -/
def nodeStaysWrong : ChangeSpec := { name := "nodeStays", fn := fun _ => fun
  | [d1, d2, d3] => { results := [.lit (.bool false)], args := [d1, d2, d3] }
  | _ => none }
def NodeStaysWrongFalsely : Prop := nodeStaysRow.holds Try.pinned (OpenSpec.ofChange nodeStaysWrong)

/-- 'heliographlaw11.NodeMay': WHATEVER THE INPUT: true; the input reads as it did. -/
def nodeMaySpec : ChangeSpec := { name := "nodeMay", fn := fun _ => fun
  | [d1, d2] => { results := [.lit (.bool true)], args := [d1, d2] }
  | _ => none }
def nodeMayRow : OpenClaim := { program := "ytpjaopcgoaannaa", sum := "ba6cc6557f367defcb31e7d0ac70b9b75561c0b70a8dd926c263d056d40b6921", func := "heliograph/heliographlaw11.NodeMay", spec := "nodeMay", inPlace := ["internal/bytealg.IndexByteString", "internal/bytealg.IndexString", "internal/bytealg.abigen_runtime_cmpstring", "slices.overlaps[heliograph/api.Sub]", "slices.overlaps[heliograph/api.Aff]"], unfollowed := true, recurses := true, named := ["internal/bytealg.MaxLen"], apart := false }
def NodeMaySaid : Prop := nodeMayRow.holds Try.pinned (OpenSpec.ofChange nodeMaySpec)

/-- ITS FALSE NEIGHBOUR: 'it returns false'. Refute it at one input. -/
def nodeMayWrong : ChangeSpec := { name := "nodeMay", fn := fun _ => fun
  | [d1, d2] => { results := [.lit (.bool false)], args := [d1, d2] }
  | _ => none }
def NodeMayWrongFalsely : Prop := nodeMayRow.holds Try.pinned (OpenSpec.ofChange nodeMayWrong)

/-- 'heliographlaw11.NodeDecides': WHATEVER THE INPUT: true; the input reads as it did. -/
def nodeDecidesSpec : ChangeSpec := { name := "nodeDecides", fn := fun _ => fun
  | [d1, d2, d3] => { results := [.lit (.bool true)], args := [d1, d2, d3] }
  | _ => none }
def nodeDecidesRow : OpenClaim := { program := "ytpjaopcgoaannaa", sum := "ba6cc6557f367defcb31e7d0ac70b9b75561c0b70a8dd926c263d056d40b6921", func := "heliograph/heliographlaw11.NodeDecides", spec := "nodeDecides", inPlace := ["internal/bytealg.IndexByteString", "internal/bytealg.IndexString", "internal/bytealg.abigen_runtime_cmpstring", "slices.overlaps[heliograph/api.Sub]", "slices.overlaps[heliograph/api.Aff]"], unfollowed := true, recurses := true, named := ["internal/bytealg.MaxLen"], apart := false }
def NodeDecidesSaid : Prop := nodeDecidesRow.holds Try.pinned (OpenSpec.ofChange nodeDecidesSpec)

/-- ITS FALSE NEIGHBOUR: 'it returns false'. Refute it at one input. -/
def nodeDecidesWrong : ChangeSpec := { name := "nodeDecides", fn := fun _ => fun
  | [d1, d2, d3] => { results := [.lit (.bool false)], args := [d1, d2, d3] }
  | _ => none }
def NodeDecidesWrongFalsely : Prop := nodeDecidesRow.holds Try.pinned (OpenSpec.ofChange nodeDecidesWrong)

/-- 'heliographlaw11.NodeOnly': WHATEVER THE INPUT: true; the input reads as it did. -/
def nodeOnlySpec : ChangeSpec := { name := "nodeOnly", fn := fun _ => fun
  | [d1, d2] => { results := [.lit (.bool true)], args := [d1, d2] }
  | _ => none }
def nodeOnlyRow : OpenClaim := { program := "ytpjaopcgoaannaa", sum := "ba6cc6557f367defcb31e7d0ac70b9b75561c0b70a8dd926c263d056d40b6921", func := "heliograph/heliographlaw11.NodeOnly", spec := "nodeOnly", inPlace := ["internal/bytealg.IndexByteString", "internal/bytealg.IndexString", "internal/bytealg.abigen_runtime_cmpstring", "slices.overlaps[heliograph/api.Sub]", "slices.overlaps[heliograph/api.Aff]"], unfollowed := true, recurses := true, named := ["internal/bytealg.MaxLen"], apart := false }
def NodeOnlySaid : Prop := nodeOnlyRow.holds Try.pinned (OpenSpec.ofChange nodeOnlySpec)

/-- ITS FALSE NEIGHBOUR: 'it returns false'. Refute it at one input. -/
def nodeOnlyWrong : ChangeSpec := { name := "nodeOnly", fn := fun _ => fun
  | [d1, d2] => { results := [.lit (.bool false)], args := [d1, d2] }
  | _ => none }
def NodeOnlyWrongFalsely : Prop := nodeOnlyRow.holds Try.pinned (OpenSpec.ofChange nodeOnlyWrong)

/- THE SECOND FORM. 'bulk': how many values and letters a reading holds, each counted each time it is reached (what is shared counts as often as it is met; a slice's spare places count too). A statement '..UptoSaid' is the law's where the arguments, and the package variables that the reading takes, are together of bulk at most 1048576: NARROWER than '..Said'. Prove '..Said' where nothing that the law and all that it calls make is longer than what came in: it says more and counts as full. Else prove '..UptoSaid'. A law counts once. -/
mutual
def uptoBulk {H : Type} : DataW H → Nat
  | .lit (.string bytes) => bytes.length + 1
  | .lit _ => 1
  | .nil => 1
  | .ptr d => uptoBulk d + 1
  | .slice elems spare => uptoBulkAll elems + uptoBulkAll spare + 1
  | .agg parts => uptoBulkAll parts + 1
  | .iface _ d => uptoBulk d + 1
  | .map entries => uptoBulkEntries entries + 1
  | .held _ => 1
def uptoBulkAll {H : Type} : List (DataW H) → Nat
  | [] => 0
  | d :: r => uptoBulk d + uptoBulkAll r
def uptoBulkEntries {H : Type} : List (Lit × DataW H) → Nat
  | [] => 0
  | x :: r => uptoBulkEntry x + uptoBulkEntries r
def uptoBulkEntry {H : Type} : Lit × DataW H → Nat
  | (.string bytes, d) => bytes.length + uptoBulk d + 1
  | (_, d) => uptoBulk d + 1
 end
def uptoSmall : (H : Type) → List (DataW H) → Bool := fun _ ds => decide (uptoBulkAll ds ≤ 1048576)
def OpenSpec.upto (s : _root_.Go.ChangeSpec) : _root_.Go.OpenSpec := { _root_.Go.OpenSpec.ofChange s with cond := some uptoSmall }

/-- 'heliographlaw11.NodeKeeps', WHERE WHAT IT READS IS OF BULK AT MOST 1048576: true; the input reads as it did. -/
def nodeKeepsUptoRow : OpenClaim := { program := "ytpjaopcgoaannaa", sum := "ba6cc6557f367defcb31e7d0ac70b9b75561c0b70a8dd926c263d056d40b6921", func := "heliograph/heliographlaw11.NodeKeeps", spec := "nodeKeeps", inPlace := ["internal/bytealg.IndexByteString", "internal/bytealg.IndexString", "internal/bytealg.abigen_runtime_cmpstring", "slices.overlaps[heliograph/api.Sub]"], unfollowed := true, recurses := true, named := ["internal/bytealg.MaxLen"], apart := false, narrowed := true }
def NodeKeepsUptoSaid : Prop := nodeKeepsUptoRow.holds Try.pinned (OpenSpec.upto nodeKeepsSpec)

/-- 'heliographlaw11.NodeStays', WHERE WHAT IT READS IS OF BULK AT MOST 1048576: true; the input reads as it did. -/
def nodeStaysUptoRow : OpenClaim := { program := "ytpjaopcgoaannaa", sum := "ba6cc6557f367defcb31e7d0ac70b9b75561c0b70a8dd926c263d056d40b6921", func := "heliograph/heliographlaw11.NodeStays", spec := "nodeStays", inPlace := ["internal/bytealg.IndexByteString", "internal/bytealg.IndexString", "internal/bytealg.abigen_runtime_cmpstring", "slices.overlaps[heliograph/api.Sub]", "slices.overlaps[heliograph/api.Aff]"], unfollowed := true, recurses := true, named := ["internal/bytealg.MaxLen"], apart := false, narrowed := true }
def NodeStaysUptoSaid : Prop := nodeStaysUptoRow.holds Try.pinned (OpenSpec.upto nodeStaysSpec)

/-- 'heliographlaw11.NodeMay', WHERE WHAT IT READS IS OF BULK AT MOST 1048576: true; the input reads as it did. -/
def nodeMayUptoRow : OpenClaim := { program := "ytpjaopcgoaannaa", sum := "ba6cc6557f367defcb31e7d0ac70b9b75561c0b70a8dd926c263d056d40b6921", func := "heliograph/heliographlaw11.NodeMay", spec := "nodeMay", inPlace := ["internal/bytealg.IndexByteString", "internal/bytealg.IndexString", "internal/bytealg.abigen_runtime_cmpstring", "slices.overlaps[heliograph/api.Sub]", "slices.overlaps[heliograph/api.Aff]"], unfollowed := true, recurses := true, named := ["internal/bytealg.MaxLen"], apart := false, narrowed := true }
def NodeMayUptoSaid : Prop := nodeMayUptoRow.holds Try.pinned (OpenSpec.upto nodeMaySpec)

/-- 'heliographlaw11.NodeDecides', WHERE WHAT IT READS IS OF BULK AT MOST 1048576: true; the input reads as it did. -/
def nodeDecidesUptoRow : OpenClaim := { program := "ytpjaopcgoaannaa", sum := "ba6cc6557f367defcb31e7d0ac70b9b75561c0b70a8dd926c263d056d40b6921", func := "heliograph/heliographlaw11.NodeDecides", spec := "nodeDecides", inPlace := ["internal/bytealg.IndexByteString", "internal/bytealg.IndexString", "internal/bytealg.abigen_runtime_cmpstring", "slices.overlaps[heliograph/api.Sub]", "slices.overlaps[heliograph/api.Aff]"], unfollowed := true, recurses := true, named := ["internal/bytealg.MaxLen"], apart := false, narrowed := true }
def NodeDecidesUptoSaid : Prop := nodeDecidesUptoRow.holds Try.pinned (OpenSpec.upto nodeDecidesSpec)

/-- 'heliographlaw11.NodeOnly', WHERE WHAT IT READS IS OF BULK AT MOST 1048576: true; the input reads as it did. -/
def nodeOnlyUptoRow : OpenClaim := { program := "ytpjaopcgoaannaa", sum := "ba6cc6557f367defcb31e7d0ac70b9b75561c0b70a8dd926c263d056d40b6921", func := "heliograph/heliographlaw11.NodeOnly", spec := "nodeOnly", inPlace := ["internal/bytealg.IndexByteString", "internal/bytealg.IndexString", "internal/bytealg.abigen_runtime_cmpstring", "slices.overlaps[heliograph/api.Sub]", "slices.overlaps[heliograph/api.Aff]"], unfollowed := true, recurses := true, named := ["internal/bytealg.MaxLen"], apart := false, narrowed := true }
def NodeOnlyUptoSaid : Prop := nodeOnlyUptoRow.holds Try.pinned (OpenSpec.upto nodeOnlySpec)

end Rows
end Go.Proofs.Ytpjaopcgoaannaa
