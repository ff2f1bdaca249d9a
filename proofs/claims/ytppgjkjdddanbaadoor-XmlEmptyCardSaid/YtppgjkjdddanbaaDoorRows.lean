/-
  NARROWER THAN 'FOR EVERY INPUT', by the rows' own cells (each row's printed sentence says how): XmlBalanced: laid · XmlEmpty: laid · XmlCuts: laid · XmlLimits: laid · XmlBroken: laid · XmlBarred: laid · XmlDeep: laid · XmlNone: laid.
  DERIVED. THE GIVEN ROWS OF THIS SEAT. 8 by the template 'for every input the law returns true; each argument reads behind the call as it read before'; 0 by the template 'total and deterministic' (their statements: YtppgjkjdddanbaaDoorTotals.lean).
  GIVEN WITH THE SEED: the statements are not yours to turn. If you find one false, say at which input.
  Laid BY PROGRAM, IN A SANDBOX (cutbox-rows.mjs): the forced cells as the released guide's own fill.sh prints them over the translation e30c43f55f99d8a4… (all of the seat's roots in one cut). By AI agents, Wed Nov 11 2026. No macro, syntax, notation, axiom, sorry.
-/
import Derived.Test.YtppgjkjdddanbaaDoorChecked
import GoSem.PinnedTables
import GoSem.Claim
import GoSem.ClaimJoined
import GoSem.ClaimMapViews
import Derived.JoinedTies
import Derived.KernelRfl
namespace Go.Proofs.YtppgjkjdddanbaaDoor
/- THE CELL 'sum', in the pinned program and in every row, IS THE sha256 OF THE DUMP (.gsa) THAT YtppgjkjdddanbaaDoorProg.lean LOADS. Nothing in Lean hashes anything: it is a label: what it is worth is what the hold of that sum in a sandbox is worth. -/
noncomputable def Tryd.pinned : Pinned := { name := "ytppgjkjdddanbaadoor", sum := "e30c43f55f99d8a46768beed73715d54080e9dfc56b42ad43212eef949be5ca0", checked := Tryd.checked }
namespace Rows
def none {H : Type} : Left H := { results := [], args := [] }

/- WHAT THE LISTED PACKAGE-LEVEL VARIABLES READ AS WHEN THE CALL BEGINS. Each datum BY PROGRAM (the guide's laid-datum.mjs) off the statement by which the dump's own 'gosem.cut.vars' lays the variable. In a bare row this is a premise. The card (YtppgjkjdddanbaaDoorCards.lean) ties it to the program's text. -/
def laid_unicode_utf8_acceptRanges {H : Type} : DataW H := .agg [.agg [.lit (.int .u8 128), .lit (.int .u8 191)], .agg [.lit (.int .u8 160), .lit (.int .u8 191)], .agg [.lit (.int .u8 128), .lit (.int .u8 159)], .agg [.lit (.int .u8 144), .lit (.int .u8 191)], .agg [.lit (.int .u8 128), .lit (.int .u8 143)], .agg [.lit (.int .u8 0), .lit (.int .u8 0)], .agg [.lit (.int .u8 0), .lit (.int .u8 0)], .agg [.lit (.int .u8 0), .lit (.int .u8 0)], .agg [.lit (.int .u8 0), .lit (.int .u8 0)], .agg [.lit (.int .u8 0), .lit (.int .u8 0)], .agg [.lit (.int .u8 0), .lit (.int .u8 0)], .agg [.lit (.int .u8 0), .lit (.int .u8 0)], .agg [.lit (.int .u8 0), .lit (.int .u8 0)], .agg [.lit (.int .u8 0), .lit (.int .u8 0)], .agg [.lit (.int .u8 0), .lit (.int .u8 0)], .agg [.lit (.int .u8 0), .lit (.int .u8 0)]]
/-- One of Go's own tables, pinned by name: the form's constant. -/
def laid_unicode_utf8_first : DataW Unit := Go.Pinned.utf8First

/-- 'heliographlaw03.XmlBalanced': WHATEVER THE INPUT: true; the input reads as it did. -/
def xmlBalancedSpec : ChangeSpec := { name := "xmlBalanced", fn := fun _ => fun
  | [d] => { results := [.lit (.bool true)], args := [d] }
  | _ => none }
def xmlBalancedRow : OpenClaim := { program := "ytppgjkjdddanbaadoor", sum := "e30c43f55f99d8a46768beed73715d54080e9dfc56b42ad43212eef949be5ca0", func := "heliograph/heliographlaw03.XmlBalanced", spec := "xmlBalanced", inPlace := ["internal/bytealg.IndexByteString", "internal/bytealg.IndexString", "internal/abi.NoEscape"], unfollowed := true, recurses := true, named := ["internal/bytealg.MaxLen", "unicode/utf8.first", "unicode/utf8.acceptRanges"], apart := false, laid := [("unicode/utf8.acceptRanges", laid_unicode_utf8_acceptRanges), ("unicode/utf8.first", laid_unicode_utf8_first)] }
def XmlBalancedSaid : Prop := xmlBalancedRow.holds Tryd.pinned (OpenSpec.ofChange xmlBalancedSpec)

/-- ITS FALSE NEIGHBOUR: 'it returns false'. Refute it at one input. -/
def xmlBalancedWrong : ChangeSpec := { name := "xmlBalanced", fn := fun _ => fun
  | [d] => { results := [.lit (.bool false)], args := [d] }
  | _ => none }
def XmlBalancedWrongFalsely : Prop := xmlBalancedRow.holds Tryd.pinned (OpenSpec.ofChange xmlBalancedWrong)

/-- 'heliographlaw03.XmlEmpty': WHATEVER THE INPUT: true; the input reads as it did. -/
def xmlEmptySpec : ChangeSpec := { name := "xmlEmpty", fn := fun _ => fun
  | [d1, d2] => { results := [.lit (.bool true)], args := [d1, d2] }
  | _ => none }
def xmlEmptyRow : OpenClaim := { program := "ytppgjkjdddanbaadoor", sum := "e30c43f55f99d8a46768beed73715d54080e9dfc56b42ad43212eef949be5ca0", func := "heliograph/heliographlaw03.XmlEmpty", spec := "xmlEmpty", inPlace := ["internal/bytealg.IndexByteString", "internal/bytealg.IndexString", "internal/abi.NoEscape"], unfollowed := true, recurses := true, named := ["internal/bytealg.MaxLen", "unicode/utf8.first", "unicode/utf8.acceptRanges"], apart := false, laid := [("unicode/utf8.acceptRanges", laid_unicode_utf8_acceptRanges), ("unicode/utf8.first", laid_unicode_utf8_first)] }
def XmlEmptySaid : Prop := xmlEmptyRow.holds Tryd.pinned (OpenSpec.ofChange xmlEmptySpec)

/-- ITS FALSE NEIGHBOUR: 'it returns false'. Refute it at one input. -/
def xmlEmptyWrong : ChangeSpec := { name := "xmlEmpty", fn := fun _ => fun
  | [d1, d2] => { results := [.lit (.bool false)], args := [d1, d2] }
  | _ => none }
def XmlEmptyWrongFalsely : Prop := xmlEmptyRow.holds Tryd.pinned (OpenSpec.ofChange xmlEmptyWrong)

/-- 'heliographlaw03.XmlCuts': WHATEVER THE INPUT: true; the input reads as it did. -/
def xmlCutsSpec : ChangeSpec := { name := "xmlCuts", fn := fun _ => fun
  | [d1, d2] => { results := [.lit (.bool true)], args := [d1, d2] }
  | _ => none }
def xmlCutsRow : OpenClaim := { program := "ytppgjkjdddanbaadoor", sum := "e30c43f55f99d8a46768beed73715d54080e9dfc56b42ad43212eef949be5ca0", func := "heliograph/heliographlaw03.XmlCuts", spec := "xmlCuts", inPlace := ["internal/bytealg.IndexByteString", "internal/bytealg.IndexString", "internal/abi.NoEscape"], unfollowed := true, recurses := true, named := ["internal/bytealg.MaxLen", "unicode/utf8.first", "unicode/utf8.acceptRanges"], apart := false, laid := [("unicode/utf8.acceptRanges", laid_unicode_utf8_acceptRanges), ("unicode/utf8.first", laid_unicode_utf8_first)] }
def XmlCutsSaid : Prop := xmlCutsRow.holds Tryd.pinned (OpenSpec.ofChange xmlCutsSpec)

/-- ITS FALSE NEIGHBOUR: 'it returns false'. Refute it at one input. -/
def xmlCutsWrong : ChangeSpec := { name := "xmlCuts", fn := fun _ => fun
  | [d1, d2] => { results := [.lit (.bool false)], args := [d1, d2] }
  | _ => none }
def XmlCutsWrongFalsely : Prop := xmlCutsRow.holds Tryd.pinned (OpenSpec.ofChange xmlCutsWrong)

/-- 'heliographlaw03.XmlLimits': WHATEVER THE INPUT: true; the input reads as it did. -/
def xmlLimitsSpec : ChangeSpec := { name := "xmlLimits", fn := fun _ => fun
  | [d] => { results := [.lit (.bool true)], args := [d] }
  | _ => none }
def xmlLimitsRow : OpenClaim := { program := "ytppgjkjdddanbaadoor", sum := "e30c43f55f99d8a46768beed73715d54080e9dfc56b42ad43212eef949be5ca0", func := "heliograph/heliographlaw03.XmlLimits", spec := "xmlLimits", inPlace := ["internal/bytealg.IndexByteString", "internal/bytealg.IndexString", "internal/abi.NoEscape"], unfollowed := true, recurses := true, named := ["internal/bytealg.MaxLen", "unicode/utf8.first", "unicode/utf8.acceptRanges"], apart := false, laid := [("unicode/utf8.acceptRanges", laid_unicode_utf8_acceptRanges), ("unicode/utf8.first", laid_unicode_utf8_first)] }
def XmlLimitsSaid : Prop := xmlLimitsRow.holds Tryd.pinned (OpenSpec.ofChange xmlLimitsSpec)

/-- ITS FALSE NEIGHBOUR: 'it returns false'. Refute it at one input. -/
def xmlLimitsWrong : ChangeSpec := { name := "xmlLimits", fn := fun _ => fun
  | [d] => { results := [.lit (.bool false)], args := [d] }
  | _ => none }
def XmlLimitsWrongFalsely : Prop := xmlLimitsRow.holds Tryd.pinned (OpenSpec.ofChange xmlLimitsWrong)

/-- 'heliographlaw03.XmlBroken': WHATEVER THE INPUT: true; the input reads as it did. -/
def xmlBrokenSpec : ChangeSpec := { name := "xmlBroken", fn := fun _ => fun
  | [d1, d2] => { results := [.lit (.bool true)], args := [d1, d2] }
  | _ => none }
def xmlBrokenRow : OpenClaim := { program := "ytppgjkjdddanbaadoor", sum := "e30c43f55f99d8a46768beed73715d54080e9dfc56b42ad43212eef949be5ca0", func := "heliograph/heliographlaw03.XmlBroken", spec := "xmlBroken", inPlace := ["internal/bytealg.IndexByteString", "internal/bytealg.IndexString", "internal/abi.NoEscape"], unfollowed := true, recurses := true, named := ["internal/bytealg.MaxLen", "unicode/utf8.first", "unicode/utf8.acceptRanges"], apart := false, laid := [("unicode/utf8.acceptRanges", laid_unicode_utf8_acceptRanges), ("unicode/utf8.first", laid_unicode_utf8_first)] }
def XmlBrokenSaid : Prop := xmlBrokenRow.holds Tryd.pinned (OpenSpec.ofChange xmlBrokenSpec)

/-- ITS FALSE NEIGHBOUR: 'it returns false'. Refute it at one input. -/
def xmlBrokenWrong : ChangeSpec := { name := "xmlBroken", fn := fun _ => fun
  | [d1, d2] => { results := [.lit (.bool false)], args := [d1, d2] }
  | _ => none }
def XmlBrokenWrongFalsely : Prop := xmlBrokenRow.holds Tryd.pinned (OpenSpec.ofChange xmlBrokenWrong)

/-- 'heliographlaw03.XmlBarred': WHATEVER THE INPUT: true; the input reads as it did. -/
def xmlBarredSpec : ChangeSpec := { name := "xmlBarred", fn := fun _ => fun
  | [d1, d2] => { results := [.lit (.bool true)], args := [d1, d2] }
  | _ => none }
def xmlBarredRow : OpenClaim := { program := "ytppgjkjdddanbaadoor", sum := "e30c43f55f99d8a46768beed73715d54080e9dfc56b42ad43212eef949be5ca0", func := "heliograph/heliographlaw03.XmlBarred", spec := "xmlBarred", inPlace := ["internal/bytealg.IndexByteString", "internal/bytealg.IndexString", "internal/abi.NoEscape"], unfollowed := true, recurses := true, named := ["internal/bytealg.MaxLen", "unicode/utf8.first", "unicode/utf8.acceptRanges"], apart := false, laid := [("unicode/utf8.acceptRanges", laid_unicode_utf8_acceptRanges), ("unicode/utf8.first", laid_unicode_utf8_first)] }
def XmlBarredSaid : Prop := xmlBarredRow.holds Tryd.pinned (OpenSpec.ofChange xmlBarredSpec)

/-- ITS FALSE NEIGHBOUR: 'it returns false'. Refute it at one input. -/
def xmlBarredWrong : ChangeSpec := { name := "xmlBarred", fn := fun _ => fun
  | [d1, d2] => { results := [.lit (.bool false)], args := [d1, d2] }
  | _ => none }
def XmlBarredWrongFalsely : Prop := xmlBarredRow.holds Tryd.pinned (OpenSpec.ofChange xmlBarredWrong)

/-- 'heliographlaw03.XmlDeep': WHATEVER THE INPUT: true; the input reads as it did. -/
def xmlDeepSpec : ChangeSpec := { name := "xmlDeep", fn := fun _ => fun
  | [d] => { results := [.lit (.bool true)], args := [d] }
  | _ => none }
def xmlDeepRow : OpenClaim := { program := "ytppgjkjdddanbaadoor", sum := "e30c43f55f99d8a46768beed73715d54080e9dfc56b42ad43212eef949be5ca0", func := "heliograph/heliographlaw03.XmlDeep", spec := "xmlDeep", inPlace := ["internal/bytealg.IndexByteString", "internal/bytealg.IndexString", "internal/abi.NoEscape"], unfollowed := true, recurses := true, named := ["internal/bytealg.MaxLen", "unicode/utf8.first", "unicode/utf8.acceptRanges"], apart := false, laid := [("unicode/utf8.acceptRanges", laid_unicode_utf8_acceptRanges), ("unicode/utf8.first", laid_unicode_utf8_first)] }
def XmlDeepSaid : Prop := xmlDeepRow.holds Tryd.pinned (OpenSpec.ofChange xmlDeepSpec)

/-- ITS FALSE NEIGHBOUR: 'it returns false'. Refute it at one input. -/
def xmlDeepWrong : ChangeSpec := { name := "xmlDeep", fn := fun _ => fun
  | [d] => { results := [.lit (.bool false)], args := [d] }
  | _ => none }
def XmlDeepWrongFalsely : Prop := xmlDeepRow.holds Tryd.pinned (OpenSpec.ofChange xmlDeepWrong)

/-- 'heliographlaw03.XmlNone': WHATEVER THE INPUT: true; the input reads as it did. -/
def xmlNoneSpec : ChangeSpec := { name := "xmlNone", fn := fun _ => fun
  | [d] => { results := [.lit (.bool true)], args := [d] }
  | _ => none }
def xmlNoneRow : OpenClaim := { program := "ytppgjkjdddanbaadoor", sum := "e30c43f55f99d8a46768beed73715d54080e9dfc56b42ad43212eef949be5ca0", func := "heliograph/heliographlaw03.XmlNone", spec := "xmlNone", inPlace := ["internal/bytealg.IndexByteString", "internal/bytealg.IndexString", "internal/abi.NoEscape"], unfollowed := true, recurses := true, named := ["internal/bytealg.MaxLen", "unicode/utf8.first", "unicode/utf8.acceptRanges"], apart := false, laid := [("unicode/utf8.acceptRanges", laid_unicode_utf8_acceptRanges), ("unicode/utf8.first", laid_unicode_utf8_first)] }
def XmlNoneSaid : Prop := xmlNoneRow.holds Tryd.pinned (OpenSpec.ofChange xmlNoneSpec)

/-- ITS FALSE NEIGHBOUR: 'it returns false'. Refute it at one input. -/
def xmlNoneWrong : ChangeSpec := { name := "xmlNone", fn := fun _ => fun
  | [d] => { results := [.lit (.bool false)], args := [d] }
  | _ => none }
def XmlNoneWrongFalsely : Prop := xmlNoneRow.holds Tryd.pinned (OpenSpec.ofChange xmlNoneWrong)

/- THE SECOND FORM. 'bulk': how many values and letters a reading holds, each counted each time it is reached (what is shared counts as often as it is met; a slice's spare places count too). A statement '..UptoSaid' is the law's where the arguments, and the package variables that the reading takes, are together of bulk at most 1048576: NARROWER than '..Said'. Prove '..Said' where nothing that the law and all that it calls make is longer than what came in: it says more and counts as full. Else prove '..UptoSaid'. A law counts once. -/
mutual
def uptoBulk {H : Type} : DataW H → Nat
  | .lit (.string bytes) => bytes.length + 1
  | .lit _ => 1
  | .nil => 1
  | .ptr d => uptoBulk d + 1
  | .slice elems spare => uptoBulkAll elems + uptoBulkAll spare + 1
  | .agg parts => uptoBulkAll parts + 1
  | .iface _ d => uptoBulk d + 1
  | .map entries => uptoBulkEntries entries + 1
  | .held _ => 1
def uptoBulkAll {H : Type} : List (DataW H) → Nat
  | [] => 0
  | d :: r => uptoBulk d + uptoBulkAll r
def uptoBulkEntries {H : Type} : List (Lit × DataW H) → Nat
  | [] => 0
  | x :: r => uptoBulkEntry x + uptoBulkEntries r
def uptoBulkEntry {H : Type} : Lit × DataW H → Nat
  | (.string bytes, d) => bytes.length + uptoBulk d + 1
  | (_, d) => uptoBulk d + 1
 end
def uptoSmall : (H : Type) → List (DataW H) → Bool := fun _ ds => decide (uptoBulkAll ds ≤ 1048576)
def OpenSpec.upto (s : _root_.Go.ChangeSpec) : _root_.Go.OpenSpec := { _root_.Go.OpenSpec.ofChange s with cond := some uptoSmall }

/-- 'heliographlaw03.XmlBalanced', WHERE WHAT IT READS IS OF BULK AT MOST 1048576: true; the input reads as it did. -/
def xmlBalancedUptoRow : OpenClaim := { program := "ytppgjkjdddanbaadoor", sum := "e30c43f55f99d8a46768beed73715d54080e9dfc56b42ad43212eef949be5ca0", func := "heliograph/heliographlaw03.XmlBalanced", spec := "xmlBalanced", inPlace := ["internal/bytealg.IndexByteString", "internal/bytealg.IndexString", "internal/abi.NoEscape"], unfollowed := true, recurses := true, named := ["internal/bytealg.MaxLen", "unicode/utf8.first", "unicode/utf8.acceptRanges"], apart := false, laid := [("unicode/utf8.acceptRanges", laid_unicode_utf8_acceptRanges), ("unicode/utf8.first", laid_unicode_utf8_first)], narrowed := true }
def XmlBalancedUptoSaid : Prop := xmlBalancedUptoRow.holds Tryd.pinned (OpenSpec.upto xmlBalancedSpec)

/-- 'heliographlaw03.XmlEmpty', WHERE WHAT IT READS IS OF BULK AT MOST 1048576: true; the input reads as it did. -/
def xmlEmptyUptoRow : OpenClaim := { program := "ytppgjkjdddanbaadoor", sum := "e30c43f55f99d8a46768beed73715d54080e9dfc56b42ad43212eef949be5ca0", func := "heliograph/heliographlaw03.XmlEmpty", spec := "xmlEmpty", inPlace := ["internal/bytealg.IndexByteString", "internal/bytealg.IndexString", "internal/abi.NoEscape"], unfollowed := true, recurses := true, named := ["internal/bytealg.MaxLen", "unicode/utf8.first", "unicode/utf8.acceptRanges"], apart := false, laid := [("unicode/utf8.acceptRanges", laid_unicode_utf8_acceptRanges), ("unicode/utf8.first", laid_unicode_utf8_first)], narrowed := true }
def XmlEmptyUptoSaid : Prop := xmlEmptyUptoRow.holds Tryd.pinned (OpenSpec.upto xmlEmptySpec)

/-- 'heliographlaw03.XmlCuts', WHERE WHAT IT READS IS OF BULK AT MOST 1048576: true; the input reads as it did. -/
def xmlCutsUptoRow : OpenClaim := { program := "ytppgjkjdddanbaadoor", sum := "e30c43f55f99d8a46768beed73715d54080e9dfc56b42ad43212eef949be5ca0", func := "heliograph/heliographlaw03.XmlCuts", spec := "xmlCuts", inPlace := ["internal/bytealg.IndexByteString", "internal/bytealg.IndexString", "internal/abi.NoEscape"], unfollowed := true, recurses := true, named := ["internal/bytealg.MaxLen", "unicode/utf8.first", "unicode/utf8.acceptRanges"], apart := false, laid := [("unicode/utf8.acceptRanges", laid_unicode_utf8_acceptRanges), ("unicode/utf8.first", laid_unicode_utf8_first)], narrowed := true }
def XmlCutsUptoSaid : Prop := xmlCutsUptoRow.holds Tryd.pinned (OpenSpec.upto xmlCutsSpec)

/-- 'heliographlaw03.XmlLimits', WHERE WHAT IT READS IS OF BULK AT MOST 1048576: true; the input reads as it did. -/
def xmlLimitsUptoRow : OpenClaim := { program := "ytppgjkjdddanbaadoor", sum := "e30c43f55f99d8a46768beed73715d54080e9dfc56b42ad43212eef949be5ca0", func := "heliograph/heliographlaw03.XmlLimits", spec := "xmlLimits", inPlace := ["internal/bytealg.IndexByteString", "internal/bytealg.IndexString", "internal/abi.NoEscape"], unfollowed := true, recurses := true, named := ["internal/bytealg.MaxLen", "unicode/utf8.first", "unicode/utf8.acceptRanges"], apart := false, laid := [("unicode/utf8.acceptRanges", laid_unicode_utf8_acceptRanges), ("unicode/utf8.first", laid_unicode_utf8_first)], narrowed := true }
def XmlLimitsUptoSaid : Prop := xmlLimitsUptoRow.holds Tryd.pinned (OpenSpec.upto xmlLimitsSpec)

/-- 'heliographlaw03.XmlBroken', WHERE WHAT IT READS IS OF BULK AT MOST 1048576: true; the input reads as it did. -/
def xmlBrokenUptoRow : OpenClaim := { program := "ytppgjkjdddanbaadoor", sum := "e30c43f55f99d8a46768beed73715d54080e9dfc56b42ad43212eef949be5ca0", func := "heliograph/heliographlaw03.XmlBroken", spec := "xmlBroken", inPlace := ["internal/bytealg.IndexByteString", "internal/bytealg.IndexString", "internal/abi.NoEscape"], unfollowed := true, recurses := true, named := ["internal/bytealg.MaxLen", "unicode/utf8.first", "unicode/utf8.acceptRanges"], apart := false, laid := [("unicode/utf8.acceptRanges", laid_unicode_utf8_acceptRanges), ("unicode/utf8.first", laid_unicode_utf8_first)], narrowed := true }
def XmlBrokenUptoSaid : Prop := xmlBrokenUptoRow.holds Tryd.pinned (OpenSpec.upto xmlBrokenSpec)

/-- 'heliographlaw03.XmlBarred', WHERE WHAT IT READS IS OF BULK AT MOST 1048576: true; the input reads as it did. -/
def xmlBarredUptoRow : OpenClaim := { program := "ytppgjkjdddanbaadoor", sum := "e30c43f55f99d8a46768beed73715d54080e9dfc56b42ad43212eef949be5ca0", func := "heliograph/heliographlaw03.XmlBarred", spec := "xmlBarred", inPlace := ["internal/bytealg.IndexByteString", "internal/bytealg.IndexString", "internal/abi.NoEscape"], unfollowed := true, recurses := true, named := ["internal/bytealg.MaxLen", "unicode/utf8.first", "unicode/utf8.acceptRanges"], apart := false, laid := [("unicode/utf8.acceptRanges", laid_unicode_utf8_acceptRanges), ("unicode/utf8.first", laid_unicode_utf8_first)], narrowed := true }
def XmlBarredUptoSaid : Prop := xmlBarredUptoRow.holds Tryd.pinned (OpenSpec.upto xmlBarredSpec)

/-- 'heliographlaw03.XmlDeep', WHERE WHAT IT READS IS OF BULK AT MOST 1048576: true; the input reads as it did. -/
def xmlDeepUptoRow : OpenClaim := { program := "ytppgjkjdddanbaadoor", sum := "e30c43f55f99d8a46768beed73715d54080e9dfc56b42ad43212eef949be5ca0", func := "heliograph/heliographlaw03.XmlDeep", spec := "xmlDeep", inPlace := ["internal/bytealg.IndexByteString", "internal/bytealg.IndexString", "internal/abi.NoEscape"], unfollowed := true, recurses := true, named := ["internal/bytealg.MaxLen", "unicode/utf8.first", "unicode/utf8.acceptRanges"], apart := false, laid := [("unicode/utf8.acceptRanges", laid_unicode_utf8_acceptRanges), ("unicode/utf8.first", laid_unicode_utf8_first)], narrowed := true }
def XmlDeepUptoSaid : Prop := xmlDeepUptoRow.holds Tryd.pinned (OpenSpec.upto xmlDeepSpec)

/-- 'heliographlaw03.XmlNone', WHERE WHAT IT READS IS OF BULK AT MOST 1048576: true; the input reads as it did. -/
def xmlNoneUptoRow : OpenClaim := { program := "ytppgjkjdddanbaadoor", sum := "e30c43f55f99d8a46768beed73715d54080e9dfc56b42ad43212eef949be5ca0", func := "heliograph/heliographlaw03.XmlNone", spec := "xmlNone", inPlace := ["internal/bytealg.IndexByteString", "internal/bytealg.IndexString", "internal/abi.NoEscape"], unfollowed := true, recurses := true, named := ["internal/bytealg.MaxLen", "unicode/utf8.first", "unicode/utf8.acceptRanges"], apart := false, laid := [("unicode/utf8.acceptRanges", laid_unicode_utf8_acceptRanges), ("unicode/utf8.first", laid_unicode_utf8_first)], narrowed := true }
def XmlNoneUptoSaid : Prop := xmlNoneUptoRow.holds Tryd.pinned (OpenSpec.upto xmlNoneSpec)

end Rows
end Go.Proofs.YtppgjkjdddanbaaDoor
