/-
  DERIVED. GIVEN WITH THE SEED: THE CARDS: each row of YtmfeojhphdmodaaDoorRows.lean that lists a variable, with what it lists TIED to the program's text (the seventh form; the later family's looks); each row that meets fmt, with fmt's text TOLD by the authors' own Lean function (tested against real Go, not proved from fmt's source: count such statements apart). THE CARD IS WHAT COUNTS. Prove the row's statement (the work); the ties are given (YtmfeojhphdmodaaDoorTie.lean); close each card by the builder's one call (the guide's Derived/Test/ToyasCard.lean, 'card_holds'). Laid BY PROGRAM, IN A SANDBOX (cutbox-door.mjs). By AI agents, Wed Nov 11 2026. No macro, syntax, notation, axiom, sorry.
-/
import Derived.Test.YtmfeojhphdmodaaDoorRows
import GoSem.ClaimSeven
namespace Go.Proofs.YtmfeojhphdmodaaDoor
namespace Rows

/-- THE TIED CARD OF 'heliographlaw02.TextEscapes'. -/
def textEscapesCard : Claim7 := { stood := { row := textEscapesRow, standIns := [], harness := (true, "9793b1aa51cb3df68ab323e784f7a755fafca2441fe703cc8e98e8ba93803b22"), looks := false }, kinds := [], alts := [], laidByText := true, laidKinds := [.data, .pinned], laidTests := true, laidLooks := .later }
def TextEscapesCardSaid : Prop := Claim7.holds Tryd.pinned (.plain (OpenSpec.ofChange textEscapesSpec)) textEscapesCard

/-- THE TIED CARD OF 'heliographlaw02.TextBase'. -/
def textBaseCard : Claim7 := { stood := { row := textBaseRow, standIns := [], harness := (true, "9793b1aa51cb3df68ab323e784f7a755fafca2441fe703cc8e98e8ba93803b22"), looks := false }, kinds := [], alts := [], laidByText := true, laidKinds := [.data, .pinned], laidTests := true, laidLooks := .later }
def TextBaseCardSaid : Prop := Claim7.holds Tryd.pinned (.plain (OpenSpec.ofChange textBaseSpec)) textBaseCard

/-- THE TIED CARD OF 'heliographlaw02.TextBack'. -/
def textBackCard : Claim7 := { stood := { row := textBackRow, standIns := [], harness := (true, "9793b1aa51cb3df68ab323e784f7a755fafca2441fe703cc8e98e8ba93803b22"), looks := false }, kinds := [], alts := [], laidByText := true, laidKinds := [.data, .pinned], laidTests := true, laidLooks := .later }
def TextBackCardSaid : Prop := Claim7.holds Tryd.pinned (.plain (OpenSpec.ofChange textBackSpec)) textBackCard

/-- THE TIED CARD OF 'heliographlaw02.TextOnce'. -/
def textOnceCard : Claim7 := { stood := { row := textOnceRow, standIns := [], harness := (true, "9793b1aa51cb3df68ab323e784f7a755fafca2441fe703cc8e98e8ba93803b22"), looks := false }, kinds := [], alts := [], laidByText := true, laidKinds := [.data, .pinned], laidTests := true, laidLooks := .later }
def TextOnceCardSaid : Prop := Claim7.holds Tryd.pinned (.plain (OpenSpec.ofChange textOnceSpec)) textOnceCard

/-- THE TIED CARD OF 'heliographlaw02.TextSafe'. -/
def textSafeCard : Claim7 := { stood := { row := textSafeRow, standIns := [], harness := (true, "9793b1aa51cb3df68ab323e784f7a755fafca2441fe703cc8e98e8ba93803b22"), looks := false }, kinds := [], alts := [], laidByText := true, laidKinds := [.data, .pinned], laidTests := true, laidLooks := .later }
def TextSafeCardSaid : Prop := Claim7.holds Tryd.pinned (.plain (OpenSpec.ofChange textSafeSpec)) textSafeCard

/-- THE TIED CARD OF 'heliographlaw02.TextNames'. -/
def textNamesCard : Claim7 := { stood := { row := textNamesRow, standIns := [], harness := (true, "9793b1aa51cb3df68ab323e784f7a755fafca2441fe703cc8e98e8ba93803b22"), looks := false }, kinds := [], alts := [], laidByText := true, laidKinds := [.data, .pinned], laidTests := true, laidLooks := .later }
def TextNamesCardSaid : Prop := Claim7.holds Tryd.pinned (.plain (OpenSpec.ofChange textNamesSpec)) textNamesCard

/-- THE TIED CARD OF 'heliographlaw02.TextJoins'. -/
def textJoinsCard : Claim7 := { stood := { row := textJoinsRow, standIns := [], harness := (true, "9793b1aa51cb3df68ab323e784f7a755fafca2441fe703cc8e98e8ba93803b22"), looks := false }, kinds := [], alts := [], laidByText := true, laidKinds := [.data, .pinned], laidTests := true, laidLooks := .later }
def TextJoinsCardSaid : Prop := Claim7.holds Tryd.pinned (.plain (OpenSpec.ofChange textJoinsSpec)) textJoinsCard

/-- THE TIED CARD OF 'heliographlaw02.TextChars'. -/
def textCharsCard : Claim7 := { stood := { row := textCharsRow, standIns := [], harness := (true, "9793b1aa51cb3df68ab323e784f7a755fafca2441fe703cc8e98e8ba93803b22"), looks := false }, kinds := [], alts := [], laidByText := true, laidKinds := [.data, .pinned], laidTests := true, laidLooks := .later }
def TextCharsCardSaid : Prop := Claim7.holds Tryd.pinned (.plain (OpenSpec.ofChange textCharsSpec)) textCharsCard

/-- THE SECOND FORM's CARD OF 'heliographlaw02.TextEscapes'. -/
def textEscapesUptoCard : Claim7 := { stood := { row := textEscapesUptoRow, standIns := [], harness := (true, "9793b1aa51cb3df68ab323e784f7a755fafca2441fe703cc8e98e8ba93803b22"), looks := false }, kinds := [], alts := [], laidByText := true, laidKinds := [.data, .pinned], laidTests := true, laidLooks := .later }
def TextEscapesUptoCardSaid : Prop := Claim7.holds Tryd.pinned (.plain (OpenSpec.upto textEscapesSpec)) textEscapesUptoCard

/-- THE SECOND FORM's CARD OF 'heliographlaw02.TextBase'. -/
def textBaseUptoCard : Claim7 := { stood := { row := textBaseUptoRow, standIns := [], harness := (true, "9793b1aa51cb3df68ab323e784f7a755fafca2441fe703cc8e98e8ba93803b22"), looks := false }, kinds := [], alts := [], laidByText := true, laidKinds := [.data, .pinned], laidTests := true, laidLooks := .later }
def TextBaseUptoCardSaid : Prop := Claim7.holds Tryd.pinned (.plain (OpenSpec.upto textBaseSpec)) textBaseUptoCard

/-- THE SECOND FORM's CARD OF 'heliographlaw02.TextBack'. -/
def textBackUptoCard : Claim7 := { stood := { row := textBackUptoRow, standIns := [], harness := (true, "9793b1aa51cb3df68ab323e784f7a755fafca2441fe703cc8e98e8ba93803b22"), looks := false }, kinds := [], alts := [], laidByText := true, laidKinds := [.data, .pinned], laidTests := true, laidLooks := .later }
def TextBackUptoCardSaid : Prop := Claim7.holds Tryd.pinned (.plain (OpenSpec.upto textBackSpec)) textBackUptoCard

/-- THE SECOND FORM's CARD OF 'heliographlaw02.TextOnce'. -/
def textOnceUptoCard : Claim7 := { stood := { row := textOnceUptoRow, standIns := [], harness := (true, "9793b1aa51cb3df68ab323e784f7a755fafca2441fe703cc8e98e8ba93803b22"), looks := false }, kinds := [], alts := [], laidByText := true, laidKinds := [.data, .pinned], laidTests := true, laidLooks := .later }
def TextOnceUptoCardSaid : Prop := Claim7.holds Tryd.pinned (.plain (OpenSpec.upto textOnceSpec)) textOnceUptoCard

/-- THE SECOND FORM's CARD OF 'heliographlaw02.TextSafe'. -/
def textSafeUptoCard : Claim7 := { stood := { row := textSafeUptoRow, standIns := [], harness := (true, "9793b1aa51cb3df68ab323e784f7a755fafca2441fe703cc8e98e8ba93803b22"), looks := false }, kinds := [], alts := [], laidByText := true, laidKinds := [.data, .pinned], laidTests := true, laidLooks := .later }
def TextSafeUptoCardSaid : Prop := Claim7.holds Tryd.pinned (.plain (OpenSpec.upto textSafeSpec)) textSafeUptoCard

/-- THE SECOND FORM's CARD OF 'heliographlaw02.TextNames'. -/
def textNamesUptoCard : Claim7 := { stood := { row := textNamesUptoRow, standIns := [], harness := (true, "9793b1aa51cb3df68ab323e784f7a755fafca2441fe703cc8e98e8ba93803b22"), looks := false }, kinds := [], alts := [], laidByText := true, laidKinds := [.data, .pinned], laidTests := true, laidLooks := .later }
def TextNamesUptoCardSaid : Prop := Claim7.holds Tryd.pinned (.plain (OpenSpec.upto textNamesSpec)) textNamesUptoCard

/-- THE SECOND FORM's CARD OF 'heliographlaw02.TextJoins'. -/
def textJoinsUptoCard : Claim7 := { stood := { row := textJoinsUptoRow, standIns := [], harness := (true, "9793b1aa51cb3df68ab323e784f7a755fafca2441fe703cc8e98e8ba93803b22"), looks := false }, kinds := [], alts := [], laidByText := true, laidKinds := [.data, .pinned], laidTests := true, laidLooks := .later }
def TextJoinsUptoCardSaid : Prop := Claim7.holds Tryd.pinned (.plain (OpenSpec.upto textJoinsSpec)) textJoinsUptoCard

/-- THE SECOND FORM's CARD OF 'heliographlaw02.TextChars'. -/
def textCharsUptoCard : Claim7 := { stood := { row := textCharsUptoRow, standIns := [], harness := (true, "9793b1aa51cb3df68ab323e784f7a755fafca2441fe703cc8e98e8ba93803b22"), looks := false }, kinds := [], alts := [], laidByText := true, laidKinds := [.data, .pinned], laidTests := true, laidLooks := .later }
def TextCharsUptoCardSaid : Prop := Claim7.holds Tryd.pinned (.plain (OpenSpec.upto textCharsSpec)) textCharsUptoCard
end Rows
end Go.Proofs.YtmfeojhphdmodaaDoor
