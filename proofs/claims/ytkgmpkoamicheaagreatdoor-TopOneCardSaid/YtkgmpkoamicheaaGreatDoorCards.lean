/-
  DERIVED. GIVEN WITH THE SEED: THE CARDS: each row of YtkgmpkoamicheaaGreatDoorRows.lean that lists a variable, with what it lists TIED to the program's text (the seventh form; the later family's looks); each row that meets fmt, with fmt's text TOLD by the authors' own Lean function (tested against real Go, not proved from fmt's source: count such statements apart). THE CARD IS WHAT COUNTS. Prove the row's statement (the work); the ties are given (YtkgmpkoamicheaaGreatDoorTie.lean); close each card by the builder's one call (the guide's Derived/Test/ToyasCard.lean, 'card_holds'). Laid BY PROGRAM, IN A SANDBOX (cutbox-door.mjs). By AI agents, Wed Nov 11 2026. No macro, syntax, notation, axiom, sorry.
-/
import Derived.Test.YtkgmpkoamicheaaGreatDoorRows
import GoSem.ClaimSeven
namespace Go.Proofs.YtkgmpkoamicheaaGreatDoor
namespace Rows

/-- THE TIED CARD OF 'heliographtop.TopOne'. -/
def topOneCard : Claim7 := { stood := { row := topOneRow, standIns := [], harness := (true, "fda613924577baebd6caa2080fb3cd9347689501eb8722a774b2dd67b6d05ed7"), looks := true }, kinds := [], alts := [], laidByText := true, laidKinds := [.data, .data, .data, .data, .sentinel, .sentinel, .pinned], laidTests := true, laidLooks := .later }
def TopOneCardSaid : Prop := Claim7.holds Tryz.pinned (.plain (OpenSpec.ofChange topOneSpec)) topOneCard

/-- THE TIED CARD OF 'heliographtop.TopShut'. -/
def topShutCard : Claim7 := { stood := { row := topShutRow, standIns := [], harness := (true, "fda613924577baebd6caa2080fb3cd9347689501eb8722a774b2dd67b6d05ed7"), looks := true }, kinds := [], alts := [], laidByText := true, laidKinds := [.data, .data, .data, .data, .sentinel, .sentinel, .pinned], laidTests := true, laidLooks := .later }
def TopShutCardSaid : Prop := Claim7.holds Tryz.pinned (.plain (OpenSpec.ofChange topShutSpec)) topShutCard

/-- THE TIED CARD OF 'heliographtop.TopStored'. -/
def topStoredCard : Claim7 := { stood := { row := topStoredRow, standIns := [], harness := (true, "fda613924577baebd6caa2080fb3cd9347689501eb8722a774b2dd67b6d05ed7"), looks := true }, kinds := [], alts := [], laidByText := true, laidKinds := [.data, .data, .data, .data, .sentinel, .sentinel, .pinned], laidTests := true, laidLooks := .later }
def TopStoredCardSaid : Prop := Claim7.holds Tryz.pinned (.plain (OpenSpec.ofChange topStoredSpec)) topStoredCard

/-- THE TIED CARD OF 'heliographlaw15.GatewayNone'. -/
def gatewayNoneCard : Claim7 := { stood := { row := gatewayNoneRow, standIns := [], harness := (true, "fda613924577baebd6caa2080fb3cd9347689501eb8722a774b2dd67b6d05ed7"), looks := true }, kinds := [], alts := [], laidByText := true, laidKinds := [.data, .data, .data, .data, .sentinel, .sentinel, .pinned], laidTests := true, laidLooks := .later }
def GatewayNoneCardSaid : Prop := Claim7.holds Tryz.pinned (.plain (OpenSpec.ofChange gatewayNoneSpec)) gatewayNoneCard

/-- THE TIED CARD OF 'heliographlaw16.ScriptSplits'. -/
def scriptSplitsCard : Claim7 := { stood := { row := scriptSplitsRow, standIns := [], harness := (true, "fda613924577baebd6caa2080fb3cd9347689501eb8722a774b2dd67b6d05ed7"), looks := true }, kinds := [], alts := [], laidByText := true, laidKinds := [.data, .data, .data, .data, .sentinel, .sentinel, .pinned], laidTests := true, laidLooks := .later }
def ScriptSplitsCardSaid : Prop := Claim7.holds Tryz.pinned (.plain (OpenSpec.ofChange scriptSplitsSpec)) scriptSplitsCard

/-- THE TIED CARD OF 'heliographlaw16.ScriptLong'. -/
def scriptLongCard : Claim7 := { stood := { row := scriptLongRow, standIns := [], harness := (true, "fda613924577baebd6caa2080fb3cd9347689501eb8722a774b2dd67b6d05ed7"), looks := true }, kinds := [], alts := [], laidByText := true, laidKinds := [.data, .data, .data, .data, .sentinel, .sentinel, .pinned], laidTests := true, laidLooks := .later }
def ScriptLongCardSaid : Prop := Claim7.holds Tryz.pinned (.plain (OpenSpec.ofChange scriptLongSpec)) scriptLongCard

/-- THE TIED CARD OF 'heliographtop.TopManaged'. -/
def topManagedCard : Claim7 := { stood := { row := topManagedRow, standIns := [], harness := (true, "fda613924577baebd6caa2080fb3cd9347689501eb8722a774b2dd67b6d05ed7"), looks := true }, kinds := [], alts := [], laidByText := true, laidKinds := [.data, .data, .data, .data, .sentinel, .sentinel, .pinned], laidTests := true, laidLooks := .later }
def TopManagedCardSaid : Prop := Claim7.holds Tryz.pinned (.plain (OpenSpec.ofChange topManagedSpec)) topManagedCard

/-- THE TIED CARD OF 'heliographtop.TopTokens'. -/
def topTokensCard : Claim7 := { stood := { row := topTokensRow, standIns := [], harness := (true, "fda613924577baebd6caa2080fb3cd9347689501eb8722a774b2dd67b6d05ed7"), looks := true }, kinds := [], alts := [], laidByText := true, laidKinds := [.data, .data, .data, .data, .sentinel, .sentinel, .pinned], laidTests := true, laidLooks := .later }
def TopTokensCardSaid : Prop := Claim7.holds Tryz.pinned (.plain (OpenSpec.ofChange topTokensSpec)) topTokensCard

/-- THE TIED CARD OF 'heliographtop.TopScript'. -/
def topScriptCard : Claim7 := { stood := { row := topScriptRow, standIns := [], harness := (true, "fda613924577baebd6caa2080fb3cd9347689501eb8722a774b2dd67b6d05ed7"), looks := true }, kinds := [], alts := [], laidByText := true, laidKinds := [.data, .data, .data, .data, .sentinel, .sentinel, .pinned], laidTests := true, laidLooks := .later }
def TopScriptCardSaid : Prop := Claim7.holds Tryz.pinned (.plain (OpenSpec.ofChange topScriptSpec)) topScriptCard

/-- THE SECOND FORM's CARD OF 'heliographtop.TopOne'. -/
def topOneUptoCard : Claim7 := { stood := { row := topOneUptoRow, standIns := [], harness := (true, "fda613924577baebd6caa2080fb3cd9347689501eb8722a774b2dd67b6d05ed7"), looks := true }, kinds := [], alts := [], laidByText := true, laidKinds := [.data, .data, .data, .data, .sentinel, .sentinel, .pinned], laidTests := true, laidLooks := .later }
def TopOneUptoCardSaid : Prop := Claim7.holds Tryz.pinned (.plain (OpenSpec.upto topOneSpec)) topOneUptoCard

/-- THE SECOND FORM's CARD OF 'heliographtop.TopShut'. -/
def topShutUptoCard : Claim7 := { stood := { row := topShutUptoRow, standIns := [], harness := (true, "fda613924577baebd6caa2080fb3cd9347689501eb8722a774b2dd67b6d05ed7"), looks := true }, kinds := [], alts := [], laidByText := true, laidKinds := [.data, .data, .data, .data, .sentinel, .sentinel, .pinned], laidTests := true, laidLooks := .later }
def TopShutUptoCardSaid : Prop := Claim7.holds Tryz.pinned (.plain (OpenSpec.upto topShutSpec)) topShutUptoCard

/-- THE SECOND FORM's CARD OF 'heliographtop.TopStored'. -/
def topStoredUptoCard : Claim7 := { stood := { row := topStoredUptoRow, standIns := [], harness := (true, "fda613924577baebd6caa2080fb3cd9347689501eb8722a774b2dd67b6d05ed7"), looks := true }, kinds := [], alts := [], laidByText := true, laidKinds := [.data, .data, .data, .data, .sentinel, .sentinel, .pinned], laidTests := true, laidLooks := .later }
def TopStoredUptoCardSaid : Prop := Claim7.holds Tryz.pinned (.plain (OpenSpec.upto topStoredSpec)) topStoredUptoCard

/-- THE SECOND FORM's CARD OF 'heliographlaw15.GatewayNone'. -/
def gatewayNoneUptoCard : Claim7 := { stood := { row := gatewayNoneUptoRow, standIns := [], harness := (true, "fda613924577baebd6caa2080fb3cd9347689501eb8722a774b2dd67b6d05ed7"), looks := true }, kinds := [], alts := [], laidByText := true, laidKinds := [.data, .data, .data, .data, .sentinel, .sentinel, .pinned], laidTests := true, laidLooks := .later }
def GatewayNoneUptoCardSaid : Prop := Claim7.holds Tryz.pinned (.plain (OpenSpec.upto gatewayNoneSpec)) gatewayNoneUptoCard

/-- THE SECOND FORM's CARD OF 'heliographlaw16.ScriptSplits'. -/
def scriptSplitsUptoCard : Claim7 := { stood := { row := scriptSplitsUptoRow, standIns := [], harness := (true, "fda613924577baebd6caa2080fb3cd9347689501eb8722a774b2dd67b6d05ed7"), looks := true }, kinds := [], alts := [], laidByText := true, laidKinds := [.data, .data, .data, .data, .sentinel, .sentinel, .pinned], laidTests := true, laidLooks := .later }
def ScriptSplitsUptoCardSaid : Prop := Claim7.holds Tryz.pinned (.plain (OpenSpec.upto scriptSplitsSpec)) scriptSplitsUptoCard

/-- THE SECOND FORM's CARD OF 'heliographlaw16.ScriptLong'. -/
def scriptLongUptoCard : Claim7 := { stood := { row := scriptLongUptoRow, standIns := [], harness := (true, "fda613924577baebd6caa2080fb3cd9347689501eb8722a774b2dd67b6d05ed7"), looks := true }, kinds := [], alts := [], laidByText := true, laidKinds := [.data, .data, .data, .data, .sentinel, .sentinel, .pinned], laidTests := true, laidLooks := .later }
def ScriptLongUptoCardSaid : Prop := Claim7.holds Tryz.pinned (.plain (OpenSpec.upto scriptLongSpec)) scriptLongUptoCard

/-- THE SECOND FORM's CARD OF 'heliographtop.TopManaged'. -/
def topManagedUptoCard : Claim7 := { stood := { row := topManagedUptoRow, standIns := [], harness := (true, "fda613924577baebd6caa2080fb3cd9347689501eb8722a774b2dd67b6d05ed7"), looks := true }, kinds := [], alts := [], laidByText := true, laidKinds := [.data, .data, .data, .data, .sentinel, .sentinel, .pinned], laidTests := true, laidLooks := .later }
def TopManagedUptoCardSaid : Prop := Claim7.holds Tryz.pinned (.plain (OpenSpec.upto topManagedSpec)) topManagedUptoCard

/-- THE SECOND FORM's CARD OF 'heliographtop.TopTokens'. -/
def topTokensUptoCard : Claim7 := { stood := { row := topTokensUptoRow, standIns := [], harness := (true, "fda613924577baebd6caa2080fb3cd9347689501eb8722a774b2dd67b6d05ed7"), looks := true }, kinds := [], alts := [], laidByText := true, laidKinds := [.data, .data, .data, .data, .sentinel, .sentinel, .pinned], laidTests := true, laidLooks := .later }
def TopTokensUptoCardSaid : Prop := Claim7.holds Tryz.pinned (.plain (OpenSpec.upto topTokensSpec)) topTokensUptoCard

/-- THE SECOND FORM's CARD OF 'heliographtop.TopScript'. -/
def topScriptUptoCard : Claim7 := { stood := { row := topScriptUptoRow, standIns := [], harness := (true, "fda613924577baebd6caa2080fb3cd9347689501eb8722a774b2dd67b6d05ed7"), looks := true }, kinds := [], alts := [], laidByText := true, laidKinds := [.data, .data, .data, .data, .sentinel, .sentinel, .pinned], laidTests := true, laidLooks := .later }
def TopScriptUptoCardSaid : Prop := Claim7.holds Tryz.pinned (.plain (OpenSpec.upto topScriptSpec)) topScriptUptoCard
end Rows
end Go.Proofs.YtkgmpkoamicheaaGreatDoor
