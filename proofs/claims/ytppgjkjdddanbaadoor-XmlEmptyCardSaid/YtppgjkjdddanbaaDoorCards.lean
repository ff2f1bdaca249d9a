/-
  DERIVED. GIVEN WITH THE SEED: THE CARDS: each row of YtppgjkjdddanbaaDoorRows.lean that lists a variable, with what it lists TIED to the program's text (the seventh form; the later family's looks); each row that meets fmt, with fmt's text TOLD by the authors' own Lean function (tested against real Go, not proved from fmt's source: count such statements apart). THE CARD IS WHAT COUNTS. Prove the row's statement (the work); the ties are given (YtppgjkjdddanbaaDoorTie.lean); close each card by the builder's one call (the guide's Derived/Test/ToyasCard.lean, 'card_holds'). Laid BY PROGRAM, IN A SANDBOX (cutbox-door.mjs). By AI agents, Wed Nov 11 2026. No macro, syntax, notation, axiom, sorry.
-/
import Derived.Test.YtppgjkjdddanbaaDoorRows
import GoSem.ClaimSeven
namespace Go.Proofs.YtppgjkjdddanbaaDoor
namespace Rows

/-- THE TIED CARD OF 'heliographlaw03.XmlBalanced'. -/
def xmlBalancedCard : Claim7 := { stood := { row := xmlBalancedRow, standIns := [], harness := (true, "8b0f42dc68b21141869b2ab14710cf8b6c05c29ea06229be9289d28d7a82fb78"), looks := true }, kinds := [], alts := [], laidByText := true, laidKinds := [.data, .pinned], laidTests := true, laidLooks := .later }
def XmlBalancedCardSaid : Prop := Claim7.holds Tryd.pinned (.plain (OpenSpec.ofChange xmlBalancedSpec)) xmlBalancedCard

/-- THE TIED CARD OF 'heliographlaw03.XmlEmpty'. -/
def xmlEmptyCard : Claim7 := { stood := { row := xmlEmptyRow, standIns := [], harness := (true, "8b0f42dc68b21141869b2ab14710cf8b6c05c29ea06229be9289d28d7a82fb78"), looks := true }, kinds := [], alts := [], laidByText := true, laidKinds := [.data, .pinned], laidTests := true, laidLooks := .later }
def XmlEmptyCardSaid : Prop := Claim7.holds Tryd.pinned (.plain (OpenSpec.ofChange xmlEmptySpec)) xmlEmptyCard

/-- THE TIED CARD OF 'heliographlaw03.XmlCuts'. -/
def xmlCutsCard : Claim7 := { stood := { row := xmlCutsRow, standIns := [], harness := (true, "8b0f42dc68b21141869b2ab14710cf8b6c05c29ea06229be9289d28d7a82fb78"), looks := true }, kinds := [], alts := [], laidByText := true, laidKinds := [.data, .pinned], laidTests := true, laidLooks := .later }
def XmlCutsCardSaid : Prop := Claim7.holds Tryd.pinned (.plain (OpenSpec.ofChange xmlCutsSpec)) xmlCutsCard

/-- THE TIED CARD OF 'heliographlaw03.XmlLimits'. -/
def xmlLimitsCard : Claim7 := { stood := { row := xmlLimitsRow, standIns := [], harness := (true, "8b0f42dc68b21141869b2ab14710cf8b6c05c29ea06229be9289d28d7a82fb78"), looks := true }, kinds := [], alts := [], laidByText := true, laidKinds := [.data, .pinned], laidTests := true, laidLooks := .later }
def XmlLimitsCardSaid : Prop := Claim7.holds Tryd.pinned (.plain (OpenSpec.ofChange xmlLimitsSpec)) xmlLimitsCard

/-- THE TIED CARD OF 'heliographlaw03.XmlBroken'. -/
def xmlBrokenCard : Claim7 := { stood := { row := xmlBrokenRow, standIns := [], harness := (true, "8b0f42dc68b21141869b2ab14710cf8b6c05c29ea06229be9289d28d7a82fb78"), looks := true }, kinds := [], alts := [], laidByText := true, laidKinds := [.data, .pinned], laidTests := true, laidLooks := .later }
def XmlBrokenCardSaid : Prop := Claim7.holds Tryd.pinned (.plain (OpenSpec.ofChange xmlBrokenSpec)) xmlBrokenCard

/-- THE TIED CARD OF 'heliographlaw03.XmlBarred'. -/
def xmlBarredCard : Claim7 := { stood := { row := xmlBarredRow, standIns := [], harness := (true, "8b0f42dc68b21141869b2ab14710cf8b6c05c29ea06229be9289d28d7a82fb78"), looks := true }, kinds := [], alts := [], laidByText := true, laidKinds := [.data, .pinned], laidTests := true, laidLooks := .later }
def XmlBarredCardSaid : Prop := Claim7.holds Tryd.pinned (.plain (OpenSpec.ofChange xmlBarredSpec)) xmlBarredCard

/-- THE TIED CARD OF 'heliographlaw03.XmlDeep'. -/
def xmlDeepCard : Claim7 := { stood := { row := xmlDeepRow, standIns := [], harness := (true, "8b0f42dc68b21141869b2ab14710cf8b6c05c29ea06229be9289d28d7a82fb78"), looks := true }, kinds := [], alts := [], laidByText := true, laidKinds := [.data, .pinned], laidTests := true, laidLooks := .later }
def XmlDeepCardSaid : Prop := Claim7.holds Tryd.pinned (.plain (OpenSpec.ofChange xmlDeepSpec)) xmlDeepCard

/-- THE TIED CARD OF 'heliographlaw03.XmlNone'. -/
def xmlNoneCard : Claim7 := { stood := { row := xmlNoneRow, standIns := [], harness := (true, "8b0f42dc68b21141869b2ab14710cf8b6c05c29ea06229be9289d28d7a82fb78"), looks := true }, kinds := [], alts := [], laidByText := true, laidKinds := [.data, .pinned], laidTests := true, laidLooks := .later }
def XmlNoneCardSaid : Prop := Claim7.holds Tryd.pinned (.plain (OpenSpec.ofChange xmlNoneSpec)) xmlNoneCard

/-- THE SECOND FORM's CARD OF 'heliographlaw03.XmlBalanced'. -/
def xmlBalancedUptoCard : Claim7 := { stood := { row := xmlBalancedUptoRow, standIns := [], harness := (true, "8b0f42dc68b21141869b2ab14710cf8b6c05c29ea06229be9289d28d7a82fb78"), looks := true }, kinds := [], alts := [], laidByText := true, laidKinds := [.data, .pinned], laidTests := true, laidLooks := .later }
def XmlBalancedUptoCardSaid : Prop := Claim7.holds Tryd.pinned (.plain (OpenSpec.upto xmlBalancedSpec)) xmlBalancedUptoCard

/-- THE SECOND FORM's CARD OF 'heliographlaw03.XmlEmpty'. -/
def xmlEmptyUptoCard : Claim7 := { stood := { row := xmlEmptyUptoRow, standIns := [], harness := (true, "8b0f42dc68b21141869b2ab14710cf8b6c05c29ea06229be9289d28d7a82fb78"), looks := true }, kinds := [], alts := [], laidByText := true, laidKinds := [.data, .pinned], laidTests := true, laidLooks := .later }
def XmlEmptyUptoCardSaid : Prop := Claim7.holds Tryd.pinned (.plain (OpenSpec.upto xmlEmptySpec)) xmlEmptyUptoCard

/-- THE SECOND FORM's CARD OF 'heliographlaw03.XmlCuts'. -/
def xmlCutsUptoCard : Claim7 := { stood := { row := xmlCutsUptoRow, standIns := [], harness := (true, "8b0f42dc68b21141869b2ab14710cf8b6c05c29ea06229be9289d28d7a82fb78"), looks := true }, kinds := [], alts := [], laidByText := true, laidKinds := [.data, .pinned], laidTests := true, laidLooks := .later }
def XmlCutsUptoCardSaid : Prop := Claim7.holds Tryd.pinned (.plain (OpenSpec.upto xmlCutsSpec)) xmlCutsUptoCard

/-- THE SECOND FORM's CARD OF 'heliographlaw03.XmlLimits'. -/
def xmlLimitsUptoCard : Claim7 := { stood := { row := xmlLimitsUptoRow, standIns := [], harness := (true, "8b0f42dc68b21141869b2ab14710cf8b6c05c29ea06229be9289d28d7a82fb78"), looks := true }, kinds := [], alts := [], laidByText := true, laidKinds := [.data, .pinned], laidTests := true, laidLooks := .later }
def XmlLimitsUptoCardSaid : Prop := Claim7.holds Tryd.pinned (.plain (OpenSpec.upto xmlLimitsSpec)) xmlLimitsUptoCard

/-- THE SECOND FORM's CARD OF 'heliographlaw03.XmlBroken'. -/
def xmlBrokenUptoCard : Claim7 := { stood := { row := xmlBrokenUptoRow, standIns := [], harness := (true, "8b0f42dc68b21141869b2ab14710cf8b6c05c29ea06229be9289d28d7a82fb78"), looks := true }, kinds := [], alts := [], laidByText := true, laidKinds := [.data, .pinned], laidTests := true, laidLooks := .later }
def XmlBrokenUptoCardSaid : Prop := Claim7.holds Tryd.pinned (.plain (OpenSpec.upto xmlBrokenSpec)) xmlBrokenUptoCard

/-- THE SECOND FORM's CARD OF 'heliographlaw03.XmlBarred'. -/
def xmlBarredUptoCard : Claim7 := { stood := { row := xmlBarredUptoRow, standIns := [], harness := (true, "8b0f42dc68b21141869b2ab14710cf8b6c05c29ea06229be9289d28d7a82fb78"), looks := true }, kinds := [], alts := [], laidByText := true, laidKinds := [.data, .pinned], laidTests := true, laidLooks := .later }
def XmlBarredUptoCardSaid : Prop := Claim7.holds Tryd.pinned (.plain (OpenSpec.upto xmlBarredSpec)) xmlBarredUptoCard

/-- THE SECOND FORM's CARD OF 'heliographlaw03.XmlDeep'. -/
def xmlDeepUptoCard : Claim7 := { stood := { row := xmlDeepUptoRow, standIns := [], harness := (true, "8b0f42dc68b21141869b2ab14710cf8b6c05c29ea06229be9289d28d7a82fb78"), looks := true }, kinds := [], alts := [], laidByText := true, laidKinds := [.data, .pinned], laidTests := true, laidLooks := .later }
def XmlDeepUptoCardSaid : Prop := Claim7.holds Tryd.pinned (.plain (OpenSpec.upto xmlDeepSpec)) xmlDeepUptoCard

/-- THE SECOND FORM's CARD OF 'heliographlaw03.XmlNone'. -/
def xmlNoneUptoCard : Claim7 := { stood := { row := xmlNoneUptoRow, standIns := [], harness := (true, "8b0f42dc68b21141869b2ab14710cf8b6c05c29ea06229be9289d28d7a82fb78"), looks := true }, kinds := [], alts := [], laidByText := true, laidKinds := [.data, .pinned], laidTests := true, laidLooks := .later }
def XmlNoneUptoCardSaid : Prop := Claim7.holds Tryd.pinned (.plain (OpenSpec.upto xmlNoneSpec)) xmlNoneUptoCard
end Rows
end Go.Proofs.YtppgjkjdddanbaaDoor
