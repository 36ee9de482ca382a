/-
  DERIVED. GIVEN WITH THE SEED: THE CARDS: each row of YtjpkmcaogekkdaaDoorRows.lean that lists a variable, with what it lists TIED to the program's text (the seventh form; the later family's looks); each row that meets fmt, with fmt's text TOLD by the authors' own Lean function (tested against real Go, not proved from fmt's source: count such statements apart). THE CARD IS WHAT COUNTS. Prove the row's statement (the work); the ties are given (YtjpkmcaogekkdaaDoorTie.lean); close each card by the builder's one call (the guide's Derived/Test/ToyasCard.lean, 'card_holds'). Laid BY PROGRAM, IN A SANDBOX (cutbox-door.mjs). By AI agents, Wed Nov 11 2026. No macro, syntax, notation, axiom, sorry.
-/
import Derived.Test.YtjpkmcaogekkdaaDoorRows
import GoSem.ClaimSeven
namespace Go.Proofs.YtjpkmcaogekkdaaDoor
namespace Rows

/-- THE TIED CARD OF 'laws.FnExactTabChar'. -/
def fnExactTabCharCard : Claim7 := { stood := { row := fnExactTabCharRow, standIns := [], harness := (true, "eb28a0c63ec61c5a3eee4e6dc76701c4ccbc16de5dfb55d8c77f4887e4096aa3"), looks := false }, kinds := [], alts := [], laidByText := true, laidKinds := [.data, .pinned], laidTests := true, laidLooks := .later }
def FnExactTabCharCardSaid : Prop := Claim7.holds Tryd.pinned (.plain (OpenSpec.ofChange fnExactTabCharSpec)) fnExactTabCharCard

/-- THE TIED CARD OF 'laws.FnExactReadMin'. -/
def fnExactReadMinCard : Claim7 := { stood := { row := fnExactReadMinRow, standIns := [], harness := (true, "eb28a0c63ec61c5a3eee4e6dc76701c4ccbc16de5dfb55d8c77f4887e4096aa3"), looks := false }, kinds := [], alts := [], laidByText := true, laidKinds := [.data, .data, .data], laidTests := true, laidLooks := .later }
def FnExactReadMinCardSaid : Prop := Claim7.holds Tryd.pinned (.plain (OpenSpec.ofChange fnExactReadMinSpec)) fnExactReadMinCard

/-- THE TIED CARD OF 'laws.FnTabPort'. -/
def fnTabPortCard : Claim7 := { stood := { row := fnTabPortRow, standIns := [], harness := (true, "eb28a0c63ec61c5a3eee4e6dc76701c4ccbc16de5dfb55d8c77f4887e4096aa3"), looks := false }, kinds := [], alts := [], laidByText := true, laidKinds := [.data, .pinned], laidTests := true, laidLooks := .later }
def FnTabPortCardSaid : Prop := Claim7.holds Tryd.pinned (.plain (OpenSpec.ofChange fnTabPortSpec)) fnTabPortCard

/-- THE SECOND FORM's CARD OF 'laws.FnExactTabChar'. -/
def fnExactTabCharUptoCard : Claim7 := { stood := { row := fnExactTabCharUptoRow, standIns := [], harness := (true, "eb28a0c63ec61c5a3eee4e6dc76701c4ccbc16de5dfb55d8c77f4887e4096aa3"), looks := false }, kinds := [], alts := [], laidByText := true, laidKinds := [.data, .pinned], laidTests := true, laidLooks := .later }
def FnExactTabCharUptoCardSaid : Prop := Claim7.holds Tryd.pinned (.plain (OpenSpec.upto fnExactTabCharSpec)) fnExactTabCharUptoCard

/-- THE SECOND FORM's CARD OF 'laws.FnExactReadMin'. -/
def fnExactReadMinUptoCard : Claim7 := { stood := { row := fnExactReadMinUptoRow, standIns := [], harness := (true, "eb28a0c63ec61c5a3eee4e6dc76701c4ccbc16de5dfb55d8c77f4887e4096aa3"), looks := false }, kinds := [], alts := [], laidByText := true, laidKinds := [.data, .data, .data], laidTests := true, laidLooks := .later }
def FnExactReadMinUptoCardSaid : Prop := Claim7.holds Tryd.pinned (.plain (OpenSpec.upto fnExactReadMinSpec)) fnExactReadMinUptoCard

/-- THE SECOND FORM's CARD OF 'laws.FnTabPort'. -/
def fnTabPortUptoCard : Claim7 := { stood := { row := fnTabPortUptoRow, standIns := [], harness := (true, "eb28a0c63ec61c5a3eee4e6dc76701c4ccbc16de5dfb55d8c77f4887e4096aa3"), looks := false }, kinds := [], alts := [], laidByText := true, laidKinds := [.data, .pinned], laidTests := true, laidLooks := .later }
def FnTabPortUptoCardSaid : Prop := Claim7.holds Tryd.pinned (.plain (OpenSpec.upto fnTabPortSpec)) fnTabPortUptoCard
end Rows
end Go.Proofs.YtjpkmcaogekkdaaDoor
