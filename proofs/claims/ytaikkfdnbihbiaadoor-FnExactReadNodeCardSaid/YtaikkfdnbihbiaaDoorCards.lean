/-
  DERIVED. GIVEN WITH THE SEED: THE CARDS: each row of YtaikkfdnbihbiaaDoorRows.lean that lists a variable, with what it lists TIED to the program's text (the seventh form; the later family's looks); each row that meets fmt, with fmt's text TOLD by the authors' own Lean function (tested against real Go, not proved from fmt's source: count such statements apart). THE CARD IS WHAT COUNTS. Prove the row's statement (the work); the ties are given (YtaikkfdnbihbiaaDoorTie.lean); close each card by the builder's one call (the guide's Derived/Test/ToyasCard.lean, 'card_holds'). Laid BY PROGRAM, IN A SANDBOX (cutbox-door.mjs). By AI agents, Wed Nov 11 2026. No macro, syntax, notation, axiom, sorry.
-/
import Derived.Test.YtaikkfdnbihbiaaDoorRows
import GoSem.ClaimSeven
namespace Go.Proofs.YtaikkfdnbihbiaaDoor
namespace Rows

/-- THE TIED CARD OF 'laws.FnExactShowTree'. -/
def fnExactShowTreeCard : Claim7 := { stood := { row := fnExactShowTreeRow, standIns := [], harness := (true, "8fe84e67d3e636572487e1f3f44d2f80c87665f64fb8a2ae86331532d4a0c82c"), looks := true }, kinds := [], alts := [], laidByText := true, laidKinds := [.data, .data, .data, .data, .pinned], laidTests := true, laidLooks := .later }
def FnExactShowTreeCardSaid : Prop := Claim7.holds Tryd.pinned (.plain (OpenSpec.ofChange fnExactShowTreeSpec)) fnExactShowTreeCard

/-- THE TIED CARD OF 'laws.FnExactReadNode'. -/
def fnExactReadNodeCard : Claim7 := { stood := { row := fnExactReadNodeRow, standIns := [], harness := (true, "8fe84e67d3e636572487e1f3f44d2f80c87665f64fb8a2ae86331532d4a0c82c"), looks := true }, kinds := [], alts := [], laidByText := true, laidKinds := [.data, .data, .data, .data, .sentinel, .sentinel, .pinned], laidTests := true, laidLooks := .later }
def FnExactReadNodeCardSaid : Prop := Claim7.holds Tryd.pinned (.plain (OpenSpec.ofChange fnExactReadNodeSpec)) fnExactReadNodeCard

/-- THE SECOND FORM's CARD OF 'laws.FnExactShowTree'. -/
def fnExactShowTreeUptoCard : Claim7 := { stood := { row := fnExactShowTreeUptoRow, standIns := [], harness := (true, "8fe84e67d3e636572487e1f3f44d2f80c87665f64fb8a2ae86331532d4a0c82c"), looks := true }, kinds := [], alts := [], laidByText := true, laidKinds := [.data, .data, .data, .data, .pinned], laidTests := true, laidLooks := .later }
def FnExactShowTreeUptoCardSaid : Prop := Claim7.holds Tryd.pinned (.plain (OpenSpec.upto fnExactShowTreeSpec)) fnExactShowTreeUptoCard

/-- THE SECOND FORM's CARD OF 'laws.FnExactReadNode'. -/
def fnExactReadNodeUptoCard : Claim7 := { stood := { row := fnExactReadNodeUptoRow, standIns := [], harness := (true, "8fe84e67d3e636572487e1f3f44d2f80c87665f64fb8a2ae86331532d4a0c82c"), looks := true }, kinds := [], alts := [], laidByText := true, laidKinds := [.data, .data, .data, .data, .sentinel, .sentinel, .pinned], laidTests := true, laidLooks := .later }
def FnExactReadNodeUptoCardSaid : Prop := Claim7.holds Tryd.pinned (.plain (OpenSpec.upto fnExactReadNodeSpec)) fnExactReadNodeUptoCard
end Rows
end Go.Proofs.YtaikkfdnbihbiaaDoor
