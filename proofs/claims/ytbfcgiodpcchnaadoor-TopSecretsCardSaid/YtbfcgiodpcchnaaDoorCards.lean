/-
  DERIVED. GIVEN WITH THE SEED: THE CARDS: each row of YtbfcgiodpcchnaaDoorRows.lean that lists a variable, with what it lists TIED to the program's text (the seventh form; the later family's looks); each row that meets fmt, with fmt's text TOLD by the authors' own Lean function (tested against real Go, not proved from fmt's source: count such statements apart). THE CARD IS WHAT COUNTS. Prove the row's statement (the work); the ties are given (YtbfcgiodpcchnaaDoorTie.lean); close each card by the builder's one call (the guide's Derived/Test/ToyasCard.lean, 'card_holds'). Laid BY PROGRAM, IN A SANDBOX (cutbox-door.mjs). By AI agents, Wed Nov 11 2026. No macro, syntax, notation, axiom, sorry.
-/
import Derived.Test.YtbfcgiodpcchnaaDoorRows
import GoSem.ClaimSeven
namespace Go.Proofs.YtbfcgiodpcchnaaDoor
namespace Rows

/-- THE TIED CARD OF 'heliographtop.TopSecrets'. -/
def topSecretsCard : Claim7 := { stood := { row := topSecretsRow, standIns := [], harness := (true, "2fe8ce168fc61fadea4ed6787caf726161c2e7ce86881f1ff36ccf23a1a55da9"), looks := false }, kinds := [], alts := [], laidByText := true, laidKinds := [.data, .pinned], laidTests := true, laidLooks := .later }
def TopSecretsCardSaid : Prop := Claim7.holds Tryd.pinned (.plain (OpenSpec.ofChange topSecretsSpec)) topSecretsCard

/-- THE SECOND FORM's CARD OF 'heliographtop.TopSecrets'. -/
def topSecretsUptoCard : Claim7 := { stood := { row := topSecretsUptoRow, standIns := [], harness := (true, "2fe8ce168fc61fadea4ed6787caf726161c2e7ce86881f1ff36ccf23a1a55da9"), looks := false }, kinds := [], alts := [], laidByText := true, laidKinds := [.data, .pinned], laidTests := true, laidLooks := .later }
def TopSecretsUptoCardSaid : Prop := Claim7.holds Tryd.pinned (.plain (OpenSpec.upto topSecretsSpec)) topSecretsUptoCard
end Rows
end Go.Proofs.YtbfcgiodpcchnaaDoor
