/-
  No cell of these rows narrows 'for every input' (looked for: loops, veiled, ifaces, maps, wideKeys, modest, calm, conditions, laid).
  DERIVED. THE GIVEN ROWS OF THIS SEAT. 9 by the template 'for every input the law returns true; each argument reads behind the call as it read before'; 0 by the template 'total and deterministic' (their statements: YtgkbkggegdmcgaaTotals.lean).
  GIVEN WITH THE SEED: the statements are not yours to turn. If you find one false, say at which input.
  Laid BY PROGRAM, IN A SANDBOX (cutbox-rows.mjs): the forced cells as the released guide's own fill.sh prints them over the translation e14087a589dc289f… (all of the seat's roots in one cut). By AI agents, Wed Nov 11 2026. No macro, syntax, notation, axiom, sorry.
-/
import Derived.Test.YtgkbkggegdmcgaaChecked
import GoSem.Claim
import GoSem.ClaimJoined
import GoSem.ClaimMapViews
import Derived.JoinedTies
import Derived.KernelRfl
namespace Go.Proofs.Ytgkbkggegdmcgaa
/- THE CELL 'sum', in the pinned program and in every row, IS THE sha256 OF THE DUMP (.gsa) THAT YtgkbkggegdmcgaaProg.lean LOADS. Nothing in Lean hashes anything: it is a label: what it is worth is what the hold of that sum in a sandbox is worth. -/
noncomputable def Try.pinned : Pinned := { name := "ytgkbkggegdmcgaa", sum := "e14087a589dc289f9ed6baf1ee7052e208fbc6f27a2516ff5772a8b720e5dcbe", checked := Try.checked }
namespace Rows
def none {H : Type} : Left H := { results := [], args := [] }

/-- 'heliographlaw10.AckOrder': WHATEVER THE INPUT: true; the input reads as it did. -/
def ackOrderSpec : ChangeSpec := { name := "ackOrder", fn := fun _ => fun
  | [d1, d2] => { results := [.lit (.bool true)], args := [d1, d2] }
  | _ => none }
def ackOrderRow : OpenClaim := { program := "ytgkbkggegdmcgaa", sum := "e14087a589dc289f9ed6baf1ee7052e208fbc6f27a2516ff5772a8b720e5dcbe", func := "heliograph/heliographlaw10.AckOrder", spec := "ackOrder", apart := false }
def AckOrderSaid : Prop := ackOrderRow.holds Try.pinned (OpenSpec.ofChange ackOrderSpec)

/-- ITS FALSE NEIGHBOUR: 'it returns false'. Refute it at one input. -/
def ackOrderWrong : ChangeSpec := { name := "ackOrder", fn := fun _ => fun
  | [d1, d2] => { results := [.lit (.bool false)], args := [d1, d2] }
  | _ => none }
def AckOrderWrongFalsely : Prop := ackOrderRow.holds Try.pinned (OpenSpec.ofChange ackOrderWrong)

/-- 'heliographlaw10.AckFew': WHATEVER THE INPUT: true; the input reads as it did. -/
def ackFewSpec : ChangeSpec := { name := "ackFew", fn := fun _ => fun
  | [d1, d2] => { results := [.lit (.bool true)], args := [d1, d2] }
  | _ => none }
def ackFewRow : OpenClaim := { program := "ytgkbkggegdmcgaa", sum := "e14087a589dc289f9ed6baf1ee7052e208fbc6f27a2516ff5772a8b720e5dcbe", func := "heliograph/heliographlaw10.AckFew", spec := "ackFew", apart := false }
def AckFewSaid : Prop := ackFewRow.holds Try.pinned (OpenSpec.ofChange ackFewSpec)

/-- ITS FALSE NEIGHBOUR: 'it returns false'. Refute it at one input. -/
def ackFewWrong : ChangeSpec := { name := "ackFew", fn := fun _ => fun
  | [d1, d2] => { results := [.lit (.bool false)], args := [d1, d2] }
  | _ => none }
def AckFewWrongFalsely : Prop := ackFewRow.holds Try.pinned (OpenSpec.ofChange ackFewWrong)

/-- 'heliographlaw10.AckTwice': WHATEVER THE INPUT: true; the input reads as it did. -/
def ackTwiceSpec : ChangeSpec := { name := "ackTwice", fn := fun _ => fun
  | [d1, d2] => { results := [.lit (.bool true)], args := [d1, d2] }
  | _ => none }
def ackTwiceRow : OpenClaim := { program := "ytgkbkggegdmcgaa", sum := "e14087a589dc289f9ed6baf1ee7052e208fbc6f27a2516ff5772a8b720e5dcbe", func := "heliograph/heliographlaw10.AckTwice", spec := "ackTwice", apart := false }
def AckTwiceSaid : Prop := ackTwiceRow.holds Try.pinned (OpenSpec.ofChange ackTwiceSpec)

/-- ITS FALSE NEIGHBOUR: 'it returns false'. Refute it at one input. -/
def ackTwiceWrong : ChangeSpec := { name := "ackTwice", fn := fun _ => fun
  | [d1, d2] => { results := [.lit (.bool false)], args := [d1, d2] }
  | _ => none }
def AckTwiceWrongFalsely : Prop := ackTwiceRow.holds Try.pinned (OpenSpec.ofChange ackTwiceWrong)

/-- 'heliographlaw10.AckRound': WHATEVER THE INPUT: true; the input reads as it did. -/
def ackRoundSpec : ChangeSpec := { name := "ackRound", fn := fun _ => fun
  | [d1, d2] => { results := [.lit (.bool true)], args := [d1, d2] }
  | _ => none }
def ackRoundRow : OpenClaim := { program := "ytgkbkggegdmcgaa", sum := "e14087a589dc289f9ed6baf1ee7052e208fbc6f27a2516ff5772a8b720e5dcbe", func := "heliograph/heliographlaw10.AckRound", spec := "ackRound", apart := false }
def AckRoundSaid : Prop := ackRoundRow.holds Try.pinned (OpenSpec.ofChange ackRoundSpec)

/-- ITS FALSE NEIGHBOUR: 'it returns false'. Refute it at one input. -/
def ackRoundWrong : ChangeSpec := { name := "ackRound", fn := fun _ => fun
  | [d1, d2] => { results := [.lit (.bool false)], args := [d1, d2] }
  | _ => none }
def AckRoundWrongFalsely : Prop := ackRoundRow.holds Try.pinned (OpenSpec.ofChange ackRoundWrong)

/-- 'heliographlaw10.AckPlays': WHATEVER THE INPUT: true; the input reads as it did. -/
def ackPlaysSpec : ChangeSpec := { name := "ackPlays", fn := fun _ => fun
  | [d] => { results := [.lit (.bool true)], args := [d] }
  | _ => none }
def ackPlaysRow : OpenClaim := { program := "ytgkbkggegdmcgaa", sum := "e14087a589dc289f9ed6baf1ee7052e208fbc6f27a2516ff5772a8b720e5dcbe", func := "heliograph/heliographlaw10.AckPlays", spec := "ackPlays", apart := false }
def AckPlaysSaid : Prop := ackPlaysRow.holds Try.pinned (OpenSpec.ofChange ackPlaysSpec)

/-- ITS FALSE NEIGHBOUR: 'it returns false'. Refute it at one input. -/
def ackPlaysWrong : ChangeSpec := { name := "ackPlays", fn := fun _ => fun
  | [d] => { results := [.lit (.bool false)], args := [d] }
  | _ => none }
def AckPlaysWrongFalsely : Prop := ackPlaysRow.holds Try.pinned (OpenSpec.ofChange ackPlaysWrong)

/-- 'heliographlaw10.AckRefuses': WHATEVER THE INPUT: true; the input reads as it did. -/
def ackRefusesSpec : ChangeSpec := { name := "ackRefuses", fn := fun _ => fun
  | [d1, d2] => { results := [.lit (.bool true)], args := [d1, d2] }
  | _ => none }
def ackRefusesRow : OpenClaim := { program := "ytgkbkggegdmcgaa", sum := "e14087a589dc289f9ed6baf1ee7052e208fbc6f27a2516ff5772a8b720e5dcbe", func := "heliograph/heliographlaw10.AckRefuses", spec := "ackRefuses", apart := false }
def AckRefusesSaid : Prop := ackRefusesRow.holds Try.pinned (OpenSpec.ofChange ackRefusesSpec)

/-- ITS FALSE NEIGHBOUR: 'it returns false'. Refute it at one input. -/
def ackRefusesWrong : ChangeSpec := { name := "ackRefuses", fn := fun _ => fun
  | [d1, d2] => { results := [.lit (.bool false)], args := [d1, d2] }
  | _ => none }
def AckRefusesWrongFalsely : Prop := ackRefusesRow.holds Try.pinned (OpenSpec.ofChange ackRefusesWrong)

/-- 'heliographlaw10.AckForks': WHATEVER THE INPUT: true; the input reads as it did. -/
def ackForksSpec : ChangeSpec := { name := "ackForks", fn := fun _ => fun
  | [d1, d2] => { results := [.lit (.bool true)], args := [d1, d2] }
  | _ => none }
def ackForksRow : OpenClaim := { program := "ytgkbkggegdmcgaa", sum := "e14087a589dc289f9ed6baf1ee7052e208fbc6f27a2516ff5772a8b720e5dcbe", func := "heliograph/heliographlaw10.AckForks", spec := "ackForks", apart := false }
def AckForksSaid : Prop := ackForksRow.holds Try.pinned (OpenSpec.ofChange ackForksSpec)

/-- ITS FALSE NEIGHBOUR: 'it returns false'. Refute it at one input. -/
def ackForksWrong : ChangeSpec := { name := "ackForks", fn := fun _ => fun
  | [d1, d2] => { results := [.lit (.bool false)], args := [d1, d2] }
  | _ => none }
def AckForksWrongFalsely : Prop := ackForksRow.holds Try.pinned (OpenSpec.ofChange ackForksWrong)

/-- 'heliographlaw10.AckNone': WHATEVER THE INPUT: true; the input reads as it did. -/
def ackNoneSpec : ChangeSpec := { name := "ackNone", fn := fun _ => fun
  | [d] => { results := [.lit (.bool true)], args := [d] }
  | _ => none }
def ackNoneRow : OpenClaim := { program := "ytgkbkggegdmcgaa", sum := "e14087a589dc289f9ed6baf1ee7052e208fbc6f27a2516ff5772a8b720e5dcbe", func := "heliograph/heliographlaw10.AckNone", spec := "ackNone", apart := false }
def AckNoneSaid : Prop := ackNoneRow.holds Try.pinned (OpenSpec.ofChange ackNoneSpec)

/-- ITS FALSE NEIGHBOUR: 'it returns false'. Refute it at one input. -/
def ackNoneWrong : ChangeSpec := { name := "ackNone", fn := fun _ => fun
  | [d] => { results := [.lit (.bool false)], args := [d] }
  | _ => none }
def AckNoneWrongFalsely : Prop := ackNoneRow.holds Try.pinned (OpenSpec.ofChange ackNoneWrong)

/-- 'heliographtop.TopHeard': WHATEVER THE INPUT: true; the input reads as it did. -/
def topHeardSpec : ChangeSpec := { name := "topHeard", fn := fun _ => fun
  | [d] => { results := [.lit (.bool true)], args := [d] }
  | _ => none }
def topHeardRow : OpenClaim := { program := "ytgkbkggegdmcgaa", sum := "e14087a589dc289f9ed6baf1ee7052e208fbc6f27a2516ff5772a8b720e5dcbe", func := "heliograph/heliographtop.TopHeard", spec := "topHeard", apart := false }
def TopHeardSaid : Prop := topHeardRow.holds Try.pinned (OpenSpec.ofChange topHeardSpec)

/-- ITS FALSE NEIGHBOUR: 'it returns false'. Refute it at one input. -/
def topHeardWrong : ChangeSpec := { name := "topHeard", fn := fun _ => fun
  | [d] => { results := [.lit (.bool false)], args := [d] }
  | _ => none }
def TopHeardWrongFalsely : Prop := topHeardRow.holds Try.pinned (OpenSpec.ofChange topHeardWrong)

/- THE SECOND FORM. 'bulk': how many values and letters a reading holds, each counted each time it is reached (what is shared counts as often as it is met; a slice's spare places count too). A statement '..UptoSaid' is the law's where the arguments, and the package variables that the reading takes, are together of bulk at most 1048576: NARROWER than '..Said'. Prove '..Said' where nothing that the law and all that it calls make is longer than what came in: it says more and counts as full. Else prove '..UptoSaid'. A law counts once. -/
mutual
def uptoBulk {H : Type} : DataW H → Nat
  | .lit (.string bytes) => bytes.length + 1
  | .lit _ => 1
  | .nil => 1
  | .ptr d => uptoBulk d + 1
  | .slice elems spare => uptoBulkAll elems + uptoBulkAll spare + 1
  | .agg parts => uptoBulkAll parts + 1
  | .iface _ d => uptoBulk d + 1
  | .map entries => uptoBulkEntries entries + 1
  | .held _ => 1
def uptoBulkAll {H : Type} : List (DataW H) → Nat
  | [] => 0
  | d :: r => uptoBulk d + uptoBulkAll r
def uptoBulkEntries {H : Type} : List (Lit × DataW H) → Nat
  | [] => 0
  | x :: r => uptoBulkEntry x + uptoBulkEntries r
def uptoBulkEntry {H : Type} : Lit × DataW H → Nat
  | (.string bytes, d) => bytes.length + uptoBulk d + 1
  | (_, d) => uptoBulk d + 1
 end
def uptoSmall : (H : Type) → List (DataW H) → Bool := fun _ ds => decide (uptoBulkAll ds ≤ 1048576)
def OpenSpec.upto (s : _root_.Go.ChangeSpec) : _root_.Go.OpenSpec := { _root_.Go.OpenSpec.ofChange s with cond := some uptoSmall }

/-- 'heliographlaw10.AckOrder', WHERE WHAT IT READS IS OF BULK AT MOST 1048576: true; the input reads as it did. -/
def ackOrderUptoRow : OpenClaim := { program := "ytgkbkggegdmcgaa", sum := "e14087a589dc289f9ed6baf1ee7052e208fbc6f27a2516ff5772a8b720e5dcbe", func := "heliograph/heliographlaw10.AckOrder", spec := "ackOrder", apart := false, narrowed := true }
def AckOrderUptoSaid : Prop := ackOrderUptoRow.holds Try.pinned (OpenSpec.upto ackOrderSpec)

/-- 'heliographlaw10.AckFew', WHERE WHAT IT READS IS OF BULK AT MOST 1048576: true; the input reads as it did. -/
def ackFewUptoRow : OpenClaim := { program := "ytgkbkggegdmcgaa", sum := "e14087a589dc289f9ed6baf1ee7052e208fbc6f27a2516ff5772a8b720e5dcbe", func := "heliograph/heliographlaw10.AckFew", spec := "ackFew", apart := false, narrowed := true }
def AckFewUptoSaid : Prop := ackFewUptoRow.holds Try.pinned (OpenSpec.upto ackFewSpec)

/-- 'heliographlaw10.AckTwice', WHERE WHAT IT READS IS OF BULK AT MOST 1048576: true; the input reads as it did. -/
def ackTwiceUptoRow : OpenClaim := { program := "ytgkbkggegdmcgaa", sum := "e14087a589dc289f9ed6baf1ee7052e208fbc6f27a2516ff5772a8b720e5dcbe", func := "heliograph/heliographlaw10.AckTwice", spec := "ackTwice", apart := false, narrowed := true }
def AckTwiceUptoSaid : Prop := ackTwiceUptoRow.holds Try.pinned (OpenSpec.upto ackTwiceSpec)

/-- 'heliographlaw10.AckRound', WHERE WHAT IT READS IS OF BULK AT MOST 1048576: true; the input reads as it did. -/
def ackRoundUptoRow : OpenClaim := { program := "ytgkbkggegdmcgaa", sum := "e14087a589dc289f9ed6baf1ee7052e208fbc6f27a2516ff5772a8b720e5dcbe", func := "heliograph/heliographlaw10.AckRound", spec := "ackRound", apart := false, narrowed := true }
def AckRoundUptoSaid : Prop := ackRoundUptoRow.holds Try.pinned (OpenSpec.upto ackRoundSpec)

/-- 'heliographlaw10.AckPlays', WHERE WHAT IT READS IS OF BULK AT MOST 1048576: true; the input reads as it did. -/
def ackPlaysUptoRow : OpenClaim := { program := "ytgkbkggegdmcgaa", sum := "e14087a589dc289f9ed6baf1ee7052e208fbc6f27a2516ff5772a8b720e5dcbe", func := "heliograph/heliographlaw10.AckPlays", spec := "ackPlays", apart := false, narrowed := true }
def AckPlaysUptoSaid : Prop := ackPlaysUptoRow.holds Try.pinned (OpenSpec.upto ackPlaysSpec)

/-- 'heliographlaw10.AckRefuses', WHERE WHAT IT READS IS OF BULK AT MOST 1048576: true; the input reads as it did. -/
def ackRefusesUptoRow : OpenClaim := { program := "ytgkbkggegdmcgaa", sum := "e14087a589dc289f9ed6baf1ee7052e208fbc6f27a2516ff5772a8b720e5dcbe", func := "heliograph/heliographlaw10.AckRefuses", spec := "ackRefuses", apart := false, narrowed := true }
def AckRefusesUptoSaid : Prop := ackRefusesUptoRow.holds Try.pinned (OpenSpec.upto ackRefusesSpec)

/-- 'heliographlaw10.AckForks', WHERE WHAT IT READS IS OF BULK AT MOST 1048576: true; the input reads as it did. -/
def ackForksUptoRow : OpenClaim := { program := "ytgkbkggegdmcgaa", sum := "e14087a589dc289f9ed6baf1ee7052e208fbc6f27a2516ff5772a8b720e5dcbe", func := "heliograph/heliographlaw10.AckForks", spec := "ackForks", apart := false, narrowed := true }
def AckForksUptoSaid : Prop := ackForksUptoRow.holds Try.pinned (OpenSpec.upto ackForksSpec)

/-- 'heliographlaw10.AckNone', WHERE WHAT IT READS IS OF BULK AT MOST 1048576: true; the input reads as it did. -/
def ackNoneUptoRow : OpenClaim := { program := "ytgkbkggegdmcgaa", sum := "e14087a589dc289f9ed6baf1ee7052e208fbc6f27a2516ff5772a8b720e5dcbe", func := "heliograph/heliographlaw10.AckNone", spec := "ackNone", apart := false, narrowed := true }
def AckNoneUptoSaid : Prop := ackNoneUptoRow.holds Try.pinned (OpenSpec.upto ackNoneSpec)

/-- 'heliographtop.TopHeard', WHERE WHAT IT READS IS OF BULK AT MOST 1048576: true; the input reads as it did. -/
def topHeardUptoRow : OpenClaim := { program := "ytgkbkggegdmcgaa", sum := "e14087a589dc289f9ed6baf1ee7052e208fbc6f27a2516ff5772a8b720e5dcbe", func := "heliograph/heliographtop.TopHeard", spec := "topHeard", apart := false, narrowed := true }
def TopHeardUptoSaid : Prop := topHeardUptoRow.holds Try.pinned (OpenSpec.upto topHeardSpec)

end Rows
end Go.Proofs.Ytgkbkggegdmcgaa
