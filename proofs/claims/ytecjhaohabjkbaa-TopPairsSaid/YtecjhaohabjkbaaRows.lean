/-
  No cell of these rows narrows 'for every input' (looked for: loops, veiled, ifaces, maps, wideKeys, modest, calm, conditions, laid).
  DERIVED. THE GIVEN ROWS OF THIS SEAT. 12 by the template 'for every input the law returns true; each argument reads behind the call as it read before'; 0 by the template 'total and deterministic' (their statements: YtecjhaohabjkbaaTotals.lean).
  GIVEN WITH THE SEED: the statements are not yours to turn. If you find one false, say at which input.
  Laid BY PROGRAM, IN A SANDBOX (cutbox-rows.mjs): the forced cells as the released guide's own fill.sh prints them over the translation 1997d91887af918c… (all of the seat's roots in one cut). By AI agents, Wed Nov 11 2026. No macro, syntax, notation, axiom, sorry.
-/
import Derived.Test.YtecjhaohabjkbaaChecked
import GoSem.Claim
import GoSem.ClaimJoined
import GoSem.ClaimMapViews
import Derived.JoinedTies
import Derived.KernelRfl
namespace Go.Proofs.Ytecjhaohabjkbaa
/- THE CELL 'sum', in the pinned program and in every row, IS THE sha256 OF THE DUMP (.gsa) THAT YtecjhaohabjkbaaProg.lean LOADS. Nothing in Lean hashes anything: it is a label: what it is worth is what the hold of that sum in a sandbox is worth. -/
noncomputable def Try.pinned : Pinned := { name := "ytecjhaohabjkbaa", sum := "1997d91887af918cfdb8d5f3f6d59f25d6c2be05b8e09b7a493b535a25f9e767", checked := Try.checked }
namespace Rows
def none {H : Type} : Left H := { results := [], args := [] }

/-- 'heliographtop.TopRoots': WHATEVER THE INPUT: true; the input reads as it did. -/
def topRootsSpec : ChangeSpec := { name := "topRoots", fn := fun _ => fun
  | [d1, d2, d3] => { results := [.lit (.bool true)], args := [d1, d2, d3] }
  | _ => none }
def topRootsRow : OpenClaim := { program := "ytecjhaohabjkbaa", sum := "1997d91887af918cfdb8d5f3f6d59f25d6c2be05b8e09b7a493b535a25f9e767", func := "heliograph/heliographtop.TopRoots", spec := "topRoots", apart := false }
def TopRootsSaid : Prop := topRootsRow.holds Try.pinned (OpenSpec.ofChange topRootsSpec)

/-- ITS FALSE NEIGHBOUR: 'it returns false'. Refute it at one input. -/
def topRootsWrong : ChangeSpec := { name := "topRoots", fn := fun _ => fun
  | [d1, d2, d3] => { results := [.lit (.bool false)], args := [d1, d2, d3] }
  | _ => none }
def TopRootsWrongFalsely : Prop := topRootsRow.holds Try.pinned (OpenSpec.ofChange topRootsWrong)

/-- 'heliographlaw08.SlotsSums': WHATEVER THE INPUT: true; the input reads as it did. -/
def slotsSumsSpec : ChangeSpec := { name := "slotsSums", fn := fun _ => fun
  | [d] => { results := [.lit (.bool true)], args := [d] }
  | _ => none }
def slotsSumsRow : OpenClaim := { program := "ytecjhaohabjkbaa", sum := "1997d91887af918cfdb8d5f3f6d59f25d6c2be05b8e09b7a493b535a25f9e767", func := "heliograph/heliographlaw08.SlotsSums", spec := "slotsSums", unfollowed := true, recurses := true, apart := false }
def SlotsSumsSaid : Prop := slotsSumsRow.holds Try.pinned (OpenSpec.ofChange slotsSumsSpec)

/-- ITS FALSE NEIGHBOUR: 'it returns false'. Refute it at one input. -/
def slotsSumsWrong : ChangeSpec := { name := "slotsSums", fn := fun _ => fun
  | [d] => { results := [.lit (.bool false)], args := [d] }
  | _ => none }
def SlotsSumsWrongFalsely : Prop := slotsSumsRow.holds Try.pinned (OpenSpec.ofChange slotsSumsWrong)

/-- 'heliographlaw08.SlotsLoads': WHATEVER THE INPUT: true; the input reads as it did. -/
def slotsLoadsSpec : ChangeSpec := { name := "slotsLoads", fn := fun _ => fun
  | [d1, d2, d3] => { results := [.lit (.bool true)], args := [d1, d2, d3] }
  | _ => none }
def slotsLoadsRow : OpenClaim := { program := "ytecjhaohabjkbaa", sum := "1997d91887af918cfdb8d5f3f6d59f25d6c2be05b8e09b7a493b535a25f9e767", func := "heliograph/heliographlaw08.SlotsLoads", spec := "slotsLoads", unfollowed := true, recurses := true, apart := false }
def SlotsLoadsSaid : Prop := slotsLoadsRow.holds Try.pinned (OpenSpec.ofChange slotsLoadsSpec)

/-- ITS FALSE NEIGHBOUR: 'it returns false'. Refute it at one input. -/
def slotsLoadsWrong : ChangeSpec := { name := "slotsLoads", fn := fun _ => fun
  | [d1, d2, d3] => { results := [.lit (.bool false)], args := [d1, d2, d3] }
  | _ => none }
def SlotsLoadsWrongFalsely : Prop := slotsLoadsRow.holds Try.pinned (OpenSpec.ofChange slotsLoadsWrong)

/-- 'heliographlaw08.SlotsTorn': WHATEVER THE INPUT: true; the input reads as it did. -/
def slotsTornSpec : ChangeSpec := { name := "slotsTorn", fn := fun _ => fun
  | [d1, d2, d3] => { results := [.lit (.bool true)], args := [d1, d2, d3] }
  | _ => none }
def slotsTornRow : OpenClaim := { program := "ytecjhaohabjkbaa", sum := "1997d91887af918cfdb8d5f3f6d59f25d6c2be05b8e09b7a493b535a25f9e767", func := "heliograph/heliographlaw08.SlotsTorn", spec := "slotsTorn", unfollowed := true, recurses := true, apart := false }
def SlotsTornSaid : Prop := slotsTornRow.holds Try.pinned (OpenSpec.ofChange slotsTornSpec)

/-- ITS FALSE NEIGHBOUR: 'it returns false'. Refute it at one input. -/
def slotsTornWrong : ChangeSpec := { name := "slotsTorn", fn := fun _ => fun
  | [d1, d2, d3] => { results := [.lit (.bool false)], args := [d1, d2, d3] }
  | _ => none }
def SlotsTornWrongFalsely : Prop := slotsTornRow.holds Try.pinned (OpenSpec.ofChange slotsTornWrong)

/-- 'heliographlaw08.SlotsPlays': WHATEVER THE INPUT: true; the input reads as it did. -/
def slotsPlaysSpec : ChangeSpec := { name := "slotsPlays", fn := fun _ => fun
  | [d1, d2] => { results := [.lit (.bool true)], args := [d1, d2] }
  | _ => none }
def slotsPlaysRow : OpenClaim := { program := "ytecjhaohabjkbaa", sum := "1997d91887af918cfdb8d5f3f6d59f25d6c2be05b8e09b7a493b535a25f9e767", func := "heliograph/heliographlaw08.SlotsPlays", spec := "slotsPlays", unfollowed := true, recurses := true, apart := false }
def SlotsPlaysSaid : Prop := slotsPlaysRow.holds Try.pinned (OpenSpec.ofChange slotsPlaysSpec)

/-- ITS FALSE NEIGHBOUR: 'it returns false'. Refute it at one input. -/
def slotsPlaysWrong : ChangeSpec := { name := "slotsPlays", fn := fun _ => fun
  | [d1, d2] => { results := [.lit (.bool false)], args := [d1, d2] }
  | _ => none }
def SlotsPlaysWrongFalsely : Prop := slotsPlaysRow.holds Try.pinned (OpenSpec.ofChange slotsPlaysWrong)

/-- 'heliographlaw08.SlotsWhole': WHATEVER THE INPUT: true; the input reads as it did. -/
def slotsWholeSpec : ChangeSpec := { name := "slotsWhole", fn := fun _ => fun
  | [d1, d2, d3] => { results := [.lit (.bool true)], args := [d1, d2, d3] }
  | _ => none }
def slotsWholeRow : OpenClaim := { program := "ytecjhaohabjkbaa", sum := "1997d91887af918cfdb8d5f3f6d59f25d6c2be05b8e09b7a493b535a25f9e767", func := "heliograph/heliographlaw08.SlotsWhole", spec := "slotsWhole", unfollowed := true, recurses := true, apart := false }
def SlotsWholeSaid : Prop := slotsWholeRow.holds Try.pinned (OpenSpec.ofChange slotsWholeSpec)

/-- ITS FALSE NEIGHBOUR: 'it returns false'. Refute it at one input. -/
def slotsWholeWrong : ChangeSpec := { name := "slotsWhole", fn := fun _ => fun
  | [d1, d2, d3] => { results := [.lit (.bool false)], args := [d1, d2, d3] }
  | _ => none }
def SlotsWholeWrongFalsely : Prop := slotsWholeRow.holds Try.pinned (OpenSpec.ofChange slotsWholeWrong)

/-- 'heliographlaw08.SlotsOpens': WHATEVER THE INPUT: true; the input reads as it did. -/
def slotsOpensSpec : ChangeSpec := { name := "slotsOpens", fn := fun _ => fun
  | [d1, d2, d3] => { results := [.lit (.bool true)], args := [d1, d2, d3] }
  | _ => none }
def slotsOpensRow : OpenClaim := { program := "ytecjhaohabjkbaa", sum := "1997d91887af918cfdb8d5f3f6d59f25d6c2be05b8e09b7a493b535a25f9e767", func := "heliograph/heliographlaw08.SlotsOpens", spec := "slotsOpens", unfollowed := true, recurses := true, apart := false }
def SlotsOpensSaid : Prop := slotsOpensRow.holds Try.pinned (OpenSpec.ofChange slotsOpensSpec)

/-- ITS FALSE NEIGHBOUR: 'it returns false'. Refute it at one input. -/
def slotsOpensWrong : ChangeSpec := { name := "slotsOpens", fn := fun _ => fun
  | [d1, d2, d3] => { results := [.lit (.bool false)], args := [d1, d2, d3] }
  | _ => none }
def SlotsOpensWrongFalsely : Prop := slotsOpensRow.holds Try.pinned (OpenSpec.ofChange slotsOpensWrong)

/-- 'heliographlaw08.SlotsRaw': WHATEVER THE INPUT: true; the input reads as it did. -/
def slotsRawSpec : ChangeSpec := { name := "slotsRaw", fn := fun _ => fun
  | [d1, d2, d3] => { results := [.lit (.bool true)], args := [d1, d2, d3] }
  | _ => none }
def slotsRawRow : OpenClaim := { program := "ytecjhaohabjkbaa", sum := "1997d91887af918cfdb8d5f3f6d59f25d6c2be05b8e09b7a493b535a25f9e767", func := "heliograph/heliographlaw08.SlotsRaw", spec := "slotsRaw", unfollowed := true, recurses := true, apart := false }
def SlotsRawSaid : Prop := slotsRawRow.holds Try.pinned (OpenSpec.ofChange slotsRawSpec)

/-- ITS FALSE NEIGHBOUR: 'it returns false'. Refute it at one input. -/
def slotsRawWrong : ChangeSpec := { name := "slotsRaw", fn := fun _ => fun
  | [d1, d2, d3] => { results := [.lit (.bool false)], args := [d1, d2, d3] }
  | _ => none }
def SlotsRawWrongFalsely : Prop := slotsRawRow.holds Try.pinned (OpenSpec.ofChange slotsRawWrong)

/-- 'heliographlaw08.SlotsTurns': WHATEVER THE INPUT: true; the input reads as it did. -/
def slotsTurnsSpec : ChangeSpec := { name := "slotsTurns", fn := fun _ => fun
  | [d] => { results := [.lit (.bool true)], args := [d] }
  | _ => none }
def slotsTurnsRow : OpenClaim := { program := "ytecjhaohabjkbaa", sum := "1997d91887af918cfdb8d5f3f6d59f25d6c2be05b8e09b7a493b535a25f9e767", func := "heliograph/heliographlaw08.SlotsTurns", spec := "slotsTurns", unfollowed := true, recurses := true, apart := false }
def SlotsTurnsSaid : Prop := slotsTurnsRow.holds Try.pinned (OpenSpec.ofChange slotsTurnsSpec)

/-- ITS FALSE NEIGHBOUR: 'it returns false'. Refute it at one input. -/
def slotsTurnsWrong : ChangeSpec := { name := "slotsTurns", fn := fun _ => fun
  | [d] => { results := [.lit (.bool false)], args := [d] }
  | _ => none }
def SlotsTurnsWrongFalsely : Prop := slotsTurnsRow.holds Try.pinned (OpenSpec.ofChange slotsTurnsWrong)

/-- 'heliographlaw08.SlotsNone': WHATEVER THE INPUT: true; the input reads as it did. -/
def slotsNoneSpec : ChangeSpec := { name := "slotsNone", fn := fun _ => fun
  | [d1, d2] => { results := [.lit (.bool true)], args := [d1, d2] }
  | _ => none }
def slotsNoneRow : OpenClaim := { program := "ytecjhaohabjkbaa", sum := "1997d91887af918cfdb8d5f3f6d59f25d6c2be05b8e09b7a493b535a25f9e767", func := "heliograph/heliographlaw08.SlotsNone", spec := "slotsNone", unfollowed := true, recurses := true, apart := false }
def SlotsNoneSaid : Prop := slotsNoneRow.holds Try.pinned (OpenSpec.ofChange slotsNoneSpec)

/-- ITS FALSE NEIGHBOUR: 'it returns false'. Refute it at one input. -/
def slotsNoneWrong : ChangeSpec := { name := "slotsNone", fn := fun _ => fun
  | [d1, d2] => { results := [.lit (.bool false)], args := [d1, d2] }
  | _ => none }
def SlotsNoneWrongFalsely : Prop := slotsNoneRow.holds Try.pinned (OpenSpec.ofChange slotsNoneWrong)

/-- 'heliographtop.TopKept': WHATEVER THE INPUT: true; the input reads as it did. -/
def topKeptSpec : ChangeSpec := { name := "topKept", fn := fun _ => fun
  | [d1, d2, d3] => { results := [.lit (.bool true)], args := [d1, d2, d3] }
  | _ => none }
def topKeptRow : OpenClaim := { program := "ytecjhaohabjkbaa", sum := "1997d91887af918cfdb8d5f3f6d59f25d6c2be05b8e09b7a493b535a25f9e767", func := "heliograph/heliographtop.TopKept", spec := "topKept", unfollowed := true, recurses := true, apart := false }
def TopKeptSaid : Prop := topKeptRow.holds Try.pinned (OpenSpec.ofChange topKeptSpec)

/-- ITS FALSE NEIGHBOUR: 'it returns false'. Refute it at one input. -/
def topKeptWrong : ChangeSpec := { name := "topKept", fn := fun _ => fun
  | [d1, d2, d3] => { results := [.lit (.bool false)], args := [d1, d2, d3] }
  | _ => none }
def TopKeptWrongFalsely : Prop := topKeptRow.holds Try.pinned (OpenSpec.ofChange topKeptWrong)

/-- 'heliographtop.TopPairs': WHATEVER THE INPUT: true; the input reads as it did. -/
def topPairsSpec : ChangeSpec := { name := "topPairs", fn := fun _ => fun
  | [d] => { results := [.lit (.bool true)], args := [d] }
  | _ => none }
def topPairsRow : OpenClaim := { program := "ytecjhaohabjkbaa", sum := "1997d91887af918cfdb8d5f3f6d59f25d6c2be05b8e09b7a493b535a25f9e767", func := "heliograph/heliographtop.TopPairs", spec := "topPairs", unfollowed := true, recurses := true, apart := false }
def TopPairsSaid : Prop := topPairsRow.holds Try.pinned (OpenSpec.ofChange topPairsSpec)

/-- ITS FALSE NEIGHBOUR: 'it returns false'. Refute it at one input. -/
def topPairsWrong : ChangeSpec := { name := "topPairs", fn := fun _ => fun
  | [d] => { results := [.lit (.bool false)], args := [d] }
  | _ => none }
def TopPairsWrongFalsely : Prop := topPairsRow.holds Try.pinned (OpenSpec.ofChange topPairsWrong)

/- THE SECOND FORM. 'bulk': how many values and letters a reading holds, each counted each time it is reached (what is shared counts as often as it is met; a slice's spare places count too). A statement '..UptoSaid' is the law's where the arguments, and the package variables that the reading takes, are together of bulk at most 1048576: NARROWER than '..Said'. Prove '..Said' where nothing that the law and all that it calls make is longer than what came in: it says more and counts as full. Else prove '..UptoSaid'. A law counts once. -/
mutual
def uptoBulk {H : Type} : DataW H → Nat
  | .lit (.string bytes) => bytes.length + 1
  | .lit _ => 1
  | .nil => 1
  | .ptr d => uptoBulk d + 1
  | .slice elems spare => uptoBulkAll elems + uptoBulkAll spare + 1
  | .agg parts => uptoBulkAll parts + 1
  | .iface _ d => uptoBulk d + 1
  | .map entries => uptoBulkEntries entries + 1
  | .held _ => 1
def uptoBulkAll {H : Type} : List (DataW H) → Nat
  | [] => 0
  | d :: r => uptoBulk d + uptoBulkAll r
def uptoBulkEntries {H : Type} : List (Lit × DataW H) → Nat
  | [] => 0
  | x :: r => uptoBulkEntry x + uptoBulkEntries r
def uptoBulkEntry {H : Type} : Lit × DataW H → Nat
  | (.string bytes, d) => bytes.length + uptoBulk d + 1
  | (_, d) => uptoBulk d + 1
 end
def uptoSmall : (H : Type) → List (DataW H) → Bool := fun _ ds => decide (uptoBulkAll ds ≤ 1048576)
def OpenSpec.upto (s : _root_.Go.ChangeSpec) : _root_.Go.OpenSpec := { _root_.Go.OpenSpec.ofChange s with cond := some uptoSmall }

/-- 'heliographtop.TopRoots', WHERE WHAT IT READS IS OF BULK AT MOST 1048576: true; the input reads as it did. -/
def topRootsUptoRow : OpenClaim := { program := "ytecjhaohabjkbaa", sum := "1997d91887af918cfdb8d5f3f6d59f25d6c2be05b8e09b7a493b535a25f9e767", func := "heliograph/heliographtop.TopRoots", spec := "topRoots", apart := false, narrowed := true }
def TopRootsUptoSaid : Prop := topRootsUptoRow.holds Try.pinned (OpenSpec.upto topRootsSpec)

/-- 'heliographlaw08.SlotsSums', WHERE WHAT IT READS IS OF BULK AT MOST 1048576: true; the input reads as it did. -/
def slotsSumsUptoRow : OpenClaim := { program := "ytecjhaohabjkbaa", sum := "1997d91887af918cfdb8d5f3f6d59f25d6c2be05b8e09b7a493b535a25f9e767", func := "heliograph/heliographlaw08.SlotsSums", spec := "slotsSums", unfollowed := true, recurses := true, apart := false, narrowed := true }
def SlotsSumsUptoSaid : Prop := slotsSumsUptoRow.holds Try.pinned (OpenSpec.upto slotsSumsSpec)

/-- 'heliographlaw08.SlotsLoads', WHERE WHAT IT READS IS OF BULK AT MOST 1048576: true; the input reads as it did. -/
def slotsLoadsUptoRow : OpenClaim := { program := "ytecjhaohabjkbaa", sum := "1997d91887af918cfdb8d5f3f6d59f25d6c2be05b8e09b7a493b535a25f9e767", func := "heliograph/heliographlaw08.SlotsLoads", spec := "slotsLoads", unfollowed := true, recurses := true, apart := false, narrowed := true }
def SlotsLoadsUptoSaid : Prop := slotsLoadsUptoRow.holds Try.pinned (OpenSpec.upto slotsLoadsSpec)

/-- 'heliographlaw08.SlotsTorn', WHERE WHAT IT READS IS OF BULK AT MOST 1048576: true; the input reads as it did. -/
def slotsTornUptoRow : OpenClaim := { program := "ytecjhaohabjkbaa", sum := "1997d91887af918cfdb8d5f3f6d59f25d6c2be05b8e09b7a493b535a25f9e767", func := "heliograph/heliographlaw08.SlotsTorn", spec := "slotsTorn", unfollowed := true, recurses := true, apart := false, narrowed := true }
def SlotsTornUptoSaid : Prop := slotsTornUptoRow.holds Try.pinned (OpenSpec.upto slotsTornSpec)

/-- 'heliographlaw08.SlotsPlays', WHERE WHAT IT READS IS OF BULK AT MOST 1048576: true; the input reads as it did. -/
def slotsPlaysUptoRow : OpenClaim := { program := "ytecjhaohabjkbaa", sum := "1997d91887af918cfdb8d5f3f6d59f25d6c2be05b8e09b7a493b535a25f9e767", func := "heliograph/heliographlaw08.SlotsPlays", spec := "slotsPlays", unfollowed := true, recurses := true, apart := false, narrowed := true }
def SlotsPlaysUptoSaid : Prop := slotsPlaysUptoRow.holds Try.pinned (OpenSpec.upto slotsPlaysSpec)

/-- 'heliographlaw08.SlotsWhole', WHERE WHAT IT READS IS OF BULK AT MOST 1048576: true; the input reads as it did. -/
def slotsWholeUptoRow : OpenClaim := { program := "ytecjhaohabjkbaa", sum := "1997d91887af918cfdb8d5f3f6d59f25d6c2be05b8e09b7a493b535a25f9e767", func := "heliograph/heliographlaw08.SlotsWhole", spec := "slotsWhole", unfollowed := true, recurses := true, apart := false, narrowed := true }
def SlotsWholeUptoSaid : Prop := slotsWholeUptoRow.holds Try.pinned (OpenSpec.upto slotsWholeSpec)

/-- 'heliographlaw08.SlotsOpens', WHERE WHAT IT READS IS OF BULK AT MOST 1048576: true; the input reads as it did. -/
def slotsOpensUptoRow : OpenClaim := { program := "ytecjhaohabjkbaa", sum := "1997d91887af918cfdb8d5f3f6d59f25d6c2be05b8e09b7a493b535a25f9e767", func := "heliograph/heliographlaw08.SlotsOpens", spec := "slotsOpens", unfollowed := true, recurses := true, apart := false, narrowed := true }
def SlotsOpensUptoSaid : Prop := slotsOpensUptoRow.holds Try.pinned (OpenSpec.upto slotsOpensSpec)

/-- 'heliographlaw08.SlotsRaw', WHERE WHAT IT READS IS OF BULK AT MOST 1048576: true; the input reads as it did. -/
def slotsRawUptoRow : OpenClaim := { program := "ytecjhaohabjkbaa", sum := "1997d91887af918cfdb8d5f3f6d59f25d6c2be05b8e09b7a493b535a25f9e767", func := "heliograph/heliographlaw08.SlotsRaw", spec := "slotsRaw", unfollowed := true, recurses := true, apart := false, narrowed := true }
def SlotsRawUptoSaid : Prop := slotsRawUptoRow.holds Try.pinned (OpenSpec.upto slotsRawSpec)

/-- 'heliographlaw08.SlotsTurns', WHERE WHAT IT READS IS OF BULK AT MOST 1048576: true; the input reads as it did. -/
def slotsTurnsUptoRow : OpenClaim := { program := "ytecjhaohabjkbaa", sum := "1997d91887af918cfdb8d5f3f6d59f25d6c2be05b8e09b7a493b535a25f9e767", func := "heliograph/heliographlaw08.SlotsTurns", spec := "slotsTurns", unfollowed := true, recurses := true, apart := false, narrowed := true }
def SlotsTurnsUptoSaid : Prop := slotsTurnsUptoRow.holds Try.pinned (OpenSpec.upto slotsTurnsSpec)

/-- 'heliographlaw08.SlotsNone', WHERE WHAT IT READS IS OF BULK AT MOST 1048576: true; the input reads as it did. -/
def slotsNoneUptoRow : OpenClaim := { program := "ytecjhaohabjkbaa", sum := "1997d91887af918cfdb8d5f3f6d59f25d6c2be05b8e09b7a493b535a25f9e767", func := "heliograph/heliographlaw08.SlotsNone", spec := "slotsNone", unfollowed := true, recurses := true, apart := false, narrowed := true }
def SlotsNoneUptoSaid : Prop := slotsNoneUptoRow.holds Try.pinned (OpenSpec.upto slotsNoneSpec)

/-- 'heliographtop.TopKept', WHERE WHAT IT READS IS OF BULK AT MOST 1048576: true; the input reads as it did. -/
def topKeptUptoRow : OpenClaim := { program := "ytecjhaohabjkbaa", sum := "1997d91887af918cfdb8d5f3f6d59f25d6c2be05b8e09b7a493b535a25f9e767", func := "heliograph/heliographtop.TopKept", spec := "topKept", unfollowed := true, recurses := true, apart := false, narrowed := true }
def TopKeptUptoSaid : Prop := topKeptUptoRow.holds Try.pinned (OpenSpec.upto topKeptSpec)

/-- 'heliographtop.TopPairs', WHERE WHAT IT READS IS OF BULK AT MOST 1048576: true; the input reads as it did. -/
def topPairsUptoRow : OpenClaim := { program := "ytecjhaohabjkbaa", sum := "1997d91887af918cfdb8d5f3f6d59f25d6c2be05b8e09b7a493b535a25f9e767", func := "heliograph/heliographtop.TopPairs", spec := "topPairs", unfollowed := true, recurses := true, apart := false, narrowed := true }
def TopPairsUptoSaid : Prop := topPairsUptoRow.holds Try.pinned (OpenSpec.upto topPairsSpec)

end Rows
end Go.Proofs.Ytecjhaohabjkbaa
