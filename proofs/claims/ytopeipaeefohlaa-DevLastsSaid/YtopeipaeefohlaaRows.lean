/-
  No cell of these rows narrows 'for every input' (looked for: loops, veiled, ifaces, maps, wideKeys, modest, calm, conditions, laid).
  DERIVED. THE GIVEN ROWS OF THIS SEAT. 7 by the template 'for every input the law returns true; each argument reads behind the call as it read before'; 0 by the template 'total and deterministic' (their statements: YtopeipaeefohlaaTotals.lean).
  GIVEN WITH THE SEED: the statements are not yours to turn. If you find one false, say at which input.
  Laid BY PROGRAM, IN A SANDBOX (cutbox-rows.mjs): the forced cells as the released guide's own fill.sh prints them over the translation b83325bf43208fec… (all of the seat's roots in one cut). By AI agents, Wed Nov 11 2026. No macro, syntax, notation, axiom, sorry.
-/
import Derived.Test.YtopeipaeefohlaaChecked
import GoSem.Claim
import GoSem.ClaimJoined
import GoSem.ClaimMapViews
import Derived.JoinedTies
import Derived.KernelRfl
namespace Go.Proofs.Ytopeipaeefohlaa
/- THE CELL 'sum', in the pinned program and in every row, IS THE sha256 OF THE DUMP (.gsa) THAT YtopeipaeefohlaaProg.lean LOADS. Nothing in Lean hashes anything: it is a label: what it is worth is what the hold of that sum in a sandbox is worth. -/
noncomputable def Try.pinned : Pinned := { name := "ytopeipaeefohlaa", sum := "b83325bf43208fecd7f183cee7d29c62bf8aba56628b03315c125778bb27b483", checked := Try.checked }
namespace Rows
def none {H : Type} : Left H := { results := [], args := [] }

/-- 'heliographlaw07.DevOrder': WHATEVER THE INPUT: true; the input reads as it did. -/
def devOrderSpec : ChangeSpec := { name := "devOrder", fn := fun _ => fun
  | [d1, d2] => { results := [.lit (.bool true)], args := [d1, d2] }
  | _ => none }
def devOrderRow : OpenClaim := { program := "ytopeipaeefohlaa", sum := "b83325bf43208fecd7f183cee7d29c62bf8aba56628b03315c125778bb27b483", func := "heliograph/heliographlaw07.DevOrder", spec := "devOrder", unfollowed := true, recurses := true, apart := false }
def DevOrderSaid : Prop := devOrderRow.holds Try.pinned (OpenSpec.ofChange devOrderSpec)

/-- ITS FALSE NEIGHBOUR: 'it returns false'. Refute it at one input. -/
def devOrderWrong : ChangeSpec := { name := "devOrder", fn := fun _ => fun
  | [d1, d2] => { results := [.lit (.bool false)], args := [d1, d2] }
  | _ => none }
def DevOrderWrongFalsely : Prop := devOrderRow.holds Try.pinned (OpenSpec.ofChange devOrderWrong)

/-- 'heliographlaw07.DevPlays': WHATEVER THE INPUT: true; the input reads as it did. -/
def devPlaysSpec : ChangeSpec := { name := "devPlays", fn := fun _ => fun
  | [d1, d2] => { results := [.lit (.bool true)], args := [d1, d2] }
  | _ => none }
def devPlaysRow : OpenClaim := { program := "ytopeipaeefohlaa", sum := "b83325bf43208fecd7f183cee7d29c62bf8aba56628b03315c125778bb27b483", func := "heliograph/heliographlaw07.DevPlays", spec := "devPlays", unfollowed := true, recurses := true, apart := false }
def DevPlaysSaid : Prop := devPlaysRow.holds Try.pinned (OpenSpec.ofChange devPlaysSpec)

/-- ITS FALSE NEIGHBOUR: 'it returns false'. Refute it at one input. -/
def devPlaysWrong : ChangeSpec := { name := "devPlays", fn := fun _ => fun
  | [d1, d2] => { results := [.lit (.bool false)], args := [d1, d2] }
  | _ => none }
def DevPlaysWrongFalsely : Prop := devPlaysRow.holds Try.pinned (OpenSpec.ofChange devPlaysWrong)

/-- 'heliographlaw07.DevSyncs': WHATEVER THE INPUT: true; the input reads as it did. -/
def devSyncsSpec : ChangeSpec := { name := "devSyncs", fn := fun _ => fun
  | [d1, d2, d3] => { results := [.lit (.bool true)], args := [d1, d2, d3] }
  | _ => none }
def devSyncsRow : OpenClaim := { program := "ytopeipaeefohlaa", sum := "b83325bf43208fecd7f183cee7d29c62bf8aba56628b03315c125778bb27b483", func := "heliograph/heliographlaw07.DevSyncs", spec := "devSyncs", unfollowed := true, recurses := true, apart := false }
def DevSyncsSaid : Prop := devSyncsRow.holds Try.pinned (OpenSpec.ofChange devSyncsSpec)

/-- ITS FALSE NEIGHBOUR: 'it returns false'. Refute it at one input. -/
def devSyncsWrong : ChangeSpec := { name := "devSyncs", fn := fun _ => fun
  | [d1, d2, d3] => { results := [.lit (.bool false)], args := [d1, d2, d3] }
  | _ => none }
def DevSyncsWrongFalsely : Prop := devSyncsRow.holds Try.pinned (OpenSpec.ofChange devSyncsWrong)

/-- 'heliographlaw07.DevLasts': WHATEVER THE INPUT: true; the input reads as it did. -/
def devLastsSpec : ChangeSpec := { name := "devLasts", fn := fun _ => fun
  | [d1, d2, d3] => { results := [.lit (.bool true)], args := [d1, d2, d3] }
  | _ => none }
def devLastsRow : OpenClaim := { program := "ytopeipaeefohlaa", sum := "b83325bf43208fecd7f183cee7d29c62bf8aba56628b03315c125778bb27b483", func := "heliograph/heliographlaw07.DevLasts", spec := "devLasts", unfollowed := true, recurses := true, apart := false }
def DevLastsSaid : Prop := devLastsRow.holds Try.pinned (OpenSpec.ofChange devLastsSpec)

/-- ITS FALSE NEIGHBOUR: 'it returns false'. Refute it at one input. -/
def devLastsWrong : ChangeSpec := { name := "devLasts", fn := fun _ => fun
  | [d1, d2, d3] => { results := [.lit (.bool false)], args := [d1, d2, d3] }
  | _ => none }
def DevLastsWrongFalsely : Prop := devLastsRow.holds Try.pinned (OpenSpec.ofChange devLastsWrong)

/-- 'heliographlaw07.DevAll': WHATEVER THE INPUT: true; the input reads as it did. -/
def devAllSpec : ChangeSpec := { name := "devAll", fn := fun _ => fun
  | [d1, d2] => { results := [.lit (.bool true)], args := [d1, d2] }
  | _ => none }
def devAllRow : OpenClaim := { program := "ytopeipaeefohlaa", sum := "b83325bf43208fecd7f183cee7d29c62bf8aba56628b03315c125778bb27b483", func := "heliograph/heliographlaw07.DevAll", spec := "devAll", unfollowed := true, recurses := true, apart := false }
def DevAllSaid : Prop := devAllRow.holds Try.pinned (OpenSpec.ofChange devAllSpec)

/-- ITS FALSE NEIGHBOUR: 'it returns false'. Refute it at one input. -/
def devAllWrong : ChangeSpec := { name := "devAll", fn := fun _ => fun
  | [d1, d2] => { results := [.lit (.bool false)], args := [d1, d2] }
  | _ => none }
def DevAllWrongFalsely : Prop := devAllRow.holds Try.pinned (OpenSpec.ofChange devAllWrong)

/-- 'heliographlaw07.DevForks': WHATEVER THE INPUT: true; the input reads as it did. -/
def devForksSpec : ChangeSpec := { name := "devForks", fn := fun _ => fun
  | [d1, d2] => { results := [.lit (.bool true)], args := [d1, d2] }
  | _ => none }
def devForksRow : OpenClaim := { program := "ytopeipaeefohlaa", sum := "b83325bf43208fecd7f183cee7d29c62bf8aba56628b03315c125778bb27b483", func := "heliograph/heliographlaw07.DevForks", spec := "devForks", unfollowed := true, recurses := true, apart := false }
def DevForksSaid : Prop := devForksRow.holds Try.pinned (OpenSpec.ofChange devForksSpec)

/-- ITS FALSE NEIGHBOUR: 'it returns false'. Refute it at one input. -/
def devForksWrong : ChangeSpec := { name := "devForks", fn := fun _ => fun
  | [d1, d2] => { results := [.lit (.bool false)], args := [d1, d2] }
  | _ => none }
def DevForksWrongFalsely : Prop := devForksRow.holds Try.pinned (OpenSpec.ofChange devForksWrong)

/-- 'heliographlaw07.DevNone': WHATEVER THE INPUT: true; the input reads as it did. -/
def devNoneSpec : ChangeSpec := { name := "devNone", fn := fun _ => fun
  | [d1, d2] => { results := [.lit (.bool true)], args := [d1, d2] }
  | _ => none }
def devNoneRow : OpenClaim := { program := "ytopeipaeefohlaa", sum := "b83325bf43208fecd7f183cee7d29c62bf8aba56628b03315c125778bb27b483", func := "heliograph/heliographlaw07.DevNone", spec := "devNone", unfollowed := true, recurses := true, apart := false }
def DevNoneSaid : Prop := devNoneRow.holds Try.pinned (OpenSpec.ofChange devNoneSpec)

/-- ITS FALSE NEIGHBOUR: 'it returns false'. Refute it at one input. -/
def devNoneWrong : ChangeSpec := { name := "devNone", fn := fun _ => fun
  | [d1, d2] => { results := [.lit (.bool false)], args := [d1, d2] }
  | _ => none }
def DevNoneWrongFalsely : Prop := devNoneRow.holds Try.pinned (OpenSpec.ofChange devNoneWrong)

/- THE SECOND FORM. 'bulk': how many values and letters a reading holds, each counted each time it is reached (what is shared counts as often as it is met; a slice's spare places count too). A statement '..UptoSaid' is the law's where the arguments, and the package variables that the reading takes, are together of bulk at most 1048576: NARROWER than '..Said'. Prove '..Said' where nothing that the law and all that it calls make is longer than what came in: it says more and counts as full. Else prove '..UptoSaid'. A law counts once. -/
mutual
def uptoBulk {H : Type} : DataW H → Nat
  | .lit (.string bytes) => bytes.length + 1
  | .lit _ => 1
  | .nil => 1
  | .ptr d => uptoBulk d + 1
  | .slice elems spare => uptoBulkAll elems + uptoBulkAll spare + 1
  | .agg parts => uptoBulkAll parts + 1
  | .iface _ d => uptoBulk d + 1
  | .map entries => uptoBulkEntries entries + 1
  | .held _ => 1
def uptoBulkAll {H : Type} : List (DataW H) → Nat
  | [] => 0
  | d :: r => uptoBulk d + uptoBulkAll r
def uptoBulkEntries {H : Type} : List (Lit × DataW H) → Nat
  | [] => 0
  | x :: r => uptoBulkEntry x + uptoBulkEntries r
def uptoBulkEntry {H : Type} : Lit × DataW H → Nat
  | (.string bytes, d) => bytes.length + uptoBulk d + 1
  | (_, d) => uptoBulk d + 1
 end
def uptoSmall : (H : Type) → List (DataW H) → Bool := fun _ ds => decide (uptoBulkAll ds ≤ 1048576)
def OpenSpec.upto (s : _root_.Go.ChangeSpec) : _root_.Go.OpenSpec := { _root_.Go.OpenSpec.ofChange s with cond := some uptoSmall }

/-- 'heliographlaw07.DevOrder', WHERE WHAT IT READS IS OF BULK AT MOST 1048576: true; the input reads as it did. -/
def devOrderUptoRow : OpenClaim := { program := "ytopeipaeefohlaa", sum := "b83325bf43208fecd7f183cee7d29c62bf8aba56628b03315c125778bb27b483", func := "heliograph/heliographlaw07.DevOrder", spec := "devOrder", unfollowed := true, recurses := true, apart := false, narrowed := true }
def DevOrderUptoSaid : Prop := devOrderUptoRow.holds Try.pinned (OpenSpec.upto devOrderSpec)

/-- 'heliographlaw07.DevPlays', WHERE WHAT IT READS IS OF BULK AT MOST 1048576: true; the input reads as it did. -/
def devPlaysUptoRow : OpenClaim := { program := "ytopeipaeefohlaa", sum := "b83325bf43208fecd7f183cee7d29c62bf8aba56628b03315c125778bb27b483", func := "heliograph/heliographlaw07.DevPlays", spec := "devPlays", unfollowed := true, recurses := true, apart := false, narrowed := true }
def DevPlaysUptoSaid : Prop := devPlaysUptoRow.holds Try.pinned (OpenSpec.upto devPlaysSpec)

/-- 'heliographlaw07.DevSyncs', WHERE WHAT IT READS IS OF BULK AT MOST 1048576: true; the input reads as it did. -/
def devSyncsUptoRow : OpenClaim := { program := "ytopeipaeefohlaa", sum := "b83325bf43208fecd7f183cee7d29c62bf8aba56628b03315c125778bb27b483", func := "heliograph/heliographlaw07.DevSyncs", spec := "devSyncs", unfollowed := true, recurses := true, apart := false, narrowed := true }
def DevSyncsUptoSaid : Prop := devSyncsUptoRow.holds Try.pinned (OpenSpec.upto devSyncsSpec)

/-- 'heliographlaw07.DevLasts', WHERE WHAT IT READS IS OF BULK AT MOST 1048576: true; the input reads as it did. -/
def devLastsUptoRow : OpenClaim := { program := "ytopeipaeefohlaa", sum := "b83325bf43208fecd7f183cee7d29c62bf8aba56628b03315c125778bb27b483", func := "heliograph/heliographlaw07.DevLasts", spec := "devLasts", unfollowed := true, recurses := true, apart := false, narrowed := true }
def DevLastsUptoSaid : Prop := devLastsUptoRow.holds Try.pinned (OpenSpec.upto devLastsSpec)

/-- 'heliographlaw07.DevAll', WHERE WHAT IT READS IS OF BULK AT MOST 1048576: true; the input reads as it did. -/
def devAllUptoRow : OpenClaim := { program := "ytopeipaeefohlaa", sum := "b83325bf43208fecd7f183cee7d29c62bf8aba56628b03315c125778bb27b483", func := "heliograph/heliographlaw07.DevAll", spec := "devAll", unfollowed := true, recurses := true, apart := false, narrowed := true }
def DevAllUptoSaid : Prop := devAllUptoRow.holds Try.pinned (OpenSpec.upto devAllSpec)

/-- 'heliographlaw07.DevForks', WHERE WHAT IT READS IS OF BULK AT MOST 1048576: true; the input reads as it did. -/
def devForksUptoRow : OpenClaim := { program := "ytopeipaeefohlaa", sum := "b83325bf43208fecd7f183cee7d29c62bf8aba56628b03315c125778bb27b483", func := "heliograph/heliographlaw07.DevForks", spec := "devForks", unfollowed := true, recurses := true, apart := false, narrowed := true }
def DevForksUptoSaid : Prop := devForksUptoRow.holds Try.pinned (OpenSpec.upto devForksSpec)

/-- 'heliographlaw07.DevNone', WHERE WHAT IT READS IS OF BULK AT MOST 1048576: true; the input reads as it did. -/
def devNoneUptoRow : OpenClaim := { program := "ytopeipaeefohlaa", sum := "b83325bf43208fecd7f183cee7d29c62bf8aba56628b03315c125778bb27b483", func := "heliograph/heliographlaw07.DevNone", spec := "devNone", unfollowed := true, recurses := true, apart := false, narrowed := true }
def DevNoneUptoSaid : Prop := devNoneUptoRow.holds Try.pinned (OpenSpec.upto devNoneSpec)

end Rows
end Go.Proofs.Ytopeipaeefohlaa
