/-
  PLAIN: stacks of open elements; what write.walk's iterator leans on. CONTRACT: one step of write.right for tokens in memory.
-/
import Derived.RangeFuncNested
import Derived.RangeFuncBound
import Derived.RangeFuncCalls
import Derived.RangeFuncLeaves
import Derived.RangeFuncFrom
import Derived.Shelf.Abstract
import Derived.WalkKit
import Derived.OwnWalkIn
import Derived.TacticsInMore
import Derived.LoopNIn
import Derived.LoopIn
import Derived.Test.YtbfcgiodpcchnaaW9
namespace Go.Proofs.Ytbfcgiodpcchnaa
open Go.RowKit
set_option linter.unusedVariables false
attribute [local go_sem] Oper.semAt_some

/-- the elements that are open behind i tokens. -/
def opens (ts : List Tok) : Nat → List ByteArray
  | 0 => []
  | i + 1 => match ts[i]? with
    | some t => if t.kind = 1 then opens ts i ++ [t.name] else (opens ts i).dropLast
    | none => opens ts i
def goodTok (t : Tok) : Prop := isName t.name ∧ t.text = ⟨#[]⟩ ∧ (t.kind = 1 ∧ goodAttrs t.attrs ∨ t.kind = 2 ∧ t.attrs = [])
def goodToks (ts : List Tok) : Prop := ts.length ≤ 64 ∧ ∀ i t, ts[i]? = some t → goodTok t ∧ (t.kind = 1 ∧ (opens ts i).length < 8 ∨ t.kind = 2 ∧ (opens ts i).getLast? = some t.name)
theorem opens_begin (ts : List Tok) (i : Nat) (t : Tok) (h : ts[i]? = some t) (hk : t.kind = 1) : opens ts (i + 1) = opens ts i ++ [t.name] := by
  show (match ts[i]? with | some t => if t.kind = 1 then opens ts i ++ [t.name] else (opens ts i).dropLast | none => opens ts i) = _
  rw [h]
  simp [hk]
theorem opens_end (ts : List Tok) (i : Nat) (t : Tok) (h : ts[i]? = some t) (hk : t.kind = 2) : opens ts (i + 1) = (opens ts i).dropLast := by
  show (match ts[i]? with | some t => if t.kind = 1 then opens ts i ++ [t.name] else (opens ts i).dropLast | none => opens ts i) = _
  rw [h]
  simp [hk]

/-- what the iterator leans on: tokens, attributes, the box, names. -/
def safeT (t : TypeId) : Bool := t == 66 || t == 56 || t == 36 || t == 9
def safeO : Obj → Bool
  | .cells _ t _ => safeT t
  | _ => false
structure TK (w w' : World) : Prop where
  os : w'.os = w.os
  tape : w'.tape = w.tape
  output : w'.output = w.output
  size : w.heap.size ≤ w'.heap.size
  same : ∀ (k : Nat) (o : Obj), w.heap[k]? = some o → safeO o = true → w'.heap[k]? = some o
theorem TK.refl (w : World) : TK w w := ⟨rfl, rfl, rfl, Nat.le_refl _, fun _ _ h _ => h⟩
theorem TK.trans {a b c : World} (h : TK a b) (k : TK b c) : TK a c := ⟨k.os.trans h.os, k.tape.trans h.tape, k.output.trans h.output, Nat.le_trans h.size k.size, fun i o hi ho => k.same i o (h.same i o hi ho) ho⟩
theorem TK.ofKeeps {w w' : World} {fp : List Nat} (h : Keeps w w' fp) (hf : ∀ k ∈ fp, ∀ o, w.heap[k]? = some o → safeO o = false) : TK w w' :=
  ⟨h.os, h.tape, h.output, h.size, fun k o hk ho => (h.block k (Array.getElem?_eq_some_iff.1 hk).1 (fun hm => by rw [hf k hm o hk] at ho; cases ho)).trans hk⟩
theorem TK.putObj (W : World) (l : Nat) (o o' : Obj) (h : W.heap[l]? = some o) (hc : o.isCells = false) : TK W (W.putObj l o') := by
  have hg := grownBy_putObj' W l o'
  refine ⟨hg.os, hg.tape, hg.output, hg.size, fun k q hk hq => ?_⟩
  by_cases e : k = l
  · subst e
    rw [h] at hk
    cases hk
    cases o <;> simp_all [safeO, Obj.isCells]
  · exact (World.putObj_heap_other e).trans hk
theorem TK.blk {w w' : World} (h : TK w w') {g : Nat} {t : TypeId} {cs : Array Value} (hb : Blk w g t cs) (hs : safeT t = true) : Blk w' g t cs := h.same g _ hb hs

end Go.Proofs.Ytbfcgiodpcchnaa
