/-
  A REGION THAT DRAWS ITS ORDER, IN THE BODY OF A RANGE OVER A FUNCTION: where its operations make no call, the walk of a plain region serves inside whatever fence and round.
-/
import Derived.StillTail
import Derived.StillTactics
import Derived.OrdersIn
import Derived.TacticsIn
namespace Go.Proofs.Ytecjhaohabjkbaa
set_option linter.unusedVariables false

def plainOp : Op → Bool
  | .move _ | .assign _ | .nilCheck _ | .load _ _ | .store _ _ _ | .fieldAddr _ _ _ | .indexAddr _ _ _ => true
  | _ => false
def NoCall : Result Next → Prop
  | .ok (.value _) _ | .ok .skip _ | .halt _ _ => True
  | _ => False
theorem noCall_bind {α : Type} {P : Program} {w : World} (s : Sem α) (f : α → Sem Next) (h : ∀ a w, NoCall ((f a).run P w)) : NoCall ((s >>= f).run P w) := by
  rw [Sem.run_bind]
  cases hs : s.run P w with
  | ok a w' => exact h a w'
  | halt e w' => trivial
theorem noCall_v {P : Program} {w : World} (s : Sem Value) : NoCall ((do let x ← s; pure (Next.value x) : Sem Next).run P w) := by
  rw [Sem.run_bind]
  cases s.run P w <;> simp [NoCall, Result.andThen]
theorem noCall_u {P : Program} {w : World} (s : Sem Unit) : NoCall ((do s; pure Next.skip : Sem Next).run P w) := by
  rw [Sem.run_bind]
  cases s.run P w <;> simp [NoCall, Result.andThen]
theorem plain_noCall {P : Program} {w : World} {o : Oper} (ρ : Operand → Value) (h : plainOp o.op = true) : NoCall ((execOp ρ o).run P w) := by
  obtain ⟨dst, op, ty, pos, aft, gd⟩ := o
  cases op
  case load => exact noCall_v _
  case store => exact noCall_u _
  case fieldAddr => exact noCall_v _
  case indexAddr => exact noCall_v _
  case move => exact trivial
  case assign => exact trivial
  case nilCheck x =>
    simp only [execOp]
    split
    · simp [runtimePanic, NoCall]
    · simp [runtimePanic, NoCall]
    · simp [runtimePanic, NoCall]
    · split
      · simp [runtimePanic, NoCall]
      · refine noCall_bind _ _ fun p w => noCall_bind _ _ fun q w => ?_
        split
        · refine noCall_bind _ _ fun p w => ?_
          trivial
        · trivial
      · trivial
    · exact trivial
  all_goals exact absurd h (by simp [plainOp])
theorem plain_about {P : Program} {w : World} {o : Oper} (ρ : Operand → Value) (h : plainOp o.op = true) : o.about P w ρ = none := by
  obtain ⟨dst, op, ty, pos, aft, gd⟩ := o
  cases op <;> first | rfl | exact absurd h (by simp [plainOp])
theorem plain_sem {ro : Option Nat} {o : Oper} (ρ : Operand → Value) (h : plainOp o.op = true) : o.semAt ro ρ = execOp ρ o := Oper.semAt_eq _ _ _ (by
  intro c hc
  rw [hc] at h
  cases h)
section
variable {F : Fence} {n : Nat} {P : Program} {Q : Exit → Act → World → Prop} {a : Act} {w : World} {ops : Array Oper}
theorem upon_plain {o : Oper} {K K' : Act → World → Prop} {r : Result Next} (hr : NoCall r) (hk : ∀ a w, K a w → K' a w) (h : o.upon P a K Q r) : o.uponIn F n P a K' Q r := by
  cases r with
  | ok x w' => cases x <;> first | exact hk _ _ h | exact (hr : False).elim
  | halt x w' => cases x <;> exact h
theorem wpOpsIn_of (hq : ¬ LetsOut Q) (hc : ∀ (i : Nat) (o : Oper), ops[i]? = some o → plainOp o.op = true) : ∀ (l : List Nat) (a : Act) (w : World), wpOps P ops Q l a w → wpOpsIn F n P ops Q l a w
  | [], a, w, h => h
  | i :: rest, a, w, h => by
    simp only [wpOps] at h
    simp only [wpOpsIn]
    cases ho : ops[i]? with
    | none => rw [ho] at h; exact wpOpsIn_of hq hc rest a w h
    | some o =>
      rw [ho] at h
      simp only at h ⊢
      have hp := hc i o ho
      split
      · rename_i hw
        rw [if_pos hw] at h
        rcases h with h | h
        · refine ⟨fun f hf => (by rw [plain_about _ hp] at hf; cases hf), ?_⟩
          rw [plain_sem _ hp]
          exact upon_plain (plain_noCall _ hp) (fun a w => wpOpsIn_of hq hc rest a w) h
        · exact (hq h.2).elim
      · rename_i hw
        rw [if_neg hw] at h
        exact ⟨fun f hf => (by rw [plain_about _ hp] at hf; cases hf), wpOpsIn_of hq hc rest _ w h⟩
/-- the law: what wp_region_still_tail asks, and that no operation calls. -/
theorem wpIn_calm_tail {id : Nat} {l : List Oper} (m : Nat) (hm : P.follows .mixedOrders = true) (hB : Region.lexTailB .any l.toArray m = true) (hp : l.all (fun o => plainOp o.op) = true) (hq : ¬ LetsOut Q)
    (h : wpStill P l.toArray w.drew (fun a' => wpList P l.toArray Q (l.drop m) a' w.drew) (l.take m) a) : (Code.region id l.toArray true).wpIn F n P Q a w := by
  refine wpIn_region_draw fun t => wpOpsIn_of hq (fun i o ho => ?_) _ _ _ ?_
  · rw [List.getElem?_toArray] at ho
    exact List.all_eq_true.1 hp o (List.mem_of_getElem? ho)
  · simp only [Region.schedule, hm, Bool.true_or, if_true]
    refine wpAny_sound _ t _ a _ ?_
    simp only [Region.lexTailB, Bool.and_eq_true, decide_eq_true_eq] at hB
    obtain ⟨⟨⟨⟨hsel, hn⟩, hs⟩, hc⟩, hlex⟩ := hB
    have hn' : m < l.length := by simpa using hn
    have htl : (l.take m).length = m := by simp; omega
    have hdl : (l.drop m).length = l.toArray.size - m := by simp
    have inv0 : HeadInv .any l.toArray m (Array.replicate l.toArray.size false) :=
      ⟨by simp, fun j oj _ hl => (by rw [getD_replicate_false] at hl; cases hl), fun t _ ht => getD_in (by simpa using ht) (getD_replicate_false _ _)⟩
    have H := wpAnyL_lex (md := .any) (g := l.toArray.size - m) hsel hs hc hn (l.take m) 0 _ a (fun j hj => by
      have hj' : j < m := by rw [htl] at hj; exact hj
      simp [hj']) (by simpa using htl) inv0 (by rw [htl]; exact hlex) h
    have := wpAny_of_head (Q' := Q) (g := l.toArray.size - m) (fun listed a' hL => by
      have := wpAny_of_seq (md := .any) (Q' := Q) (l.drop m) m listed a' w.drew (fun j => by simp [List.getElem?_drop]) (by rw [hdl]; exact hL.1) hL.2
      rwa [hdl] at this) _ _ _ H
    rw [htl, show m + (l.toArray.size - m) = l.toArray.size by omega] at this
    exact this
end

/-- a region that draws and only reads, without calls: in the text's order, the world behind it one draw on. -/
theorem wp_still_drew {P : Program} {id : Nat} {l : List Oper} {Q : Exit → Act → World → Prop} {a : Act} {w : World} (hm : P.follows .mixedOrders = true) (hB : Region.lexB .any l.toArray = true)
    (h : wpStill P l.toArray w.drew (fun a' => Q .normal a' w.drew) l a) : (Code.region id l.toArray true).wp P Q a w := wp_region_still_lit hm hB h

/-- the same, where one tail of operations in a forced order writes. -/
theorem wp_tail_drew {P : Program} {id : Nat} {l : List Oper} {Q : Exit → Act → World → Prop} {a : Act} {w : World} (m : Nat) (hm : P.follows .mixedOrders = true) (hB : Region.lexTailB .any l.toArray m = true)
    (h : wpStill P l.toArray w.drew (fun a' => wpList P l.toArray Q (l.drop m) a' w.drew) (l.take m) a) : (Code.region id l.toArray true).wp P Q a w := wp_region_still_tail m hm hB h

end Go.Proofs.Ytecjhaohabjkbaa
