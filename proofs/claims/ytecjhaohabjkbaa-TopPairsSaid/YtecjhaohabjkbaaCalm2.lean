/-
  A REGION THAT DRAWS ITS ORDER AND LAYS MEMORY (append, len, convert ..), IN THE BODY OF A RANGE OVER A FUNCTION: where its operations call no Go function, what 'wpAnyH' says outside a fence serves inside.
-/
import Derived.Test.YtecjhaohabjkbaaCalm
import Derived.Deep.RegionHeld3
namespace Go.Proofs.Ytecjhaohabjkbaa
set_option linter.unusedVariables false

def calmOp : Op → Bool
  | .binOp _ _ _ _ _ => true
  | .convert _ _ _ => true
  | .buildSlice _ _ _ => true
  | .call c => (match c.callee with | .builtin .append => true | .builtin .len => true | _ => false)
  | o => plainOp o
theorem calm_noCall {P : Program} {w : World} {o : Oper} (ρ : Operand → Value) (h : calmOp o.op = true) : NoCall ((execOp ρ o).run P w) := by
  obtain ⟨dst, op, ty, pos, aft, gd⟩ := o
  cases op
  case binOp => exact noCall_v _
  case convert => exact noCall_v _
  case buildSlice => exact noCall_v _
  case call c =>
    obtain ⟨callee, args, tys⟩ := c
    cases callee
    case builtin b =>
      have hb : b = .append ∨ b = .len := by
        cases b <;> first | exact .inl rfl | exact .inr rfl | exact absurd h (by simp [calmOp])
      rcases hb with rfl | rfl
      · simp only [execOp, resolve, invoke, builtin, Sem.run_bind, Sem.run_pure, Result.andThen_ok]
        generalize Sem.run P (Builtin.append_ _ _ _) w = r
        cases r <;> simp [NoCall, Result.andThen]
      · simp only [execOp, resolve, invoke, builtin, Sem.run_bind, Sem.run_pure, Result.andThen_ok]
        generalize Sem.run P (Builtin.len_ _ _ _) w = r
        cases r <;> simp [NoCall, Result.andThen]
    all_goals exact absurd h (by simp [calmOp])
  all_goals exact plain_noCall ρ (by simpa [calmOp] using h)

theorem calm_about {P : Program} {w : World} {o : Oper} (ρ : Operand → Value) (h : calmOp o.op = true) : o.about P w ρ = none := by
  obtain ⟨dst, op, ty, pos, aft, gd⟩ := o
  cases op
  case call c =>
    obtain ⟨callee, args, tys⟩ := c
    cases callee
    case builtin b => simp [Oper.about, resolve, Target.leads, Sem.run_pure]
    all_goals exact absurd h (by simp [calmOp])
  all_goals first | rfl | exact plain_about ρ (by simpa [calmOp] using h)
theorem calm_sem {ro : Option Nat} {o : Oper} (ρ : Operand → Value) (h : calmOp o.op = true) : o.semAt ro ρ = execOp ρ o := Oper.semAt_eq _ _ _ (by
  intro c hc
  rw [hc] at h
  cases h)
section
variable {F : Fence} {n : Nat} {P : Program} {Q : Exit → Act → World → Prop} {a : Act} {w : World} {ops : Array Oper} {S : World → Prop}
theorem wpOpsIn_calm (hq : ¬ LetsOut Q) (hc : ∀ (i : Nat) (o : Oper), ops[i]? = some o → calmOp o.op = true) : ∀ (l : List Nat) (a : Act) (w : World), wpOps P ops Q l a w → wpOpsIn F n P ops Q l a w
  | [], a, w, h => h
  | i :: rest, a, w, h => by
    simp only [wpOps] at h
    simp only [wpOpsIn]
    cases ho : ops[i]? with
    | none => rw [ho] at h; exact wpOpsIn_calm hq hc rest a w h
    | some o =>
      rw [ho] at h
      simp only at h ⊢
      have hp := hc i o ho
      split
      · rename_i hw
        rw [if_pos hw] at h
        rcases h with h | h
        · refine ⟨fun f hf => (by rw [calm_about _ hp] at hf; cases hf), ?_⟩
          rw [calm_sem _ hp]
          exact upon_plain (calm_noCall _ hp) (fun a w => wpOpsIn_calm hq hc rest a w) h
        · exact (hq h.2).elim
      · rename_i hw
        rw [if_neg hw] at h
        exact ⟨fun f hf => (by rw [calm_about _ hp] at hf; cases hf), wpOpsIn_calm hq hc rest _ w h⟩
/-- THE LAW. -/
theorem wpIn_held_drew {id : Nat} (hm : P.follows .mixedOrders = true) (hp : ops.toList.all (fun o => calmOp o.op) = true) (hq : ¬ LetsOut Q) (hS : S w.drew)
    (h : S w.drew → wpAnyH P .any ops Q S ops.size (Array.replicate ops.size false) a w.drew) : (Code.region id ops true).wpIn F n P Q a w := by
  refine wpIn_region_draw fun t => wpOpsIn_calm hq (fun i o ho => ?_) _ _ _ ?_
  · exact List.all_eq_true.1 hp o (List.mem_of_getElem? (i := i) (by rw [← ho]; simp))
  · simp only [Region.schedule, hm, Bool.true_or, if_true]
    exact wpAny_sound _ t _ a _ (wpAny_of_held _ _ _ _ (h hS))
end

end Go.Proofs.Ytecjhaohabjkbaa
