/-
  RULES OF THE WALK for a seat that was loaded in parts: the literal of a write, as that load's own facts leave it.
-/
import Derived.Test.YtecjhaohabjkbaaDL
namespace Go.Proofs.Ytecjhaohabjkbaa
open Go.RowKit
set_option linter.unusedVariables false

theorem zero_wr : Try.zeroCells96 = Wr.zero.cells.toArray := by kernel_rfl
theorem zero_rwr : Try.zeroCells110 = Wr.zero.cells.toArray := by kernel_rfl
theorem fold_set (vs : List Value) : ∀ (k n : Nat) (cs : Array Value), k + n + vs.length = cs.size → List.foldl (fun (cs : Array Value) (x : Value × Nat) => cs.setIfInBounds (k + x.2) x.1) cs (vs.zipIdx n) = (cs.toList.take (k + n) ++ vs).toArray := by
  induction vs with
  | nil => intro k n cs h; simp at h ⊢; rw [List.take_of_length_le (by simp; omega)]
  | cons v vs ih =>
    intro k n cs h
    simp only [List.zipIdx_cons, List.foldl_cons]
    rw [ih k (n + 1) _ (by simp at h ⊢; omega)]
    congr 1
    have hl : k + n < cs.toList.length := by simp at h ⊢; omega
    rw [Array.toList_setIfInBounds, List.take_set, show k + (n + 1) = k + n + 1 by omega, List.take_add_one, List.getElem?_eq_getElem hl]
    rw [List.set_append_right _ _ (by simp; omega)]
    simp at h
    simp [show k + n - min (k + n) cs.size = 0 by omega]
theorem wr_fold (i : Nat) (s : Sec) : List.foldl (fun (cs : Array Value) (x : Value × Nat) => cs.setIfInBounds (1 + x.2) x.1) (Wr.zero.cells.toArray.setIfInBounds 0 (.int .i64 (i : Int))) s.cells.zipIdx = (Wr.cells ⟨i, s⟩).toArray := by
  rw [fold_set _ 1 0 _ (by simp [Wr.cells_length, Sec.cells_length])]
  rfl
@[go_sem] theorem wr_lit (i : Nat) (s : Sec) : List.foldl (fun (cs : Array Value) (x : Value × Nat) => cs.setIfInBounds (1 + x.2) x.1) (Try.zeroCells96.setIfInBounds 0 (.int .i64 (i : Int))) s.cells.zipIdx = (Wr.cells ⟨i, s⟩).toArray := by rw [zero_wr]; exact wr_fold i s
@[go_sem] theorem rwr_lit (i : Nat) (s : Sec) : List.foldl (fun (cs : Array Value) (x : Value × Nat) => cs.setIfInBounds (1 + x.2) x.1) (Try.zeroCells110.setIfInBounds 0 (.int .i64 (i : Int))) s.cells.zipIdx = (Wr.cells ⟨i, s⟩).toArray := by rw [zero_rwr]; exact wr_fold i s

end Go.Proofs.Ytecjhaohabjkbaa
