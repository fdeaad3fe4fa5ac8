/-
  TOKENS IN MEMORY; slices.Clone of attributes and of tokens.
-/
import Derived.Test.YtbfcgiodpcchnaaW5
import Derived.Test.YtbfcgiodpcchnaaSec
namespace Go.Proofs.Ytbfcgiodpcchnaa
open Go.RowKit
set_option linter.unusedVariables false

abbrev AL := List (ByteArray × ByteArray)
def attrC (p : ByteArray × ByteArray) : List Value := [.string p.1, .string p.2]
def attrsC (l : AL) : List Value := l.flatMap attrC
theorem attrC_length (p : ByteArray × ByteArray) : (attrC p).length = 2 := rfl
theorem attrsC_one (l : AL) : ∀ v ∈ attrsC l, v.oneCell' = true := by
  intro v hv
  obtain ⟨p, _, h⟩ := List.mem_flatMap.1 hv
  simp [attrC] at h
  rcases h with rfl | rfl <;> rfl
theorem info_attr : (Try.prog.info? 56).map (fun i => (i.zero, i.size, i.bytes)) = some (some (.agg #[.string ⟨#[]⟩, .string ⟨#[]⟩]), 2, 32) := by kernel_rfl
/-- what a Clone leaves. -/
def NewAttrs (w : World) (l : AL) (e : Ending) (w' : World) : Prop :=
  ∃ v fv, e = .returned v ∧ Own w' 56 2 v l.length (attrsC l) fv ∧ Keeps w w' [] ∧ ∀ k ∈ fv, w.heap.size ≤ k
set_option maxHeartbeats 400000 in
theorem clone_attrs (A : Option Addr) (c : Nat) (l : AL) (fp : List Nat) (w : World) (hr : Reads w 2 A l.length (attrsC l) fp) (hn : l.length ≤ 1000) :
    Calls Try.prog 27 #[.slice A l.length c] w (NewAttrs w l) := by
  obtain ⟨i0, hi, hz0, hz1, hz2⟩ := info_parts info_attr
  have heq := fun (w : World) (a : Option Addr) (n c : Nat) => Lib.run_eql_slice_nil (P := Try.prog) w 57 56 a n c 0 0 Try.underlying57
  cases A with
  | none =>
    obtain rfl : l = [] := by
      rcases hr.2 with ⟨h, _⟩ | ⟨ad, h, _⟩
      · exact List.eq_nil_of_length_eq_zero h
      · cases h
    go_enter Try.func27, Try.ntmps27
    go_wp2_with fail
    go_ret
    exact ⟨_, [], rfl, Own.bare _ _ _ _, Keeps.refl _ _, by simp⟩
  | some ad =>
    go_enter Try.func27, Try.ntmps27
    go_wp2_with (at_builtin; refine wpList_append_mine _ rfl (.tmp 5) (.tmp 6) _ _ rfl 56 i0 _ 2 32 Try.underlying57 hi hz0 hz1 hz2 rfl _ 0 [] [] rfl (Own.bare _ _ _ _) _ l.length (attrsC l) rfl ?src ?c1 ?c2 ?next)
    case src => exact (hr.to (by simp) (fun k hk => Below.heap_alloc _ _ _ (hr.lt k hk))).src Try.underlying57 (attrsC_one l) c
    case c1 => unfold maxLen; omega
    case c2 => omega
    case next =>
      intro v w1 fv hown hkeep hfv
      go_wp2_with fail
      go_ret
      refine ⟨_, fv, rfl, by simpa using hown, ((Keeps.refl w []).alloc _).trans hkeep (by simp), fun k hk => ?_⟩
      have := hfv k hk
      omega

end Go.Proofs.Ytbfcgiodpcchnaa
