/-
  For every condition: its name is a name, and stays what it is when it is escaped; so is its type: heliographtop.TopNames answers true. No condition.
-/
import Derived.Test.YtbfcgiodpcchnaaRows
import Derived.ProofKit
import Derived.OpenShut
import Derived.ShutString
import Derived.ChangeOld
import Derived.Carry
import Derived.Test.YtbfcgiodpcchnaaN2
import Derived.Test.YtbfcgiodpcchnaaN3
namespace Go.Proofs.Ytbfcgiodpcchnaa.vTopNames
open Go.ChangeShapes Go.WideShapes Go.ChangeAt Go.RowKit
open Go.ChangeMaps (open_string shut_string)
set_option linter.unusedVariables false

instance (i c : Nat) : Decidable (nameC i c) := by unfold nameC; infer_instance
instance (s : ByteArray) : Decidable (isName s) := by unfold isName; infer_instance
theorem cond_ok : ∀ c, c ≤ 10 → 1 ≤ c → isName (condName c) ∧ isName (condType c) ∧ (∀ i, i < (condName c).size → plainC (byteAt (condName c) i)) := by decide +kernel

set_option maxHeartbeats 1600000 in
theorem walk (x : Int) (w : World) (hx : (Lit.int .u8 x).wf = true) :
    Calls Try.prog 3 #[.int .u8 x] w fun e w' => e = .returned (.bool true) ∧ Below w.heap.size w w' := by
  obtain ⟨z, rfl, hz⟩ : ∃ z : Nat, x = z ∧ z < 256 := by
    obtain ⟨h0, h1⟩ := bounds_u8 hx
    exact ⟨x.toNat, by omega, by omega⟩
  clear hx
  obtain ⟨m, hm⟩ : ∃ m, m = z % 10 := ⟨_, rfl⟩
  have hme : (z : Int) % 10 = (m : Int) := by omega
  have hz0 : (0 : Int) ≤ (z : Int) := by omega
  have hz1 : (z : Int) < 256 := by omega
  obtain ⟨c, hc⟩ : ∃ c, c = m + 1 := ⟨_, rfl⟩
  have hce : (m : Int) + 1 = (c : Int) := by omega
  have hm10 : (m : Int) < 10 := by omega
  obtain ⟨hn, ht, hp⟩ := cond_ok c (by omega) (by omega)
  have hsz : (condName c).size ≤ 100000 := by have := hn.2.2; omega
  have HN := Lib.hid (And.intro (fun wx => fname_calls c wx (by omega) (by omega)) (And.intro (fun wx => fparse_calls c wx (by omega) (by omega)) (And.intro (fun wx => name_calls (condName c) wx hn) (And.intro (fun wx => escape_calls (condName c) wx hp hsz) (And.intro (fun wx => ftype_calls c wx (by omega) (by omega)) (fun wx => name_calls (condType c) wx ht))))))
  clear hn ht hp hsz hm hc hz
  go_enter Try.func3, Try.ntmps3
  go_wp2_with fail
  refine (HN.out.1 w).mono ?_
  rintro e w1 ⟨rfl, hk1⟩
  have HK1 := Lib.hid hk1; clear hk1
  go_wp2_with fail
  refine (HN.out.2.1 w1).mono ?_
  rintro e w2 ⟨rfl, hk2⟩
  have HK2 := Lib.hid (HK1.out.trans hk2 (by simp)); clear hk2
  go_wp2_with fail
  refine (HN.out.2.2.1 w2).mono ?_
  rintro e w3 ⟨rfl, rfl⟩
  go_wp2_with fail
  refine (HN.out.2.2.2.1 w2).mono ?_
  rintro e w3 ⟨rfl, hk3⟩
  have HK3 := Lib.hid (HK2.out.trans hk3 (by simp)); clear hk3
  go_wp2_with fail
  refine (HN.out.2.2.2.2.1 w3).mono ?_
  rintro e w4 ⟨rfl, hk4⟩
  have HK4 := Lib.hid (HK3.out.trans hk4 (by simp)); clear hk4
  go_wp2_with fail
  refine (HN.out.2.2.2.2.2 w4).mono ?_
  rintro e w5 ⟨rfl, rfl⟩
  go_wp2_with fail
  go_ret
  exact ⟨by simp, HK4.out.below (Nat.le_refl _) (by simp)⟩

/-! ### the row (its frame is printed by gen.py; the walk is above) -/
theorem own : ownKnob Try.prog.godebug = none := by kernel_rfl
theorem laidOut : laidOutB Try.prog = true := by kernel_rfl
set_option maxRecDepth 100000 in
theorem lifted (os : Os) (started : os.Started) (H : Type) (enc : TypeId × Value → H) :
    ReturnsInHanded {} Try.checked os 3 .any (Rows.topNamesSpec.pre6 enc Try.prog Try.f3 Rows.topNamesRow.domain false) (Rows.topNamesSpec.post enc Try.prog Try.f3 false true false false) := by
  refine returnsInHanded_of_change (C := Try.checked) own started (by kernel_rfl) Try.func3
    (ChangeSpec.witness6 (enc := enc) (C := Try.checked) false ⟨#[], #[.int .u8 0], []⟩ 8 (by kernel_rfl) (by kernel_rfl) (by kernel_rfl) (by kernel_rfl)) ?_
  intro W base args ds gs before hval0 hW hcnd _
  have hval : ∀ (j : Nat) t v, Try.f3.params[j]? = some t → args[j]? = some v → Value.okWide Try.prog W .any base t v := hval0
  have hW' := hW
  obtain ⟨p, q, hA0, hV, rfl, hfz, hnd⟩ := hW
  have hA : DataW.TrodAll enc Try.prog W 0 (fun _ => true) true Try.f3.params.toList args.toList ds p := hA0
  rw [Try.params3] at hA hval
  obtain ⟨v0, vs0, d0, ds0, p0, q0, hargs, rfl, rfl, h0, r0⟩ := trodAll_cons hA
  obtain ⟨rfl, rfl, rfl⟩ := trodAll_nil r0
  obtain rfl : args = #[v0] := by cases args; simp_all
  obtain ⟨rfl, rfl⟩ := trodVars_none hV
  have k0 := h0
  have lt0 : ∀ x ∈ p0, x.block < W.heap.size := by obtain ⟨m, hm⟩ := k0; exact DataW.trod_lt m _ _ _ hm
  obtain ⟨x0, rfl, rfl, rfl, w0⟩ := open_int Try.underlying5 (hval 0 5 v0 rfl rfl) h0
  clear hA0 hval0
  refine (walk x0 W w0).mono fun e W' ⟨he, bel⟩ => ?_
  subst he
  exact ⟨_, rfl, _, _, _, [], _, [], hW', trodAll_mk1 (shut_bool Try.underlying4 _), (trodAll_cons_mk (Below.trod laidOut (by kernel_rfl) (of_decide_eq_true (by kernel_rfl)) k0 bel lt0) trodAll_mk0), rfl, bel.frame _, fun h => by cases h⟩

theorem over : Rows.topNamesRow.holds Try.pinned (OpenSpec.ofChange Rows.topNamesSpec) :=
  OpenClaim.holds_of_wide 3 Try.f3 rfl rfl rfl rfl rfl rfl rfl ⟨rfl, rfl, rfl, rfl, rfl⟩ rfl rfl rfl rfl rfl (by kernel_rfl) Try.func3 (by kernel_rfl)
    (of_decide_eq_true (by kernel_rfl)) (by unfold Func.isWrapper; first | (rw [if_pos (by decide +kernel)]; kernel_rfl) | (rw [if_neg (by decide +kernel)]; exact ⟨rfl, rfl⟩))
    (fun os started H enc _ => lifted os started H enc)

theorem proved : Rows.TopNamesSaid := over
#print axioms proved
end Go.Proofs.Ytbfcgiodpcchnaa.vTopNames
