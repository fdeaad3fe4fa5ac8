/-
  For all bytes the check sum is the document's: heliographlaw08.SlotsSums answers true, and the bytes read as before. No condition.
-/
import Derived.Test.YtecjhaohabjkbaaRows
import Derived.ProofKit
import Derived.OpenShut
import Derived.ShutString
import Derived.ChangeOld
import Derived.Carry
import Derived.Test.YtecjhaohabjkbaaP18
namespace Go.Proofs.Ytecjhaohabjkbaa.vSlotsSums
open Go.ChangeShapes Go.WideShapes Go.ChangeAt Go.RowKit
open Go.ChangeMaps (open_string shut_string)
set_option linter.unusedVariables false

set_option maxHeartbeats 1000000 in set_option maxRecDepth 100000 in
theorem walk (A : Option Addr) (n c : Nat) (b : List Int) (fp : List Nat) (w : World) (hr : Reads w 1 A n (bytes b) fp) (hl : b.length = n) (hwf : Wf8 b) (hc : n ≤ c) (hm : c ≤ maxLen) :
    Calls Try.prog 4 #[.slice A n c] w fun e w' => e = .returned (.bool true) ∧ Below w.heap.size w w' := by
  have hfew := few_calls A n c w (by omega) hc hm
  obtain ⟨f7, hr7, -⟩ := hr.take (k := min n 700) (by omega)
  obtain ⟨n7, hn7⟩ : ∃ n7, n7 = min n 700 := ⟨_, rfl⟩
  rw [← hn7] at hr7 hfew
  have e7 : (bytes b).take (n7 * 1) = bytes (b.take n7) := by
    rw [Nat.mul_one]
    exact List.map_take.symm
  rw [e7] at hr7
  obtain ⟨b7, hb7⟩ : ∃ b7, b7 = b.take n7 := ⟨_, rfl⟩
  have hwf7 : Wf8 b7 := by rw [hb7]; exact hwf.take n7
  rw [← hb7] at hr7
  have H := Lib.hid (And.intro hfew (And.intro hr7 (And.intro hwf7 (show n7 ≤ 700 by omega))))
  clear hfew hr7 hwf7 hr hl hwf hc hm hn7 e7 hb7
  go_enter Try.func4, Try.ntmps4
  go_wp2_with fail
  refine H.out.1.mono ?_
  rintro e w1 ⟨rfl, rfl⟩
  go_wp2_with fail
  refine (live_calls w).mono ?_
  rintro e w2 ⟨rfl, hk2⟩
  have H2 := Lib.hid hk2; clear hk2
  go_wp2_with fail
  refine (sum_calls A n7 c b7 f7 _ (H.out.2.1.keeps H2.out (by simp)) H.out.2.2.1 (by have := H.out.2.2.2; omega)).mono ?_
  rintro e w3 ⟨rfl, rfl⟩
  go_wp2_with fail
  refine (rsum_calls A n7 c b7 f7 _ (H.out.2.1.keeps H2.out (by simp)) H.out.2.2.1 (by have := H.out.2.2.2; omega)).mono ?_
  rintro e w3 ⟨rfl, rfl⟩
  go_wp2_with fail
  go_ret
  exact ⟨by simp, H2.out.below (Nat.le_refl _) (by simp)⟩

/-! ### the row (its frame is printed by gen.py; the walk is above) -/
theorem own : ownKnob Try.prog.godebug = none := by kernel_rfl
theorem laidOut : laidOutB Try.prog = true := by kernel_rfl
set_option maxRecDepth 100000 in
theorem lifted (os : Os) (started : os.Started) (H : Type) (enc : TypeId × Value → H) :
    ReturnsInHanded {} Try.checked os 4 .any (Rows.slotsSumsSpec.pre6 enc Try.prog Try.f4 Rows.slotsSumsRow.domain false) (Rows.slotsSumsSpec.post enc Try.prog Try.f4 false true false false) := by
  refine returnsInHanded_of_change (C := Try.checked) own started (by kernel_rfl) Try.func4
    (ChangeSpec.witness6 (enc := enc) (C := Try.checked) false ⟨#[], #[.slice none 0 0], []⟩ 8 (by kernel_rfl) (by kernel_rfl) (by kernel_rfl) (by kernel_rfl)) ?_
  intro W base args ds gs before hval0 hW hcnd _
  have hval : ∀ (j : Nat) t v, Try.f4.params[j]? = some t → args[j]? = some v → Value.okWide Try.prog W .any base t v := hval0
  have hW' := hW
  obtain ⟨p, q, hA0, hV, rfl, hfz, hnd⟩ := hW
  have hA : DataW.TrodAll enc Try.prog W 0 (fun _ => true) true Try.f4.params.toList args.toList ds p := hA0
  rw [Try.params4] at hA hval
  obtain ⟨v0, vs0, d0, ds0, p0, q0, hargs, rfl, rfl, h0, r0⟩ := trodAll_cons hA
  obtain ⟨rfl, rfl, rfl⟩ := trodAll_nil r0
  obtain rfl : args = #[v0] := by cases args; simp_all
  obtain ⟨rfl, rfl⟩ := trodVars_none hV
  have k0 := h0
  have lt0 : ∀ x ∈ p0, x.block < W.heap.size := by obtain ⟨m, hm⟩ := k0; exact DataW.trod_lt m _ _ _ hm
  obtain ⟨a0, len0, cap0, rfl⟩ := okWide_slice Try.underlying22 (hval 0 22 v0 rfl rfl)
  obtain ⟨fuel0, hf0⟩ := h0
  obtain ⟨x0, fp0, w0, wl0, wf0, wc0, wm0⟩ := open_bytes8 (enc := enc) (P := Try.prog) Try.underlying22 Try.underlying5 (by kernel_rfl) (by simpa [Value.cells] using hf0)
  clear hA0 hval0
  refine (walk a0 len0 cap0 x0 fp0 W w0 wl0 wf0 wc0 wm0).mono fun e W' ⟨he, bel⟩ => ?_
  subst he
  exact ⟨_, rfl, _, _, _, [], _, [], hW', trodAll_mk1 (shut_bool Try.underlying4 _), (trodAll_cons_mk (Below.trod laidOut (by kernel_rfl) (of_decide_eq_true (by kernel_rfl)) k0 bel lt0) trodAll_mk0), rfl, bel.frame _, fun h => by cases h⟩

theorem over : Rows.slotsSumsRow.holds Try.pinned (OpenSpec.ofChange Rows.slotsSumsSpec) :=
  OpenClaim.holds_of_wide 4 Try.f4 rfl rfl rfl rfl rfl rfl rfl ⟨rfl, rfl, rfl, rfl, rfl⟩ rfl rfl rfl rfl rfl (by kernel_rfl) Try.func4 (by kernel_rfl)
    (of_decide_eq_true (by kernel_rfl)) (by unfold Func.isWrapper; first | (rw [if_pos (by decide +kernel)]; kernel_rfl) | (rw [if_neg (by decide +kernel)]; exact ⟨rfl, rfl⟩))
    (fun os started H enc _ => lifted os started H enc)

theorem proved : Rows.SlotsSumsSaid := over
#print axioms proved
end Go.Proofs.Ytecjhaohabjkbaa.vSlotsSums
