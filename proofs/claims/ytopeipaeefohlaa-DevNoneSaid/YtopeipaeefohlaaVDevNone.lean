/-
  For every deed and number a nil device answers so, and New of a size that may not be is nil: heliographlaw07.DevNone answers true, and both arguments read as before. No condition.
-/
import Derived.Test.YtopeipaeefohlaaRows
import Derived.ProofKit
import Derived.OpenShut
import Derived.ShutString
import Derived.ChangeOld
import Derived.Carry
import Derived.Test.YtopeipaeefohlaaD14
namespace Go.Proofs.Ytopeipaeefohlaa.vDevNone
open Go.ChangeShapes Go.WideShapes Go.ChangeAt Go.RowKit
open Go.ChangeMaps (open_string shut_string)
set_option linter.unusedVariables false

set_option maxHeartbeats 1000000 in
theorem walk (x : DeedD) (m : Int) (w : World) (hg : x.good w) (hm : (Lit.int .i64 m).wf = true) :
    Calls Try.prog 9 #[.agg #[.int .i64 x.kind, .int .i64 x.i, .int .u8 x.c, .slice x.S x.sv.length x.cS], .int .i64 m] w fun e w' => e = .returned (.bool true) ∧ Below w.heap.size w w' := by
  obtain ⟨kind, i, c, S, sv, cS⟩ := x
  clear hg hm
  obtain ⟨w0, hw0⟩ : ∃ w0, w0 = w.alloc (.cells #[.int .i64 kind, .int .i64 i, .int .u8 c, .slice S sv.length cS] 47) := ⟨_, rfl⟩
  have hbox : Blk w0 w.heap.size 47 #[.int .i64 kind, .int .i64 i, .int .u8 c, .slice S sv.length cS] := by subst hw0; exact Blk.new w _ _
  have hk0 : Keeps w w0 [] := by subst hw0; exact (Keeps.refl w []).alloc _
  have H0 := Lib.hid (And.intro hbox hk0)
  clear hbox hk0
  go_enter Try.func9, Try.ntmps9
  go_wp2_with fail
  rw [← hw0]
  clear hw0
  refine (read_nil w0 i).mono ?_
  rintro e w1 ⟨rfl, hk1⟩
  have hb1 := H0.out.1.keeps hk1 (by simp)
  have hm1 := may_new w1 29
  have hz2 := blk_stored w1 29 Sec.zero
  have hk2 := keeps_stored (Keeps.refl w1 []) 29 Sec.zero.cells Sec.zero.cells (Nat.le_refl _)
  have H2 := Lib.hid (And.intro (hb1.keeps hk2 (by simp)) (And.intro hz2 ((H0.out.2.trans hk1 (by simp)).trans hk2 (by simp))))
  clear hb1 hz2 hk2 hk1
  go_wp2_with fail
  refine (dlive_calls _).mono ?_
  rintro e w3 ⟨rfl, hk3⟩
  have hb3 := H2.out.1.keeps hk3 (by simp)
  have hz3 := H2.out.2.1.keeps hk3 (by simp)
  have c1 : w3.cell? ⟨w.heap.size, 1, none⟩ = some (.int .i64 i) := hb3.cell 1
  obtain ⟨r1, r2⟩ := row_of_range hz3.whole Sec.zero.cells_length
  have H3 := Lib.hid (And.intro hb3 (And.intro hz3 (H2.out.2.2.trans hk3 (by simp))))
  clear hb3 hz3 hk3
  go_wp2_with fail
  refine (write_nil w3 i Sec.zero).mono ?_
  rintro e w4 ⟨rfl, hk4⟩
  have hb4 := H3.out.1.keeps hk4 (by simp)
  have hz4 := H3.out.2.1.keeps hk4 (by simp)
  have c3 : w4.cell? ⟨w.heap.size, 3, none⟩ = some (.slice S sv.length cS) := hb4.cell 3
  obtain ⟨r3, r4⟩ := row_of_range hz4.whole Sec.zero.cells_length
  have H4 := Lib.hid (H3.out.2.2.trans hk4 (by simp))
  clear hb4 hz4 hk4
  go_wp2_with fail
  refine (sync_nil w4).mono ?_
  rintro e w5 ⟨rfl, rfl⟩
  go_wp2_with fail
  refine (crash_nil S sv.length cS w4).mono ?_
  rintro e w6 ⟨rfl, hk6⟩
  have H6 := Lib.hid (H4.out.trans hk6 (by simp))
  clear hk6
  go_wp2_with fail
  refine (size_nil w6).mono ?_
  rintro e w7 ⟨rfl, rfl⟩
  go_wp2_with fail
  refine (pending_nil w6).mono ?_
  rintro e w7 ⟨rfl, rfl⟩
  go_wp2_with fail
  refine (fork_nil w6).mono ?_
  rintro e w7 ⟨rfl, rfl⟩
  by_cases hlo : m < 1
  · go_wp2_with fail
    refine (dnew_nil m w6 (.inl hlo)).mono ?_
    rintro e w8 ⟨rfl, rfl⟩
    go_wp2_with fail
    go_ret
    exact ⟨by simp, H6.out.below (Nat.le_refl _) (by simp)⟩
  · have hlo' : 1 ≤ m := by omega
    by_cases hhi : 4096 < m
    · clear hlo
      go_wp2_with fail
      refine (dnew_nil m w6 (.inr hhi)).mono ?_
      rintro e w8 ⟨rfl, rfl⟩
      go_wp2_with fail
      go_ret
      exact ⟨by simp, H6.out.below (Nat.le_refl _) (by simp)⟩
    · have hhi' : m ≤ 4096 := by omega
      obtain ⟨q, rfl⟩ := Int.eq_ofNat_of_zero_le (show 0 ≤ m by omega)
      have HN := Lib.hid (dnew_ok q w6 (by omega) (by omega))
      clear hlo hhi
      go_wp2_with fail
      refine HN.out.mono ?_
      rintro e w8 ⟨b8, f8, rfl, -, hk8, -⟩
      have H8 := Lib.hid (H6.out.trans hk8 (by simp))
      clear hk8
      go_wp2_with fail
      go_ret
      exact ⟨by simp; omega, H8.out.below (Nat.le_refl _) (by simp)⟩

/-! ### the row (its frame is printed by gen.py; the walk is above) -/
theorem own : ownKnob Try.prog.godebug = none := by kernel_rfl
theorem laidOut : laidOutB Try.prog = true := by kernel_rfl
set_option maxRecDepth 100000 in
theorem lifted (os : Os) (started : os.Started) (H : Type) (enc : TypeId × Value → H) :
    ReturnsInHanded {} Try.checked os 9 .any (Rows.devNoneSpec.pre6 enc Try.prog Try.f9 Rows.devNoneRow.domain false) (Rows.devNoneSpec.post enc Try.prog Try.f9 false true false false) := by
  refine returnsInHanded_of_change (C := Try.checked) own started (by kernel_rfl) Try.func9
    (ChangeSpec.witness6 (enc := enc) (C := Try.checked) false ⟨#[], #[.agg #[.int .i64 0, .int .i64 0, .int .u8 0, .slice none 0 0], .int .i64 0], []⟩ 8 (by kernel_rfl) (by kernel_rfl) (by kernel_rfl) (by kernel_rfl)) ?_
  intro W base args ds gs before hval0 hW hcnd _
  have hval : ∀ (j : Nat) t v, Try.f9.params[j]? = some t → args[j]? = some v → Value.okWide Try.prog W .any base t v := hval0
  have hW' := hW
  obtain ⟨p, q, hA0, hV, rfl, hfz, hnd⟩ := hW
  have hA : DataW.TrodAll enc Try.prog W 0 (fun _ => true) true Try.f9.params.toList args.toList ds p := hA0
  rw [Try.params9] at hA hval
  obtain ⟨v0, vs0, d0, ds0, p0, q0, hargs, rfl, rfl, h0, r0⟩ := trodAll_cons hA
  obtain ⟨v1, vs1, d1, ds1, p1, q1, rfl, rfl, rfl, h1, r1⟩ := trodAll_cons r0
  obtain ⟨rfl, rfl, rfl⟩ := trodAll_nil r1
  obtain rfl : args = #[v0, v1] := by cases args; simp_all
  obtain ⟨rfl, rfl⟩ := trodVars_none hV
  have k0 := h0
  have lt0 : ∀ x ∈ p0, x.block < W.heap.size := by obtain ⟨m, hm⟩ := k0; exact DataW.trod_lt m _ _ _ hm
  obtain ⟨x0, rfl, w0⟩ := open_ddeed (hval 0 47 v0 rfl rfl) h0
  have k1 := h1
  have lt1 : ∀ x ∈ p1, x.block < W.heap.size := by obtain ⟨m, hm⟩ := k1; exact DataW.trod_lt m _ _ _ hm
  obtain ⟨x1, rfl, rfl, rfl, w1⟩ := open_int Try.underlying3 (hval 1 3 v1 rfl rfl) h1
  clear hA0 hval0
  refine (walk x0 x1 W w0 w1).mono fun e W' ⟨he, bel⟩ => ?_
  subst he
  exact ⟨_, rfl, _, _, _, [], _, [], hW', trodAll_mk1 (shut_bool Try.underlying4 _), (trodAll_cons_mk (Below.trod laidOut (by kernel_rfl) (of_decide_eq_true (by kernel_rfl)) k0 bel lt0) (trodAll_cons_mk (Below.trod laidOut (by kernel_rfl) (of_decide_eq_true (by kernel_rfl)) k1 bel lt1) trodAll_mk0)), rfl, bel.frame _, fun h => by cases h⟩

theorem over : Rows.devNoneRow.holds Try.pinned (OpenSpec.ofChange Rows.devNoneSpec) :=
  OpenClaim.holds_of_wide 9 Try.f9 rfl rfl rfl rfl rfl rfl rfl ⟨rfl, rfl, rfl, rfl, rfl⟩ rfl rfl rfl rfl rfl (by kernel_rfl) Try.func9 (by kernel_rfl)
    (of_decide_eq_true (by kernel_rfl)) (by unfold Func.isWrapper; first | (rw [if_pos (by decide +kernel)]; kernel_rfl) | (rw [if_neg (by decide +kernel)]; exact ⟨rfl, rfl⟩))
    (fun os started H enc _ => lifted os started H enc)

theorem proved : Rows.DevNoneSaid := over
#print axioms proved
end Go.Proofs.Ytopeipaeefohlaa.vDevNone
