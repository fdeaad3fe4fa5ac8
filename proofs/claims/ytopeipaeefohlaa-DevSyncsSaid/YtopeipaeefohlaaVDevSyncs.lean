/-
  For every number, every list of deeds and whatever survives, behind a Sync a Crash changes nothing: heliographlaw07.DevSyncs answers true, and the arguments read as before. No condition.
-/
import Derived.Test.YtopeipaeefohlaaRows
import Derived.ProofKit
import Derived.OpenShut
import Derived.ShutString
import Derived.ChangeOld
import Derived.Carry
import Derived.Test.YtopeipaeefohlaaD13
namespace Go.Proofs.Ytopeipaeefohlaa.vDevSyncs
open Go.ChangeShapes Go.WideShapes Go.ChangeAt Go.RowKit
open Go.ChangeMaps (open_string shut_string)
set_option linter.unusedVariables false

set_option maxHeartbeats 1000000 in
theorem walk (x : Int) (A : Option Addr) (n c : Nat) (ds : List DeedD) (B : Option Addr) (m c2 : Nat) (sv : List Bool) (f1 : List Nat) (w : World) (hx : (Lit.int .u8 x).wf = true) (hd : DDeeds w A n ds)
    (hs : Reads w 1 B m (sv.map Value.bool) f1) (hsn : sv.length = m) (hsl : m ≤ maxLen) :
    Calls Try.prog 5 #[.int .u8 x, .slice A n c, .slice B m c2] w fun e w' => e = .returned (.bool true) ∧ Below w.heap.size w w' := by
  obtain ⟨z, rfl, hz⟩ := u8_nat hx
  subst hsn
  clear hx
  have H0 := Lib.hid (play_calls z hz A n c ds w hd)
  have HS := Lib.hid (And.intro hs hsl)
  clear hd hs hsl
  go_enter Try.func5, Try.ntmps5
  go_wp2_with fail
  refine H0.out.mono ?_
  rintro e w1 ⟨bd, br, rfl, hF⟩
  have H1 := Lib.hid hF; clear hF H0
  go_wp2_with fail
  refine (dlive_calls w1).mono ?_
  rintro e w2 ⟨rfl, hk2⟩
  obtain ⟨l, loose, fd, fr, hB, -, hm, hK, hN⟩ := H1.out.nil hk2
  have H2 := Lib.hid (And.intro hB (And.intro hK hN)); clear hB hK hk2 hN H1
  go_wp2_with fail
  refine (sync_ok bd l _ loose fd w2 H2.out.1.d H2.out.1.small (by omega) H2.out.1.wi).mono ?_
  rintro e w3 ⟨fd3, rfl, hd3, hk3, hn3⟩
  have hK3 : Keeps w w3 [] := H2.out.2.1.trans hk3 (fun i hi h => by have := H2.out.2.2 i (by simp [h]); omega)
  have hr3 : RRep w3 br l loose fr := H2.out.1.r.keeps hk3 (fun k h1 h2 => H2.out.1.apart k h2 h1)
  have hN3 : ∀ k ∈ fd3, w.heap.size ≤ k := fun k hk => by
    rcases hn3 k hk with h | h
    · exact H2.out.2.2 k (by simp [h])
    · have := H2.out.2.1.size; omega
  have hap3 : ∀ k ∈ fd3, k ∉ fr := fun k hk h2 => by
    rcases hn3 k hk with h | h
    · exact H2.out.1.apart k h h2
    · have := H2.out.1.r.lt k h2; omega
  have H3 := Lib.hid (And.intro hd3 (And.intro hK3 (And.intro hr3 (And.intro hN3 hap3)))); clear hd3 hk3 hn3 hK3 hr3 hN3 hap3
  go_wp2_with fail
  refine (crash_ok B c2 sv f1 bd (land l loose) (land l loose) [] fd3 w3 H3.out.1 (HS.out.1.keeps H3.out.2.1 (by simp)) HS.out.2 (fun k h1 h2 => by have := HS.out.1.lt k h1; have := H3.out.2.2.2.1 k h2; omega) (by rw [land_length]; exact H2.out.1.small) (by simp) (by simp)).mono ?_
  intro e w4 h4
  have hsv : land (land l loose) (surv [] sv) = land l loose := rfl
  rw [hsv] at h4
  have hK4 : Keeps w w4 [] := by
    obtain ⟨-, -, -, hk, -⟩ := h4
    exact H3.out.2.1.trans hk (fun i hi h => by have := H3.out.2.2.2.1 i h; omega)
  have hr4 : RRep w4 br l loose fr := by
    obtain ⟨-, -, -, hk, -⟩ := h4
    exact H3.out.2.2.1.keeps hk (fun k h1 h2 => H3.out.2.2.2.2 k h2 h1)
  have H4 := Lib.hid (And.intro h4 (And.intro hK4 hr4))
  obtain ⟨-, rfl, -, -, -⟩ := h4
  clear hsv hK4 hr4
  go_wp2_with fail
  refine (rsync_ok br l loose fr w4 H4.out.2.2 H2.out.1.small (by omega) H2.out.1.wi).mono ?_
  intro e w5 h5
  have hB5 : ∃ fd5 fr5, DBoth w5 bd br (land l loose) [] fd5 fr5 ∧ Keeps w w5 [] := by
    obtain ⟨fd4, -, hd4, hk4, hn4⟩ := H4.out.1
    obtain ⟨fr5, -, hr5, hk5, hn5⟩ := h5
    have hap4 : ∀ k ∈ fd4, k ∉ fr := fun k hk h2 => by
      rcases hn4 k hk with h | h
      · exact H3.out.2.2.2.2 k h h2
      · have := H3.out.2.2.1.lt k h2; omega
    refine ⟨fd4, fr5, ⟨hd4.keeps hk5 hap4, hr5, by simp, by rw [land_length]; exact H2.out.1.small, fun k h1 h2 => ?_⟩, H4.out.2.1.trans hk5 (fun i hi h => by have := H2.out.2.2 i (by simp [h]); omega)⟩
    rcases hn5 k h2 with h | h
    · exact hap4 k h1 h
    · have := hd4.lt k h1; omega
  obtain ⟨-, rfl, -, -, -⟩ := h5
  obtain ⟨fd5, fr5, hB5, hK5⟩ := hB5
  have H5 := Lib.hid (And.intro hB5 hK5); clear hB5 hK5
  go_wp2_with fail
  refine (same_calls bd br _ _ fd5 fr5 w5 H5.out.1 (by simp)).mono ?_
  rintro e w6 ⟨rfl, hk6⟩
  have H6 := Lib.hid (H5.out.2.trans hk6 (by simp)); clear hk6
  go_wp2_with fail
  go_ret
  exact ⟨rfl, H6.out.below (Nat.le_refl _) (by simp)⟩

/-! ### the row (its frame is printed by gen.py; the walk is above) -/
theorem own : ownKnob Try.prog.godebug = none := by kernel_rfl
theorem laidOut : laidOutB Try.prog = true := by kernel_rfl
set_option maxRecDepth 100000 in
theorem lifted (os : Os) (started : os.Started) (H : Type) (enc : TypeId × Value → H) :
    ReturnsInHanded {} Try.checked os 5 .any (Rows.devSyncsSpec.pre6 enc Try.prog Try.f5 Rows.devSyncsRow.domain false) (Rows.devSyncsSpec.post enc Try.prog Try.f5 false true false false) := by
  refine returnsInHanded_of_change (C := Try.checked) own started (by kernel_rfl) Try.func5
    (ChangeSpec.witness6 (enc := enc) (C := Try.checked) false ⟨#[], #[.int .u8 0, .slice none 0 0, .slice none 0 0], []⟩ 8 (by kernel_rfl) (by kernel_rfl) (by kernel_rfl) (by kernel_rfl)) ?_
  intro W base args ds gs before hval0 hW hcnd _
  have hval : ∀ (j : Nat) t v, Try.f5.params[j]? = some t → args[j]? = some v → Value.okWide Try.prog W .any base t v := hval0
  have hW' := hW
  obtain ⟨p, q, hA0, hV, rfl, hfz, hnd⟩ := hW
  have hA : DataW.TrodAll enc Try.prog W 0 (fun _ => true) true Try.f5.params.toList args.toList ds p := hA0
  rw [Try.params5] at hA hval
  obtain ⟨v0, vs0, d0, ds0, p0, q0, hargs, rfl, rfl, h0, r0⟩ := trodAll_cons hA
  obtain ⟨v1, vs1, d1, ds1, p1, q1, rfl, rfl, rfl, h1, r1⟩ := trodAll_cons r0
  obtain ⟨v2, vs2, d2, ds2, p2, q2, rfl, rfl, rfl, h2, r2⟩ := trodAll_cons r1
  obtain ⟨rfl, rfl, rfl⟩ := trodAll_nil r2
  obtain rfl : args = #[v0, v1, v2] := by cases args; simp_all
  obtain ⟨rfl, rfl⟩ := trodVars_none hV
  have k0 := h0
  have lt0 : ∀ x ∈ p0, x.block < W.heap.size := by obtain ⟨m, hm⟩ := k0; exact DataW.trod_lt m _ _ _ hm
  obtain ⟨x0, rfl, rfl, rfl, w0⟩ := open_int Try.underlying5 (hval 0 5 v0 rfl rfl) h0
  have k1 := h1
  have lt1 : ∀ x ∈ p1, x.block < W.heap.size := by obtain ⟨m, hm⟩ := k1; exact DataW.trod_lt m _ _ _ hm
  obtain ⟨a1, len1, cap1, rfl⟩ := okWide_slice Try.underlying36 (hval 1 36 v1 rfl rfl)
  obtain ⟨fuel1, hf1⟩ := h1
  obtain ⟨x1, w1⟩ := open_ddeeds (by simpa [Value.cells] using hf1)
  have k2 := h2
  have lt2 : ∀ x ∈ p2, x.block < W.heap.size := by obtain ⟨m, hm⟩ := k2; exact DataW.trod_lt m _ _ _ hm
  obtain ⟨a2, len2, cap2, rfl⟩ := okWide_slice Try.underlying23 (hval 2 23 v2 rfl rfl)
  obtain ⟨fuel2, hf2⟩ := h2
  obtain ⟨x2, fp2, w2, wn2, wl2⟩ := open_reads_bools (enc := enc) (P := Try.prog) Try.underlying23 Try.underlying4 (by kernel_rfl) (by simpa [Value.cells] using hf2)
  clear hA0 hval0
  refine (walk x0 a1 len1 cap1 x1 a2 len2 cap2 x2 fp2 W w0 w1 w2 wn2 wl2).mono fun e W' ⟨he, bel⟩ => ?_
  subst he
  exact ⟨_, rfl, _, _, _, [], _, [], hW', trodAll_mk1 (shut_bool Try.underlying4 _), (trodAll_cons_mk (Below.trod laidOut (by kernel_rfl) (of_decide_eq_true (by kernel_rfl)) k0 bel lt0) (trodAll_cons_mk (Below.trod laidOut (by kernel_rfl) (of_decide_eq_true (by kernel_rfl)) k1 bel lt1) (trodAll_cons_mk (Below.trod laidOut (by kernel_rfl) (of_decide_eq_true (by kernel_rfl)) k2 bel lt2) trodAll_mk0))), rfl, bel.frame _, fun h => by cases h⟩

theorem over : Rows.devSyncsRow.holds Try.pinned (OpenSpec.ofChange Rows.devSyncsSpec) :=
  OpenClaim.holds_of_wide 5 Try.f5 rfl rfl rfl rfl rfl rfl rfl ⟨rfl, rfl, rfl, rfl, rfl⟩ rfl rfl rfl rfl rfl (by kernel_rfl) Try.func5 (by kernel_rfl)
    (of_decide_eq_true (by kernel_rfl)) (by unfold Func.isWrapper; first | (rw [if_pos (by decide +kernel)]; kernel_rfl) | (rw [if_neg (by decide +kernel)]; exact ⟨rfl, rfl⟩))
    (fun os started H enc _ => lifted os started H enc)

theorem proved : Rows.DevSyncsSaid := over
#print axioms proved
end Go.Proofs.Ytopeipaeefohlaa.vDevSyncs
