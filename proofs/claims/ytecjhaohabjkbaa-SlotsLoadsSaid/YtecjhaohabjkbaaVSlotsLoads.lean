/-
  For every number, every list of deeds and all bytes: Load of Save are the bytes and the turn is one more; what has no room changes nothing: heliographlaw08.SlotsLoads answers true, and what came in reads as before. No condition.
-/
import Derived.Test.YtecjhaohabjkbaaRows
import Derived.ProofKit
import Derived.OpenShut
import Derived.ShutString
import Derived.ChangeOld
import Derived.Carry
import Derived.Test.YtecjhaohabjkbaaP18
namespace Go.Proofs.Ytecjhaohabjkbaa.vSlotsLoads
open Go.ChangeShapes Go.WideShapes Go.ChangeAt Go.RowKit
open Go.ChangeMaps (open_string shut_string)
set_option linter.unusedVariables false

set_option maxHeartbeats 3200000 in set_option maxRecDepth 100000 in
set_option maxRecDepth 100000 in
theorem walk (x : Int) (A : Option Addr) (n c : Nat) (ds : List SDeed) (B : Option Addr) (bn cB : Nat) (b : List Int) (fB : List Nat) (w : World) (hx : (Lit.int .u8 x).wf = true) (hd : SDeeds w A n ds)
    (hr : Reads w 1 B bn (bytes b) fB) (hl : b.length = bn) (hwf : Wf8 b) (hc : bn ≤ cB) (hm : cB ≤ maxLen) :
    Calls Try.prog 5 #[.int .u8 x, .slice A n c, .slice B bn cB] w fun e w' => e = .returned (.bool true) ∧ Below w.heap.size w w' := by
  obtain ⟨z, rfl, hz⟩ := u8_nat hx
  clear hx
  obtain ⟨m, hm0⟩ : ∃ m, m = z % 16 + 4 := ⟨_, rfl⟩
  have hplay := pplay_calls z hz A n c ds _ hd
  rw [← hm0] at hplay
  have hbm : bn ≤ maxLen := by omega
  have H0 := Lib.hid (And.intro hplay (And.intro hr (And.intro hl (And.intro hwf (And.intro hc hbm)))))
  clear hd hm0 hplay hr hl hwf hc hm hbm hz
  go_enter Try.func5, Try.ntmps5
  go_wp2_with fail
  refine H0.out.1.mono ?_
  rintro e w1 ⟨gs, bs, gr, br, rfl, hF⟩
  have H1 := Lib.hid hF; clear hF
  go_wp2_with fail
  refine (live_calls w1).mono ?_
  rintro e w2 ⟨rfl, hk2⟩
  obtain ⟨l, cb, ct, fs, fr, hB, hl, hct, hK, hN⟩ := H1.out.nil hk2
  have H2 := Lib.hid (show St w2 gs bs l [] fs ∧ Good l cb ct ∧ Keeps w w2 [] ∧ ct ≤ 20 ∧ (∀ k ∈ fs, w.heap.size ≤ k) from ⟨hB.s, hB.good, hK, hct, fun k hk => hN k (by simp [hk])⟩)
  clear hB hK hk2 hN H1 hct hl
  have hld : ∀ wx (l' : List Sec) (cb' : List Int) (ct' : Nat) f', St wx gs bs l' [] f' → Good l' cb' ct' → Calls Try.prog 20 #[.pointer (some ⟨gs, 0, none⟩)] wx (LoadLeft wx cb') := fun wx l' cb' ct' f' hs hg => by
    have := load_calls gs bs l' [] f' wx hs (hg.fit.mono (by omega))
    rw [show land l' [] = l' from rfl, hg.best] at this
    exact this
  have htn : ∀ wx (l' : List Sec) (cb' : List Int) (ct' : Nat) f', St wx gs bs l' [] f' → Good l' cb' ct' → Calls Try.prog 21 #[.pointer (some ⟨gs, 0, none⟩)] wx (fun e w' => e = .returned (.int .u64 ct') ∧ Keeps wx w' []) := fun wx l' cb' ct' f' hs hg => by
    have := turn_calls gs bs l' [] f' wx hs (hg.fit.mono (by omega))
    rw [show land l' [] = l' from rfl, hg.best] at this
    exact this
  have hrm : ∀ wx (l' : List Sec) (cb' : List Int) (ct' : Nat) f', St wx gs bs l' [] f' → Good l' cb' ct' → Calls Try.prog 27 #[.pointer (some ⟨gs, 0, none⟩)] wx (fun e w' => e = .returned (.int .i64 (halfOf l' * 64 : Nat)) ∧ wx = w') := fun wx l' cb' ct' f' hs hg => room_calls gs bs l' [] f' wx hs (hg.fit.mono (by omega))
  have HC := Lib.hid (And.intro hld (And.intro htn hrm))
  clear hld htn hrm
  go_wp2_with fail
  go_region_held_law (fun w' => True) (trivial)
    (first
      | (go_at_call 20
         refine Calls.mono (HC.out.1 _ l cb ct fs (H2.out.1.nil (Keeps.refl w2 []).drew) H2.out.2.1) ?_
         rintro e w3 ⟨A3, c3, f3, rfl, hr3, hf3, hk3⟩
         have kx3 := str_reads w3 A3 cb.length c3 cb f3 hr3
         have H3 := Lib.hid (show St w3 gs bs l [] fs ∧ Keeps w w3 [] ∧ Reads w3 1 A3 cb.length (bytes cb) f3 from ⟨(H2.out.1.nil (Keeps.refl w2 []).drew).nil hk3, (H2.out.2.2.1.trans (fp1 := []) (Keeps.refl w2 []).drew (by simp)).trans (fp1 := []) hk3 (by simp), hr3⟩)
         clear hr3 hf3 hk3)
      | (go_at_call 21
         refine Calls.mono (HC.out.2.1 _ l cb ct fs H3.out.1 H2.out.2.1) ?_
         rintro e w4 ⟨rfl, hk4⟩
         have kx4 := str_reads w4 A3 cb.length c3 cb f3 (H3.out.2.2.keeps hk4 (by simp))
         have H4 := Lib.hid (show St w4 gs bs l [] fs ∧ Keeps w w4 [] from ⟨H3.out.1.nil hk4, H3.out.2.1.trans (fp1 := []) hk4 (by simp)⟩)
         clear hk4))
  all_goals
    obtain ⟨R, hR⟩ : ∃ R, R = halfOf l * 64 := ⟨_, rfl⟩
    obtain ⟨hr, hlb, hwf, hcb, hbm⟩ := H0.out.2
    have hr4 := hr.keeps H4.out.2 (by simp)
    have hdis : ∀ k ∈ fB, k ∉ fs := fun k h1 h2 => by
      have := hr.lt k h1
      have := H2.out.2.2.2.2 k h2
      omega
    have hct := H2.out.2.2.2.1
    by_cases hfull : R < bn
    · have hsv := saveM_full gs bs l [] fs w4 B bn cB H4.out.1 (H2.out.2.1.fit.mono (by omega)) hbm (by omega)
      have hRb : (R : Int) < (bn : Int) := by omega
      have HS := Lib.hid (And.intro hsv hR)
      clear hsv hr hlb hwf hcb hbm hr4 hdis hct hfull hR kx3 kx4
      go_wp2_with fail
      refine HS.out.1.mono ?_
      rintro e w5 ⟨rfl, rfl⟩
      go_wp2_with fail
      have hrm := HC.out.2.2 _ l cb ct fs H4.out.1 H2.out.2.1
      rw [← HS.out.2] at hrm
      refine hrm.mono ?_
      rintro e w5 ⟨rfl, rfl⟩
      clear hrm
      go_wp2_with fail
      refine Calls.mono (HC.out.1 _ l cb ct fs H4.out.1 H2.out.2.1) ?_
      rintro e w6 ⟨A6, c6, f6, rfl, hr6, hf6, hk6⟩
      have kx6 := str_reads w6 A6 cb.length c6 cb f6 hr6
      have H6 := Lib.hid (show St w6 gs bs l [] fs ∧ Keeps w w6 [] from ⟨H4.out.1.nil hk6, H4.out.2.trans (fp1 := []) hk6 (by simp)⟩)
      clear hr6 hf6 hk6
      go_wp2_with fail
      refine Calls.mono (HC.out.2.1 _ l cb ct fs H6.out.1 H2.out.2.1) ?_
      rintro e w7 ⟨rfl, hk7⟩
      have H7 := Lib.hid (H6.out.2.trans (fp1 := []) hk7 (by simp))
      clear hk7
      go_wp2_with fail
      go_ret
      exact ⟨by simp, H7.out.below (Nat.le_refl _) (by simp)⟩
    · obtain ⟨hp1, hg1⟩ := H2.out.2.1.save hwf (by rw [hlb]; omega) (by omega)
      have hsv := saveM_ok gs bs l [] fs w4 B bn cB b fB H4.out.1 (H2.out.2.1.fit.mono (by omega)) hr4 hwf hdis (by omega) hcb (by rw [show land l [] = l from rfl, H2.out.2.1.best]; show ct + 1 < _; omega)
      have hl1 : (saveTo l [] b none).1.length = l.length := saveTo_length _ _ _ _
      rw [hp1] at hsv
      obtain ⟨l1, hl1e⟩ : ∃ l1, l1 = (saveTo l [] b none).1 := ⟨_, rfl⟩
      rw [← hl1e] at hsv hg1 hl1
      have hR1 : halfOf l1 * 64 = R := by rw [hR]; unfold halfOf; rw [hl1]
      obtain ⟨ct1, hct1⟩ : ∃ ct1, ct1 = ct + 1 := ⟨_, rfl⟩
      have hwr : IntKind.u64.wrap ((ct : Int) + 1) = (ct1 : Int) := by rw [IntKind.wrap_u64]; omega
      have hRb : (bn : Int) ≤ (R : Int) := by omega
      rw [← hct1] at hg1
      have HS := Lib.hid (And.intro hsv (And.intro hg1 hR1))
      clear hsv hg1 hR1 hl1 hl1e hp1 hct1 hr hlb hwf hcb hbm hr4 hdis hct hfull hR kx3 kx4
      go_wp2_with fail
      refine HS.out.1.mono ?_
      rintro e w5 ⟨rfl, f5, hs5, hk5, hn5⟩
      have hK5 : Keeps w w5 [] := H4.out.2.trans hk5 (fun k hk hm => by have := H2.out.2.2.2.2 k hm; omega)
      have H5 := Lib.hid (And.intro hs5 hK5)
      have kxb5 := str_reads w5.drew B bn cB b fB (H0.out.2.1.keeps (hK5.trans (fp1 := []) (Keeps.refl w5 []).drew (by simp)) (by simp))
      clear hs5 hk5 hn5 hK5
      go_wp2_with fail
      go_region_held_law (fun w' => True) (trivial)
        (first
          | (go_at_call 20
             refine Calls.mono (HC.out.1 _ l1 b ct1 f5 (H5.out.1.nil (Keeps.refl w5 []).drew) HS.out.2.1) ?_
             rintro e w6 ⟨A6, c6, f6, rfl, hr6, hf6, hk6⟩
             have kx6 := str_reads w6 A6 b.length c6 b f6 hr6
             have hK6 := (H5.out.2.trans (fp1 := []) (Keeps.refl w5 []).drew (by simp)).trans (fp1 := []) hk6 (by simp)
             have kxb6 := str_reads w6 B bn cB b fB (H0.out.2.1.keeps hK6 (by simp))
             have H6 := Lib.hid (show St w6 gs bs l1 [] f5 ∧ Keeps w w6 [] from ⟨(H5.out.1.nil (Keeps.refl w5 []).drew).nil hk6, hK6⟩)
             clear hr6 hf6 hk6 hK6)
          | (go_at_call 21
             refine Calls.mono (HC.out.2.1 _ l1 b ct1 f5 H6.out.1 HS.out.2.1) ?_
             rintro e w7 ⟨rfl, hk7⟩
             have H7 := Lib.hid (show St w7 gs bs l1 [] f5 ∧ Keeps w w7 [] from ⟨H6.out.1.nil hk7, H6.out.2.trans (fp1 := []) hk7 (by simp)⟩)
             clear hk7)
          | (go_at_call 27
             have hrm := HC.out.2.2 _ l1 b ct1 f5 H7.out.1 HS.out.2.1
             rw [HS.out.2.2] at hrm
             refine hrm.mono ?_
             rintro e w8 ⟨rfl, rfl⟩
             clear hrm))
      all_goals
        go_wp2_with fail
        go_ret
        exact ⟨by simp, H7.out.2.below (Nat.le_refl _) (by simp)⟩

/-! ### the row (its frame is printed by gen.py; the walk is above) -/
theorem own : ownKnob Try.prog.godebug = none := by kernel_rfl
theorem laidOut : laidOutB Try.prog = true := by kernel_rfl
set_option maxRecDepth 100000 in
theorem lifted (os : Os) (started : os.Started) (H : Type) (enc : TypeId × Value → H) :
    ReturnsInHanded {} Try.checked os 5 .any (Rows.slotsLoadsSpec.pre6 enc Try.prog Try.f5 Rows.slotsLoadsRow.domain false) (Rows.slotsLoadsSpec.post enc Try.prog Try.f5 false true false false) := by
  refine returnsInHanded_of_change (C := Try.checked) own started (by kernel_rfl) Try.func5
    (ChangeSpec.witness6 (enc := enc) (C := Try.checked) false ⟨#[], #[.int .u8 0, .slice none 0 0, .slice none 0 0], []⟩ 8 (by kernel_rfl) (by kernel_rfl) (by kernel_rfl) (by kernel_rfl)) ?_
  intro W base args ds gs before hval0 hW hcnd _
  have hval : ∀ (j : Nat) t v, Try.f5.params[j]? = some t → args[j]? = some v → Value.okWide Try.prog W .any base t v := hval0
  have hW' := hW
  obtain ⟨p, q, hA0, hV, rfl, hfz, hnd⟩ := hW
  have hA : DataW.TrodAll enc Try.prog W 0 (fun _ => true) true Try.f5.params.toList args.toList ds p := hA0
  rw [Try.params5] at hA hval
  obtain ⟨v0, vs0, d0, ds0, p0, q0, hargs, rfl, rfl, h0, r0⟩ := trodAll_cons hA
  obtain ⟨v1, vs1, d1, ds1, p1, q1, rfl, rfl, rfl, h1, r1⟩ := trodAll_cons r0
  obtain ⟨v2, vs2, d2, ds2, p2, q2, rfl, rfl, rfl, h2, r2⟩ := trodAll_cons r1
  obtain ⟨rfl, rfl, rfl⟩ := trodAll_nil r2
  obtain rfl : args = #[v0, v1, v2] := by cases args; simp_all
  obtain ⟨rfl, rfl⟩ := trodVars_none hV
  have k0 := h0
  have lt0 : ∀ x ∈ p0, x.block < W.heap.size := by obtain ⟨m, hm⟩ := k0; exact DataW.trod_lt m _ _ _ hm
  obtain ⟨x0, rfl, rfl, rfl, w0⟩ := open_int Try.underlying5 (hval 0 5 v0 rfl rfl) h0
  have k1 := h1
  have lt1 : ∀ x ∈ p1, x.block < W.heap.size := by obtain ⟨m, hm⟩ := k1; exact DataW.trod_lt m _ _ _ hm
  obtain ⟨a1, len1, cap1, rfl⟩ := okWide_slice Try.underlying42 (hval 1 42 v1 rfl rfl)
  obtain ⟨fuel1, hf1⟩ := h1
  obtain ⟨x1, w1⟩ := open_sdeeds (by simpa [Value.cells] using hf1)
  have k2 := h2
  have lt2 : ∀ x ∈ p2, x.block < W.heap.size := by obtain ⟨m, hm⟩ := k2; exact DataW.trod_lt m _ _ _ hm
  obtain ⟨a2, len2, cap2, rfl⟩ := okWide_slice Try.underlying22 (hval 2 22 v2 rfl rfl)
  obtain ⟨fuel2, hf2⟩ := h2
  obtain ⟨x2, fp2, w2, wl2, wf2, wc2, wm2⟩ := open_bytes8 (enc := enc) (P := Try.prog) Try.underlying22 Try.underlying5 (by kernel_rfl) (by simpa [Value.cells] using hf2)
  clear hA0 hval0
  refine (walk x0 a1 len1 cap1 x1 a2 len2 cap2 x2 fp2 W w0 w1 w2 wl2 wf2 wc2 wm2).mono fun e W' ⟨he, bel⟩ => ?_
  subst he
  exact ⟨_, rfl, _, _, _, [], _, [], hW', trodAll_mk1 (shut_bool Try.underlying4 _), (trodAll_cons_mk (Below.trod laidOut (by kernel_rfl) (of_decide_eq_true (by kernel_rfl)) k0 bel lt0) (trodAll_cons_mk (Below.trod laidOut (by kernel_rfl) (of_decide_eq_true (by kernel_rfl)) k1 bel lt1) (trodAll_cons_mk (Below.trod laidOut (by kernel_rfl) (of_decide_eq_true (by kernel_rfl)) k2 bel lt2) trodAll_mk0))), rfl, bel.frame _, fun h => by cases h⟩

theorem over : Rows.slotsLoadsRow.holds Try.pinned (OpenSpec.ofChange Rows.slotsLoadsSpec) :=
  OpenClaim.holds_of_wide 5 Try.f5 rfl rfl rfl rfl rfl rfl rfl ⟨rfl, rfl, rfl, rfl, rfl⟩ rfl rfl rfl rfl rfl (by kernel_rfl) Try.func5 (by kernel_rfl)
    (of_decide_eq_true (by kernel_rfl)) (by unfold Func.isWrapper; first | (rw [if_pos (by decide +kernel)]; kernel_rfl) | (rw [if_neg (by decide +kernel)]; exact ⟨rfl, rfl⟩))
    (fun os started H enc _ => lifted os started H enc)

theorem proved : Rows.SlotsLoadsSaid := over
#print axioms proved
end Go.Proofs.Ytecjhaohabjkbaa.vSlotsLoads
