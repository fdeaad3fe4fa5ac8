/-
  For every number, every list of deeds and all bytes: a Save that is torn behind all its writes, which all survive, is a Save: heliographlaw08.SlotsWhole answers true, and what came in reads as before. No condition.
-/
import Derived.Test.YtecjhaohabjkbaaRows
import Derived.ProofKit
import Derived.OpenShut
import Derived.ShutString
import Derived.ChangeOld
import Derived.Carry
import Derived.Test.YtecjhaohabjkbaaP18
namespace Go.Proofs.Ytecjhaohabjkbaa.vSlotsWhole
open Go.ChangeShapes Go.WideShapes Go.ChangeAt Go.RowKit
open Go.ChangeMaps (open_string shut_string)
set_option linter.unusedVariables false

theorem info_bool : (Try.prog.info? 4).map (fun i => (i.zero, i.size, i.bytes)) = some (some (.bool false), 1, 1) := by kernel_rfl
theorem saveTo_whole (l : List Sec) (b : List Int) (h : nch b.length < 100) : land (saveTo l [] b (some 100)).1 (surv (saveTo l [] b (some 100)).2 (List.replicate 40 true)) = (saveTo l [] b none).1 := by
  unfold saveTo
  simp only
  rw [if_neg (by rw [dataW_length]; omega)]
  rfl
theorem whole_both {l : List Sec} {cb : List Int} {ct : Nat} (hg : Good l cb ct) (hct : ct ≤ 100000) (A : Option Addr) (n c : Nat) (b : List Int) (hlen : b.length = n) (hwf : Wf8 b) (hc : n ≤ c) (hn : n ≤ 700) :
    ∃ (code : Int) (l' : List Sec) (cb' : List Int) (ct' : Nat), Good l' cb' ct' ∧
      (∀ g bd fp wx fb, St wx g bd l [] fp → Reads wx 1 A n (bytes b) fb → (∀ k ∈ fb, k ∉ fp) → Calls Try.prog 17 #[.pointer (some ⟨g, 0, none⟩), .slice A n c] wx fun e w' => e = .returned (.int .i64 code) ∧ SS wx fp g bd l' [] w') ∧
      (∀ g bd fp wx fb fs S d, St wx g bd l [] fp → Reads wx 1 A n (bytes b) fb → (∀ k ∈ fb, k ∉ fp) → Reads wx 1 S 40 (bools (List.replicate 40 true)) fs → (∀ k ∈ fs, k ∉ fp) → Calls Try.prog 28 #[.pointer (some ⟨g, 0, none⟩), .slice A n c, .int .i64 100, .slice S 40 d] wx fun e w' => e = .returned (.int .i64 code) ∧ SS wx fp g bd l' [] w') := by
  have hbt : (bestM (halfOf l) (land l [])).2.2 + 1 < 18446744073709551616 := by rw [show land l [] = l from rfl, hg.best]; show ct + 1 < _; omega
  by_cases h : halfOf l * 64 < n
  · refine ⟨4, l, cb, ct, hg, fun g bd fp wx fb hs hr hd => ?_, fun g bd fp wx fb fs S d hs hr hd hr2 hd2 => ?_⟩
    · refine Calls.mono (saveM_full g bd l [] fp wx A n c hs (hg.fit.mono (by omega)) (by unfold maxLen; omega) h) ?_
      rintro e w' ⟨rfl, rfl⟩
      exact ⟨rfl, SS.start hs⟩
    · refine Calls.mono (torn_full g bd l [] fp wx A S n c 40 d 100 hs (hg.fit.mono (by omega)) (by unfold maxLen; omega) h) ?_
      rintro e w' ⟨rfl, rfl⟩
      exact ⟨rfl, SS.start hs⟩
  · obtain ⟨hp1, hg1⟩ := hg.save hwf (by rw [hlen]; omega) (by omega)
    refine ⟨0, (saveTo l [] b none).1, b, ct + 1, hg1, fun g bd fp wx fb hs hr hd => ?_, fun g bd fp wx fb fs S d hs hr hd hr2 hd2 => ?_⟩
    · have := saveM_ok g bd l [] fp wx A n c b fb hs (hg.fit.mono (by omega)) hr hwf hd (by omega) hc hbt
      rw [hp1] at this
      exact this
    · have := torn_ok g bd l [] fp wx A S n c d b fb (List.replicate 40 true) fs 100 (by omega) hs (hg.fit.mono (by omega)) hr hwf hd (by simpa using hr2) (by unfold maxLen; simp) hd2 hr2.lt (by omega) hc hbt
      rw [saveTo_whole l b (by unfold nch; omega), List.length_replicate] at this
      exact this

set_option maxHeartbeats 3200000 in set_option maxRecDepth 100000 in
set_option maxRecDepth 100000 in
theorem walk (x : Int) (A : Option Addr) (n c : Nat) (ds : List SDeed) (B : Option Addr) (bn cB : Nat) (b : List Int) (fB : List Nat) (w : World) (hx : (Lit.int .u8 x).wf = true) (hd : SDeeds w A n ds)
    (hr : Reads w 1 B bn (bytes b) fB) (hl : b.length = bn) (hwf : Wf8 b) (hc : bn ≤ cB) (hm : cB ≤ maxLen) :
    Calls Try.prog 8 #[.int .u8 x, .slice A n c, .slice B bn cB] w fun e w' => e = .returned (.bool true) ∧ Below w.heap.size w w' := by
  obtain ⟨z, rfl, hz⟩ := u8_nat hx
  clear hx
  obtain ⟨i0, hi, hz0, hz1, hz2⟩ := info_parts info_bool
  have HA := Lib.hid (And.intro hi (And.intro hz0 (And.intro hz1 hz2)))
  clear hi hz0 hz1 hz2
  have hplay := pplay_calls z hz A n c ds _ hd
  have hfew := few_calls B bn cB
  have hbm : bn ≤ maxLen := by omega
  obtain ⟨fb, hb7, hfb⟩ := hr.take (k := min bn 700) (by omega)
  have e7 : (bytes b).take (min bn 700 * 1) = bytes (b.take 700) := by
    rw [Nat.mul_one]
    show (b.map _).take _ = (b.take _).map _
    rw [← List.map_take, show b.take (min bn 700) = b.take 700 by rw [List.take_eq_take_iff]; omega]
  rw [e7] at hb7
  obtain ⟨n7, hn7⟩ : ∃ n7, n7 = min bn 700 := ⟨_, rfl⟩
  obtain ⟨b7, hb7e⟩ : ∃ b7, b7 = b.take 700 := ⟨_, rfl⟩
  have hlen7 : b7.length = n7 := by rw [hb7e, hn7, List.length_take]; omega
  have hwf7 : Wf8 b7 := by rw [hb7e]; exact hwf.take 700
  rw [← hn7, ← hb7e] at hb7
  have hfew : ∀ wx, Calls Try.prog 22 #[.slice B bn cB] wx fun e w' => e = .returned (.slice B n7 cB) ∧ wx = w' := fun wx => by
    rw [hn7]; exact few_calls B bn cB wx hbm hc hm
  have H0 := Lib.hid (show _ ∧ _ ∧ Reads w 1 B n7 (bytes b7) fb ∧ b7.length = n7 ∧ Wf8 b7 ∧ n7 ≤ cB ∧ n7 ≤ 700 from And.intro hplay (And.intro hfew (And.intro hb7 (And.intro hlen7 (And.intro hwf7 (And.intro (by omega) (by omega)))))))
  clear hd hplay hr hl hwf hc hm hbm hz hfew hb7 hfb e7 hn7 hb7e hlen7 hwf7
  go_enter Try.func8, Try.ntmps8
  go_wp2_with fail
  refine H0.out.1.mono ?_
  rintro e w1 ⟨gs, bs, gr, br, rfl, hF⟩
  have H1 := Lib.hid hF; clear hF
  go_wp2_with fail
  refine (live_calls w1).mono ?_
  rintro e w2 ⟨rfl, hk2⟩
  obtain ⟨l, cb, ct, fs, fr, hB, hl, hct, hK, hN⟩ := H1.out.nil hk2
  have H2 := Lib.hid (show St w2 gs bs l [] fs ∧ Good l cb ct ∧ Keeps w w2 [] ∧ ct ≤ 20 ∧ (∀ k ∈ fs, w.heap.size ≤ k) from ⟨hB.s, hB.good, hK, hct, fun k hk => hN k (by simp [hk])⟩)
  clear hB hK hk2 hN H1 hct hl
  go_wp2_with fail
  refine (H0.out.2.1 w2).mono ?_
  rintro e w3 ⟨rfl, rfl⟩
  go_wp2_with fail
  go_loopw [11, 10] (fun i v wr => ∃ k : Nat, k ≤ 40 ∧ i = .int .i64 k ∧ ∃ f8, Own wr 4 1 v k (bools (List.replicate k true)) f8 ∧ Keeps w2 wr [] ∧ ∀ j ∈ f8, w2.heap.size ≤ j) (fun i _ _ => 40 - (intOf i).toNat)
  case atStart => exact ⟨0, by omega, rfl, [], Own.bare _ _ _ _, Keeps.refl _ _, by simp⟩
  case round =>
    obtain ⟨k, hk, rfl, f8, hO, hK, hN8⟩ := hrel
    obtain ⟨A8, n8, rfl, -, -⟩ := hO.form
    by_cases hlt : (k : Int) < 40
    · have HO := Lib.hid (And.intro hO (And.intro hK hN8))
      clear hO hK hN8
      go_wp2_with (at_builtin; refine wpList_append_mine _ rfl (.tmp 34) (.tmp 35) _ _ rfl 4 i0 _ 1 1 Try.underlying48 HA.out.1 HA.out.2.1 HA.out.2.2.1 HA.out.2.2.2 rfl _ k (bools (List.replicate k true)) f8 rfl ?own _ 1 (bools [true]) rfl ?src ?c1 ?c2 ?next)
      case own => exact HO.out.1.alloc _
      case src => exact (Blk.new' wr (n := wr.heap.size) rfl 4 #[.bool true]).src Try.underlying48 1 rfl (by simp [Value.oneCell'])
      case c1 => unfold maxLen; omega
      case c2 => omega
      case next =>
        intro v1 w5 f9 hown9 hk9 hn9
        obtain ⟨A9, n9, rfl, -, -⟩ := hown9.form
        have hk9' : Keeps w2 w5 [] := ((HO.out.2.1.alloc _).trans hk9 (fun i hi h => by have := HO.out.2.2 i h; omega))
        have hN9 : ∀ j ∈ f9, w2.heap.size ≤ j := fun j hj => by
          rcases hn9 j hj with h | h
          · exact HO.out.2.2 j h
          · have := HO.out.2.1.size
            (try simp at h)
            omega
        have hb9 : bools (List.replicate k true) ++ bools [true] = bools (List.replicate (k + 1) true) := by simp [bools, List.replicate_succ']
        rw [hb9] at hown9
        have HO9 := Lib.hid (And.intro hown9 (And.intro hk9' hN9))
        clear hown9 hk9 hn9 hk9' hN9 hb9
        go_wp2_with fail
        go_roundw
        case rel => exact ⟨k + 1, by omega, by go_num, f9, HO9.out⟩
        case measure => simp [intOf]; omega
    · obtain rfl : k = 40 := by omega
      obtain ⟨A8', n8', hf8, hcn, fS, hRS, hfS⟩ := hO.form
      simp only [Value.slice.injEq] at hf8
      obtain ⟨rfl, -, rfl⟩ := hf8
      have HZ := Lib.hid (show St wr gs bs l [] fs ∧ Keeps w wr [] ∧ Reads wr 1 A8 40 (bools (List.replicate 40 true)) fS ∧ (∀ j ∈ fS, w2.heap.size ≤ j) from ⟨H2.out.1.nil hK, H2.out.2.2.1.trans hK (by simp), hRS, fun j hj => hN8 j (hfS j hj)⟩)
      have hfsl : ∀ k ∈ fs, k < w2.heap.size := H2.out.1.lt
      clear hK hRS hfS hN8 hO hcn hlt hk
      have HF := Lib.hid hfsl
      clear hfsl
      go_wp2_with fail
      refine Calls.mono (sfork_ok gs bs l [] fs wr HZ.out.1 (H2.out.2.1.fit.mono (by omega))) ?_
      rintro e w3 ⟨gf, bf, ff, rfl, hf3, hk3, hn3⟩
      obtain ⟨code, l1, cb1, ct1, hg1, hsv, htn⟩ := whole_both H2.out.2.1 (by have := H2.out.2.2.2.1; omega) B n7 cB b7 H0.out.2.2.2.1 H0.out.2.2.2.2.1 H0.out.2.2.2.2.2.1 H0.out.2.2.2.2.2.2
      have hrb := H0.out.2.2.1
      have hS3 : St w3 gs bs l [] fs := HZ.out.1.nil hk3
      have hK3 : Keeps w w3 [] := HZ.out.2.1.trans hk3 (by simp)
      have H3 := Lib.hid (show Calls Try.prog 17 #[.pointer (some ⟨gs, 0, none⟩), .slice B n7 cB] w3 (fun e w' => e = .returned (.int .i64 code) ∧ SS w3 fs gs bs l1 [] w') ∧
          (∀ w4, SS w3 fs gs bs l1 [] w4 → Calls Try.prog 28 #[.pointer (some ⟨gf, 0, none⟩), .slice B n7 cB, .int .i64 100, .slice A8 40 n8] w4 (fun e w' => e = .returned (.int .i64 code) ∧ ∃ f5 ff5, St w' gs bs l1 [] f5 ∧ St w' gf bf l1 [] ff5 ∧ Keeps w w' [])) ∧ Good l1 cb1 ct1 from by
        have hwz := HZ.out.2.1.size
        have hw2 := H2.out.2.2.1.size
        have s3 := hk3.size
        have hdf : ∀ k ∈ ff, k ∉ fs := fun k h1 h2 => by have := hn3 k h1; have := HZ.out.1.lt k h2; omega
        refine ⟨hsv gs bs fs w3 fb hS3 (hrb.keeps hK3 (by simp)) (fun k h1 h2 => by have := hrb.lt k h1; have := H2.out.2.2.2.2 k h2; omega), fun w4 hss => ?_, hg1⟩
        obtain ⟨f4, s4, k4, n4⟩ := hss
        have hf4 : St w4 gf bf l [] ff := hf3.keeps k4 hdf
        have hK4 : Keeps w w4 [] := hK3.trans k4 (fun k h1 h2 => by have := H2.out.2.2.2.2 k h2; omega)
        have hR4 : Reads w4 1 A8 40 (bools (List.replicate 40 true)) fS := (HZ.out.2.2.1.keeps hk3 (by simp)).keeps k4 (fun k h1 h2 => by have := HZ.out.2.2.2 k h1; have := HF.out k h2; omega)
        refine Calls.mono (htn gf bf ff w4 fb fS A8 n8 hf4 (hrb.keeps hK4 (by simp)) (fun k h1 h2 => by have := hrb.lt k h1; have := hn3 k h2; omega) hR4 (fun k h1 h2 => by have := HZ.out.2.2.1.lt k h1; have := hn3 k h2; omega)) ?_
        rintro e w5 ⟨rfl, ff5, s5, k5, n5⟩
        have hlf := hf3.lt
        exact ⟨rfl, f4, ff5, s4.keeps k5 (fun k h1 h2 => by
          rcases n4 k h1 with h | h
          · exact hdf k h2 h
          · have := hlf k h2; omega), s5, hK4.trans k5 (fun k h1 h2 => by have := hn3 k h2; omega)⟩)
      clear hsv htn hg1 hrb hS3 hK3 hf3 hk3 hn3 HZ HF H2 H0
      go_wp2_with fail
      refine H3.out.1.mono ?_
      rintro e w4 ⟨rfl, hss⟩
      have H4 := Lib.hid (H3.out.2.1 w4 hss)
      clear hss
      go_wp2_with fail
      refine H4.out.mono ?_
      rintro e w5 ⟨rfl, f5, ff5, s5, t5, k5⟩
      have hld : ∀ wx g bd f', St wx g bd l1 [] f' → Calls Try.prog 20 #[.pointer (some ⟨g, 0, none⟩)] wx (LoadLeft wx cb1) := fun wx g bd f' hs => by
        have hg := H3.out.2.2
        have := load_calls g bd l1 [] f' wx hs (hg.fit.mono (by omega))
        rw [show land l1 [] = l1 from rfl, hg.best] at this
        exact this
      have htn : ∀ wx g bd f', St wx g bd l1 [] f' → Calls Try.prog 21 #[.pointer (some ⟨g, 0, none⟩)] wx (fun e w' => e = .returned (.int .u64 ct1) ∧ Keeps wx w' []) := fun wx g bd f' hs => by
        have hg := H3.out.2.2
        have := turn_calls g bd l1 [] f' wx hs (hg.fit.mono (by omega))
        rw [show land l1 [] = l1 from rfl, hg.best] at this
        exact this
      have H5 := Lib.hid (show (St w5.drew gs bs l1 [] f5 ∧ St w5.drew gf bf l1 [] ff5 ∧ Keeps w w5.drew []) from ⟨s5.nil (Keeps.refl w5 []).drew, t5.nil (Keeps.refl w5 []).drew, k5.trans (fp1 := []) (Keeps.refl w5 []).drew (by simp)⟩)
      have HC := Lib.hid (And.intro hld htn)
      clear hld htn s5 t5 k5 H4
      go_wp2_with fail
      go_region_held_law (fun w' => True) (trivial)
        (first
          | (go_at_call_of 20 (Value.pointer (some ⟨gs, 0, none⟩))
             refine Calls.mono (HC.out.1 _ gs bs f5 H5.out.1) ?_
             rintro e w6 ⟨A6, c6, f6, rfl, hr6, hf6, hk6⟩
             have kx6 := str_reads w6 A6 cb1.length c6 cb1 f6 hr6
             have H6 := Lib.hid (show St w6 gs bs l1 [] f5 ∧ St w6 gf bf l1 [] ff5 ∧ Keeps w w6 [] ∧ Reads w6 1 A6 cb1.length (bytes cb1) f6 from ⟨H5.out.1.nil hk6, H5.out.2.1.nil hk6, H5.out.2.2.trans (fp1 := []) hk6 (by simp), hr6⟩)
             clear hr6 hf6 hk6)
          | (go_at_call_of 20 (Value.pointer (some ⟨gf, 0, none⟩))
             refine Calls.mono (HC.out.1 _ gf bf ff5 H6.out.2.1) ?_
             rintro e w7 ⟨A7, c7, f7, rfl, hr7, hf7, hk7⟩
             have kx7 := str_reads w7 A7 cb1.length c7 cb1 f7 hr7
             have kx8 := str_reads w7 A6 cb1.length c6 cb1 f6 (H6.out.2.2.2.keeps hk7 (by simp))
             have H7 := Lib.hid (show St w7 gs bs l1 [] f5 ∧ St w7 gf bf l1 [] ff5 ∧ Keeps w w7 [] from ⟨H6.out.1.nil hk7, H6.out.2.1.nil hk7, H6.out.2.2.1.trans (fp1 := []) hk7 (by simp)⟩)
             clear hr7 hf7 hk7)
          | (go_at_call_of 21 (Value.pointer (some ⟨gs, 0, none⟩))
             refine Calls.mono (HC.out.2 _ gs bs f5 H7.out.1) ?_
             rintro e w8 ⟨rfl, hk8⟩
             have H8 := Lib.hid (show St w8 gf bf l1 [] ff5 ∧ Keeps w w8 [] from ⟨H7.out.2.1.nil hk8, H7.out.2.2.trans (fp1 := []) hk8 (by simp)⟩)
             clear hk8)
          | (go_at_call_of 21 (Value.pointer (some ⟨gf, 0, none⟩))
             refine Calls.mono (HC.out.2 _ gf bf ff5 H8.out.1) ?_
             rintro e w9 ⟨rfl, hk9⟩
             have H9 := Lib.hid (H8.out.2.trans (fp1 := []) hk9 (by simp))
             clear hk9))
      all_goals
        go_wp2_with fail
        go_ret
        exact ⟨by simp, H9.out.below (Nat.le_refl _) (by simp)⟩

/-! ### the row (its frame is printed by gen.py; the walk is above) -/
theorem own : ownKnob Try.prog.godebug = none := by kernel_rfl
theorem laidOut : laidOutB Try.prog = true := by kernel_rfl
set_option maxRecDepth 100000 in
theorem lifted (os : Os) (started : os.Started) (H : Type) (enc : TypeId × Value → H) :
    ReturnsInHanded {} Try.checked os 8 .any (Rows.slotsWholeSpec.pre6 enc Try.prog Try.f8 Rows.slotsWholeRow.domain false) (Rows.slotsWholeSpec.post enc Try.prog Try.f8 false true false false) := by
  refine returnsInHanded_of_change (C := Try.checked) own started (by kernel_rfl) Try.func8
    (ChangeSpec.witness6 (enc := enc) (C := Try.checked) false ⟨#[], #[.int .u8 0, .slice none 0 0, .slice none 0 0], []⟩ 8 (by kernel_rfl) (by kernel_rfl) (by kernel_rfl) (by kernel_rfl)) ?_
  intro W base args ds gs before hval0 hW hcnd _
  have hval : ∀ (j : Nat) t v, Try.f8.params[j]? = some t → args[j]? = some v → Value.okWide Try.prog W .any base t v := hval0
  have hW' := hW
  obtain ⟨p, q, hA0, hV, rfl, hfz, hnd⟩ := hW
  have hA : DataW.TrodAll enc Try.prog W 0 (fun _ => true) true Try.f8.params.toList args.toList ds p := hA0
  rw [Try.params8] at hA hval
  obtain ⟨v0, vs0, d0, ds0, p0, q0, hargs, rfl, rfl, h0, r0⟩ := trodAll_cons hA
  obtain ⟨v1, vs1, d1, ds1, p1, q1, rfl, rfl, rfl, h1, r1⟩ := trodAll_cons r0
  obtain ⟨v2, vs2, d2, ds2, p2, q2, rfl, rfl, rfl, h2, r2⟩ := trodAll_cons r1
  obtain ⟨rfl, rfl, rfl⟩ := trodAll_nil r2
  obtain rfl : args = #[v0, v1, v2] := by cases args; simp_all
  obtain ⟨rfl, rfl⟩ := trodVars_none hV
  have k0 := h0
  have lt0 : ∀ x ∈ p0, x.block < W.heap.size := by obtain ⟨m, hm⟩ := k0; exact DataW.trod_lt m _ _ _ hm
  obtain ⟨x0, rfl, rfl, rfl, w0⟩ := open_int Try.underlying5 (hval 0 5 v0 rfl rfl) h0
  have k1 := h1
  have lt1 : ∀ x ∈ p1, x.block < W.heap.size := by obtain ⟨m, hm⟩ := k1; exact DataW.trod_lt m _ _ _ hm
  obtain ⟨a1, len1, cap1, rfl⟩ := okWide_slice Try.underlying42 (hval 1 42 v1 rfl rfl)
  obtain ⟨fuel1, hf1⟩ := h1
  obtain ⟨x1, w1⟩ := open_sdeeds (by simpa [Value.cells] using hf1)
  have k2 := h2
  have lt2 : ∀ x ∈ p2, x.block < W.heap.size := by obtain ⟨m, hm⟩ := k2; exact DataW.trod_lt m _ _ _ hm
  obtain ⟨a2, len2, cap2, rfl⟩ := okWide_slice Try.underlying22 (hval 2 22 v2 rfl rfl)
  obtain ⟨fuel2, hf2⟩ := h2
  obtain ⟨x2, fp2, w2, wl2, wf2, wc2, wm2⟩ := open_bytes8 (enc := enc) (P := Try.prog) Try.underlying22 Try.underlying5 (by kernel_rfl) (by simpa [Value.cells] using hf2)
  clear hA0 hval0
  refine (walk x0 a1 len1 cap1 x1 a2 len2 cap2 x2 fp2 W w0 w1 w2 wl2 wf2 wc2 wm2).mono fun e W' ⟨he, bel⟩ => ?_
  subst he
  exact ⟨_, rfl, _, _, _, [], _, [], hW', trodAll_mk1 (shut_bool Try.underlying4 _), (trodAll_cons_mk (Below.trod laidOut (by kernel_rfl) (of_decide_eq_true (by kernel_rfl)) k0 bel lt0) (trodAll_cons_mk (Below.trod laidOut (by kernel_rfl) (of_decide_eq_true (by kernel_rfl)) k1 bel lt1) (trodAll_cons_mk (Below.trod laidOut (by kernel_rfl) (of_decide_eq_true (by kernel_rfl)) k2 bel lt2) trodAll_mk0))), rfl, bel.frame _, fun h => by cases h⟩

theorem over : Rows.slotsWholeRow.holds Try.pinned (OpenSpec.ofChange Rows.slotsWholeSpec) :=
  OpenClaim.holds_of_wide 8 Try.f8 rfl rfl rfl rfl rfl rfl rfl ⟨rfl, rfl, rfl, rfl, rfl⟩ rfl rfl rfl rfl rfl (by kernel_rfl) Try.func8 (by kernel_rfl)
    (of_decide_eq_true (by kernel_rfl)) (by unfold Func.isWrapper; first | (rw [if_pos (by decide +kernel)]; kernel_rfl) | (rw [if_neg (by decide +kernel)]; exact ⟨rfl, rfl⟩))
    (fun os started H enc _ => lifted os started H enc)

theorem proved : Rows.SlotsWholeSaid := over
#print axioms proved
end Go.Proofs.Ytecjhaohabjkbaa.vSlotsWhole
