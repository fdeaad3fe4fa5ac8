/-
  CONTRACTS: heliographlaw08.same of stores with writes that hang loose; a Save that the turn refuses. PLAIN: any device.
-/
import Derived.Test.YtecjhaohabjkbaaP20
namespace Go.Proofs.Ytecjhaohabjkbaa
open Go.RowKit
set_option linter.unusedVariables false

set_option maxHeartbeats 3200000 in set_option maxRecDepth 100000 in
set_option maxRecDepth 100000 in
theorem psame2_calls (gs bs gr br : Nat) (l : List Sec) (pend : List Wr) (fs fr : List Nat) (w : World) (h : St w gs bs l pend fs ∧ RSt w gr br l pend fr) (hfit : Fit 50000 l pend) :
    Calls Try.prog 29 #[.pointer (some ⟨gs, 0, none⟩), .pointer (some ⟨gr, 0, none⟩)] w fun e w' => e = .returned (.bool true) ∧ Keeps w w' [] := by
  have hsm := hfit.len
  have hf2 : Fit 100000 l pend := hfit.mono (by omega)
  obtain ⟨cb, hcb⟩ : ∃ cb, cb = (bestM (halfOf l) (land l pend)).2.1 := ⟨_, rfl⟩
  obtain ⟨ct, hct⟩ : ∃ ct, ct = (bestM (halfOf l) (land l pend)).2.2 := ⟨_, rfl⟩
  have H := Lib.hid (And.intro h (And.intro hfit (And.intro hf2 (And.intro hcb hct))))
  have hfew := hfit.few
  clear h hfit hf2 hcb hct
  go_enter Try.func29, Try.ntmps29
  go_wp2_with fail
  refine Calls.mono (device_ok gs bs l pend fs w H.out.1.1 H.out.2.2.1) ?_
  rintro e w1 ⟨ba, fa, rfl, hda, hk1, -⟩
  have H1 := Lib.hid (And.intro hda hk1)
  clear hda hk1
  go_wp2_with fail
  refine Calls.mono (rdevice_ok gr br l pend fr w1 (H.out.1.2.nil H1.out.2) H.out.2.2.1) ?_
  rintro e w2 ⟨bb, fb, rfl, hdb, hk2, -⟩
  have H2 := Lib.hid (show DRep w2 ba l (land l pend) pend fa ∧ RRep w2 bb l pend fb ∧ Keeps w w2 [] from ⟨H1.out.1.nil hk2, hdb, H1.out.2.trans hk2 (by simp)⟩)
  clear hdb hk2 H1
  go_wp2_with fail
  go_loopw [7] (fun v wr => ∃ i : Nat, v = .int .i64 i ∧ i ≤ l.length ∧ Keeps w2 wr []) (fun v _ => (l.length - intOf v).toNat)
  case atStart => exact ⟨0, rfl, by omega, Keeps.refl _ _⟩
  case round =>
    obtain ⟨i, rfl, h2, hK⟩ := hrel
    have HK := Lib.hid hK
    clear hK
    by_cases hle : i < l.length
    · obtain ⟨s0, hs0⟩ : ∃ s, l[i]? = some s := ⟨_, List.getElem?_eq_getElem hle⟩
      obtain ⟨s, hse⟩ : ∃ s, s = readAt s0 pend i := ⟨_, rfl⟩
      have hs : (land l pend)[i]? = some s := by rw [hse]; exact land_at pend l i s0 hs0
      have HSE := Lib.hid hse
      clear hse
      have hlt : (i : Int) < (l.length : Int) := by omega
      go_wp2_with fail
      refine (rsize_calls bb l pend fb _ (H2.out.2.1.nil HK.out)).mono ?_
      rintro e w3 ⟨rfl, rfl⟩
      go_wp2_with fail
      refine (read_ok ba l (land l pend) pend fa _ i s (H2.out.1.nil HK.out) hs (by rw [land_length]; exact hsm)).mono ?_
      rintro e w3 ⟨rfl, hk3⟩
      have HK2 := Lib.hid (HK.out.trans hk3 (by simp)); clear hk3
      have hm2 := may_new w3 31
      have hb3 := blk_stored w3 31 s
      have hk3 := keeps_stored HK2.out 31 Sec.zero.cells s.cells HK2.out.size
      have H3 := Lib.hid (And.intro hb3 hk3); clear hb3 hk3
      go_wp2_with fail
      refine (rread_ok bb l pend fb _ i s0 (H2.out.2.1.nil H3.out.2) hs0 hsm (by omega)).mono ?_
      rintro e w4 ⟨rfl, hk4⟩
      rw [← HSE.out]
      have hb4 := H3.out.1.keeps hk4 (by simp)
      have hK4 := H3.out.2.trans hk4 (by simp)
      have hm4 := may_new w4 62
      have hb5 := blk_stored w4 62 s
      have hk5 := keeps_stored (Keeps.refl w4 []) 62 Sec.zero.cells s.cells (Nat.le_refl _)
      obtain ⟨r1, r2⟩ := row_of_range (hb4.keeps hk5 (by simp)).whole s.cells_length
      obtain ⟨r3, r4⟩ := row_of_range hb5.whole s.cells_length
      have H5 := Lib.hid (hK4.trans hk5 (by simp))
      clear hb4 hK4 hb5 hk5 hk4
      go_wp2_with fail
      go_roundw
      case rel => exact ⟨i + 1, by go_num, by omega, H5.out⟩
      case measure => simp [intOf]; omega
    · obtain rfl : i = l.length := by omega
      clear hle h2
      go_wp2_with fail
      refine (rsize_calls bb l pend fb _ (H2.out.2.1.nil HK.out)).mono ?_
      rintro e w3 ⟨rfl, rfl⟩
      go_wp2_with fail
      have hld : ∀ wx, Keeps w wx [] → Calls Try.prog 20 #[.pointer (some ⟨gs, 0, none⟩)] wx (LoadLeft wx cb) := fun wx hk => by
        have := load_calls gs bs l pend fs wx (H.out.1.1.nil hk) H.out.2.2.1
        rwa [← H.out.2.2.2.1] at this
      have hrg : ∀ wx, Keeps w wx [] → RGood wx gr br l pend fr := fun wx hk => ⟨H.out.1.2.nil hk, H.out.2.2.1⟩
      have hrld : ∀ wx, Keeps w wx [] → Calls Try.prog 56 #[.pointer (some ⟨gr, 0, none⟩)] wx (LoadLeft wx cb) := fun wx hk => by
        have := rload_calls gr br l pend fr wx (hrg wx hk)
        rwa [← H.out.2.2.2.1] at this
      have htn : ∀ wx, Keeps w wx [] → Calls Try.prog 21 #[.pointer (some ⟨gs, 0, none⟩)] wx (fun e w' => e = .returned (.int .u64 ct) ∧ Keeps wx w' []) := fun wx hk => by
        have := turn_calls gs bs l pend fs wx (H.out.1.1.nil hk) H.out.2.2.1
        rwa [← H.out.2.2.2.2] at this
      have hrtn : ∀ wx, Keeps w wx [] → Calls Try.prog 57 #[.pointer (some ⟨gr, 0, none⟩)] wx (fun e w' => e = .returned (.int .u64 ct) ∧ Keeps wx w' []) := fun wx hk => by
        have := rturn_calls gr br l pend fr wx (hrg wx hk)
        rwa [← H.out.2.2.2.2] at this
      have hrm := fun wx (hk : Keeps w wx []) => room_calls gs bs l pend fs wx (H.out.1.1.nil hk) H.out.2.2.1
      have hrrm := fun wx (hk : Keeps w wx []) => rroom_calls gr br l pend fr wx (hrg wx hk)
      have HC := Lib.hid (And.intro hld (And.intro hrld (And.intro htn (And.intro hrtn (And.intro hrm hrrm)))))
      clear hld hrld htn hrtn hrm hrrm hrg
      have hkd : Keeps w2 wr.drew [] := HK.out.trans (Keeps.refl wr []).drew (by simp)
      have HD := Lib.hid (show Keeps w2 wr.drew [] ∧ Keeps w wr.drew [] from ⟨hkd, H2.out.2.2.trans hkd (by simp)⟩)
      clear hkd HK hsm
      go_region_held_law (fun w' => True) (trivial)
        (first
          | (go_at_call 45
             have hsz := size_calls ba l (land l pend) pend fa _ (H2.out.1.nil HD.out.1)
             rw [land_length] at hsz
             refine hsz.mono ?_
             rintro e w5 ⟨rfl, rfl⟩
             clear hsz)
          | (go_at_call 54
             refine (rsize_calls bb l pend fb _ (H2.out.2.1.nil HD.out.1)).mono ?_
             rintro e w5 ⟨rfl, rfl⟩)
          | (go_at_call 20
             refine Calls.mono (HC.out.1 _ HD.out.2) ?_
             rintro e w6 ⟨A6, c6, f6, rfl, hr6, hf6, hk6⟩
             have kx6 := str_reads w6 A6 cb.length c6 cb f6 hr6
             have H6 := Lib.hid (And.intro (HD.out.2.trans (fp1 := []) hk6 (by simp)) hr6)
             clear hr6 hf6 hk6)
          | (go_at_call 56
             refine Calls.mono (HC.out.2.1 _ H6.out.1) ?_
             rintro e w7 ⟨A7, c7, f7, rfl, hr7, hf7, hk7⟩
             have kx7 := str_reads w7 A7 cb.length c7 cb f7 hr7
             have kx8 := str_reads w7 A6 cb.length c6 cb f6 (H6.out.2.keeps hk7 (by simp))
             have H7 := Lib.hid (H6.out.1.trans (fp1 := []) hk7 (by simp))
             clear hr7 hf7 hk7)
          | (go_at_call 21
             refine Calls.mono (HC.out.2.2.1 _ H7.out) ?_
             rintro e w8 ⟨rfl, hk8⟩
             have H8 := Lib.hid (H7.out.trans (fp1 := []) hk8 (by simp))
             clear hk8)
          | (go_at_call 57
             refine Calls.mono (HC.out.2.2.2.1 _ H8.out) ?_
             rintro e w9 ⟨rfl, hk9⟩
             have H9 := Lib.hid (H8.out.trans (fp1 := []) hk9 (by simp))
             clear hk9)
          | (go_at_call 27
             refine Calls.mono (HC.out.2.2.2.2.1 _ H9.out) ?_
             rintro e w10 ⟨rfl, rfl⟩)
          | (go_at_call 58
             refine Calls.mono (HC.out.2.2.2.2.2 _ H9.out) ?_
             rintro e w10 ⟨rfl, rfl⟩))
      all_goals
        go_wp2_with fail
        go_ret
        exact ⟨by simp, H9.out⟩


/-! ## any device -/
theorem hold_same {half : Nat} {l l' : List Sec} {k : Nat} (hl : l'.length = l.length) (hk : k < l.length) (h0 : secAt l' k = secAt l k) (hd : ∀ n, n ≤ half * 64 → dataOf l' (2 + k * half) n = dataOf l (2 + k * half) n) : holdM half l' k = holdM half l k := by
  have g1 : l[k]? = some (secAt l k) := secAt_get hk
  have g2 : l'[k]? = some (secAt l k) := by rw [← h0]; exact secAt_get (by omega)
  by_cases h : turnOf (secAt l k) = 0 ∨ half * 64 < sizeOf_ (secAt l k)
  · rw [holdM_out g1 h, holdM_out g2 h]
  · have hs : sizeOf_ (secAt l k) ≤ half * 64 := by omega
    by_cases hr : rootM (dataOf l (2 + k * half) (sizeOf_ (secAt l k))) (turnOf (secAt l k)) = secAt l k
    · rw [holdM_in g1 h hr, holdM_in g2 h (by rw [hd _ hs]; exact hr), hd _ hs]
    · rw [holdM_bad g1 hr, holdM_bad g2 (by rw [hd _ hs]; exact hr)]
theorem best_other (half : Nat) (now : List Sec) : (holdM half now (1 - toM half now)).2 ≤ (bestM half now).2.2 ∧ toM half now < 2 := by
  refine ⟨?_, toM_lt half now⟩
  unfold toM bestM
  by_cases h : (holdM half now 1).2 > (holdM half now 0).2
  · rw [if_pos h]
    simp only
    split
    · omega
    · show (holdM half now 1).2 ≤ (holdM half now 1).2
      omega
  · rw [if_neg h]
    simp only
    split
    · show (holdM half now 1).2 ≤ _
      omega
    · show (holdM half now 0).2 ≤ _
      omega
theorem raw_best {c : Nat} {l : List Sec} {pend : List Wr} (hf : Fit c l pend) {b : List Int} (hb : Wf8 b) (hn : b.length ≤ halfOf l * 64) (ht : (bestM (halfOf l) (land l pend)).2.2 + 1 < 18446744073709551616) :
    (bestM (halfOf l) (saveTo l pend b none).1).2 = (b, (bestM (halfOf l) (land l pend)).2.2 + 1) := by
  obtain ⟨now, hnow⟩ : ∃ now, now = land l pend := ⟨_, rfl⟩
  have hnl : now.length = l.length := by rw [hnow, land_length]
  have hst : (saveTo l pend b none).1 = (land now (dataW (dataTo (halfOf l) now) b)).set (toM (halfOf l) now) (rootM b ((bestM (halfOf l) now).2.2 + 1)) := by
    unfold saveTo
    simp only [land_append, ← hnow]
    rfl
  rw [hst, ← hnow]
  rw [← hnow] at ht
  have h4 := hf.four
  have hln := hf.len
  obtain ⟨hoth, hto⟩ := best_other (halfOf l) now
  obtain ⟨half, hhalf⟩ : ∃ half, half = halfOf l := ⟨_, rfl⟩
  have h2 : 2 + 2 * half ≤ l.length := by rw [hhalf]; unfold halfOf; omega
  have hh7 : half ≤ 2047 := by rw [hhalf]; unfold halfOf; omega
  rw [← hhalf] at hn ht hoth hto ⊢
  obtain ⟨p, hp⟩ : ∃ p, p = toM half now := ⟨_, rfl⟩
  obtain ⟨T, hT⟩ : ∃ T, T = (bestM half now).2.2 := ⟨_, rfl⟩
  have hdt : dataTo half now = 2 + p * half := by unfold dataTo; rw [← hp]
  rw [← hp] at hoth hto ⊢
  rw [← hT] at hoth ht ⊢
  rw [hdt]
  have hc1 := nch_le _ _ hn
  obtain ⟨L, hL⟩ : ∃ L, L = land now (dataW (2 + p * half) b) := ⟨_, rfl⟩
  have hLl : L.length = l.length := by rw [hL, land_length, hnl]
  have hread := dataW_read (2 + p * half) b now (by
    rcases (show p = 0 ∨ p = 1 by omega) with h | h
    · rw [h]; omega
    · rw [h]; omega)
  rw [← hL] at hread ⊢
  have hdin : ∀ x ∈ dataW (2 + p * half) b, 2 + p * half ≤ x.i ∧ x.i < 2 + p * half + half := fun x hx => by
    obtain ⟨i, hi, rfl⟩ := List.mem_map.1 hx
    have h3 : i < nch b.length := by simpa using hi
    exact ⟨by show _ ≤ 2 + p * half + i; omega, by show 2 + p * half + i < _; omega⟩
  have hzz : sizeOf_ (rootM b (T + 1)) = b.length := size_root b (T + 1) (by omega)
  have htt : turnOf (rootM b (T + 1)) = T + 1 := turn_root b (T + 1) ht
  have hpl : (L.set p (rootM b (T + 1))).length = l.length := by simpa using hLl
  have e1 : holdM half (L.set p (rootM b (T + 1))) p = (b, T + 1) := by
    have hd : dataOf (L.set p (rootM b (T + 1))) (2 + p * half) b.length = b := by
      rw [dataOf_same (l := L) (by simp) _ _ (fun j hj => secAt_set_ne _ _ _ _ (by omega)) (by
        rw [hLl]
        rcases (show p = 0 ∨ p = 1 by omega) with h | h
        · rw [h]; omega
        · rw [h]; omega)]
      exact hread
    have hat : (L.set p (rootM b (T + 1)))[p]? = some (rootM b (T + 1)) := by
      rw [secAt_get (by omega), secAt_set_eq _ _ _ (by omega)]
    rw [holdM_in hat (by rw [htt, hzz]; omega) (by rw [htt, hzz, hd]), htt, hzz, hd]
  have e2 : holdM half (L.set p (rootM b (T + 1))) (1 - p) = holdM half now (1 - p) := by
    refine hold_same (by rw [hpl, hnl]) (by omega) ?_ (fun n hn' => ?_)
    · rw [secAt_set_ne _ _ _ _ (by omega), hL]
      exact secAt_land_ne _ _ _ (fun x hx => by have := hdin x hx; omega)
    · refine dataOf_same (by rw [hpl, hnl]) _ _ (fun j hj => ?_) (by
        rw [hnl]
        rcases (show p = 0 ∨ p = 1 by omega) with h | h
        · rw [h]; omega
        · rw [h]; omega)
      have hj2 : j < half := by omega
      rw [secAt_set_ne _ _ _ _ (by omega), hL]
      refine secAt_land_ne _ _ _ (fun x hx => ?_)
      obtain ⟨w1, w2⟩ := hdin x hx
      rcases (show p = 0 ∨ p = 1 by omega) with h | h
      · rw [h] at w1 w2 ⊢; omega
      · rw [h] at w1 w2 ⊢; omega
  unfold bestM
  rcases (show p = 0 ∨ p = 1 by omega) with h | h
  · subst h
    rw [show (1 : Nat) - 0 = 1 from rfl] at e2 hoth
    rw [e1, e2, if_neg (by show ¬ (holdM half now 1).2 > T + 1; omega)]
  · subst h
    rw [show (1 : Nat) - 1 = 0 from rfl] at e2 hoth
    rw [e1, e2, if_pos (by show T + 1 > (holdM half now 0).2; omega)]

section
variable (g bd : Nat) (l : List Sec) (pend : List Wr) (fp : List Nat) (w : World)
set_option maxHeartbeats 800000 in set_option maxRecDepth 100000 in
set_option maxRecDepth 100000 in
theorem saveM_max (A : Option Addr) (n c : Nat) (hs : St w g bd l pend fp) (hf : Fit 100000 l pend) (hn : n ≤ halfOf l * 64) (ht : (bestM (halfOf l) (land l pend)).2.2 = 18446744073709551615) :
    Calls Try.prog 17 #[.pointer (some ⟨g, 0, none⟩), .slice A n c] w fun e w' => e = .returned (.int .i64 4) ∧ Keeps w w' [] := by
  have hroom := room_calls g bd l pend fp w hs hf
  have hturn := turn_calls g bd l pend fp w hs hf
  obtain ⟨R, hR⟩ : ∃ R, R = halfOf l * 64 := ⟨_, rfl⟩
  rw [← hR] at hroom hn
  rw [ht] at hturn
  have hb : decide (R < n) = false := by simp; omega
  have hRl : R ≤ 131008 := by have := hf.len; rw [hR]; unfold halfOf; omega
  have hnl : n ≤ 131008 := by omega
  have H := Lib.hid (And.intro hroom hturn)
  clear hs hf hroom hturn hR ht hn
  have hmay : Calls Try.prog 47 #[.pointer (some ⟨g, 0, none⟩), .slice A n c] w fun e w' => e = .returned (.int .i64 4) ∧ Keeps w w' [] := by
    go_enter Try.func47, Try.ntmps47
    go_wp2_with fail
    refine Calls.mono H.out.1 ?_
    rintro e w1 ⟨rfl, rfl⟩
    go_wp2_with fail
    refine Calls.mono H.out.2 ?_
    rintro e w2 ⟨rfl, hk2⟩
    have HK := Lib.hid hk2
    clear hk2
    go_wp2_with fail
    go_ret
    exact ⟨rfl, HK.out⟩
  have HM := Lib.hid hmay
  clear hmay hb hRl hnl
  go_enter Try.func17, Try.ntmps17
  go_wp2_with fail
  refine Calls.mono HM.out ?_
  rintro e w1 ⟨rfl, hk⟩
  have HK := Lib.hid hk
  clear hk
  go_wp2_with fail
  go_ret
  exact ⟨rfl, HK.out⟩
set_option maxHeartbeats 800000 in set_option maxRecDepth 100000 in
set_option maxRecDepth 100000 in
theorem rsaveM_max (A : Option Addr) (n c : Nat) (hs : RSt w g bd l pend fp) (hf : Fit 50000 l pend) (hn : n ≤ halfOf l * 64) (ht : (bestM (halfOf l) (land l pend)).2.2 = 18446744073709551615) :
    Calls Try.prog 36 #[.pointer (some ⟨g, 0, none⟩), .slice A n c] w fun e w' => e = .returned (.int .i64 4) ∧ Keeps w w' [] := by
  have hroom := rroom_calls g bd l pend fp w ⟨hs, hf.mono (by omega)⟩
  have hturn := rturn_calls g bd l pend fp w ⟨hs, hf.mono (by omega)⟩
  obtain ⟨R, hR⟩ : ∃ R, R = halfOf l * 64 := ⟨_, rfl⟩
  rw [← hR] at hroom hn
  rw [ht] at hturn
  have hb : decide (R < n) = false := by simp; omega
  have hRl : R ≤ 131008 := by have := hf.len; rw [hR]; unfold halfOf; omega
  have hnl : n ≤ 131008 := by omega
  have H := Lib.hid (And.intro hroom hturn)
  clear hs hf hroom hturn hR ht hn
  go_enter Try.func36, Try.ntmps36
  go_wp2_with fail
  refine Calls.mono H.out.1 ?_
  rintro e w1 ⟨rfl, rfl⟩
  go_wp2_with fail
  refine Calls.mono H.out.2 ?_
  rintro e w2 ⟨rfl, hk2⟩
  have HK := Lib.hid hk2
  clear hk2
  go_wp2_with fail
  go_ret
  exact ⟨rfl, HK.out⟩
end

end Go.Proofs.Ytecjhaohabjkbaa
