/-
  CONTRACTS: heliographlaw08.same.
-/
import Derived.Test.YtecjhaohabjkbaaP15
namespace Go.Proofs.Ytecjhaohabjkbaa
open Go.RowKit
set_option linter.unusedVariables false

set_option maxHeartbeats 3200000 in set_option maxRecDepth 100000 in
set_option maxRecDepth 100000 in
theorem psame_calls (gs bs gr br : Nat) (l : List Sec) (cb : List Int) (ct : Nat) (fs fr : List Nat) (w : World) (h : SBoth w gs bs gr br l cb ct fs fr) :
    Calls Try.prog 29 #[.pointer (some ⟨gs, 0, none⟩), .pointer (some ⟨gr, 0, none⟩)] w fun e w' => e = .returned (.bool true) ∧ Keeps w w' [] := by
  have hsm := h.good.fit.len
  have hf : Fit 50000 l [] := h.good.fit.mono (by omega)
  have hf2 : Fit 100000 l [] := h.good.fit.mono (by omega)
  have hbest : bestM (halfOf l) (land l []) = (if ct = 0 then 0 else (ct + 1) % 2, cb, ct) := h.good.best
  have H := Lib.hid (And.intro h (And.intro hf (And.intro hf2 hbest)))
  clear h hf hf2 hbest
  go_enter Try.func29, Try.ntmps29
  go_wp2_with fail
  refine Calls.mono (device_ok gs bs l [] fs w H.out.1.s H.out.2.2.1) ?_
  rintro e w1 ⟨ba, fa, rfl, hda, hk1, -⟩
  have H1 := Lib.hid (And.intro hda hk1)
  clear hda hk1
  go_wp2_with fail
  refine Calls.mono (rdevice_ok gr br l [] fr w1 (H.out.1.r.nil H1.out.2) H.out.2.2.1) ?_
  rintro e w2 ⟨bb, fb, rfl, hdb, hk2, -⟩
  have H2 := Lib.hid (show DRep w2 ba l l [] fa ∧ RRep w2 bb l [] fb ∧ Keeps w w2 [] from ⟨H1.out.1.nil hk2, hdb, H1.out.2.trans hk2 (by simp)⟩)
  clear hdb hk2 H1
  go_wp2_with fail
  go_loopw [7] (fun v wr => ∃ i : Nat, v = .int .i64 i ∧ i ≤ l.length ∧ Keeps w2 wr []) (fun v _ => (l.length - intOf v).toNat)
  case atStart => exact ⟨0, rfl, by omega, Keeps.refl _ _⟩
  case round =>
    obtain ⟨i, rfl, h2, hK⟩ := hrel
    have HK := Lib.hid hK
    clear hK
    by_cases hle : i < l.length
    · obtain ⟨s, hs⟩ : ∃ s, l[i]? = some s := ⟨_, List.getElem?_eq_getElem hle⟩
      have hlt : (i : Int) < (l.length : Int) := by omega
      go_wp2_with fail
      refine (rsize_calls bb l [] fb _ (H2.out.2.1.nil HK.out)).mono ?_
      rintro e w3 ⟨rfl, rfl⟩
      go_wp2_with fail
      refine (read_ok ba l l [] fa _ i s (H2.out.1.nil HK.out) hs hsm).mono ?_
      rintro e w3 ⟨rfl, hk3⟩
      have HK2 := Lib.hid (HK.out.trans hk3 (by simp)); clear hk3
      have hm2 := may_new w3 31
      have hb3 := blk_stored w3 31 s
      have hk3 := keeps_stored HK2.out 31 Sec.zero.cells s.cells HK2.out.size
      have H3 := Lib.hid (And.intro hb3 hk3); clear hb3 hk3
      go_wp2_with fail
      refine (rread_ok bb l [] fb _ i s (H2.out.2.1.nil H3.out.2) hs hsm (by simp)).mono ?_
      rintro e w4 ⟨rfl, hk4⟩
      have hrd : readAt s [] i = s := rfl
      rw [hrd]
      clear hrd
      have hb4 := H3.out.1.keeps hk4 (by simp)
      have hK4 := H3.out.2.trans hk4 (by simp)
      have hm4 := may_new w4 62
      have hb5 := blk_stored w4 62 s
      have hk5 := keeps_stored (Keeps.refl w4 []) 62 Sec.zero.cells s.cells (Nat.le_refl _)
      obtain ⟨r1, r2⟩ := row_of_range (hb4.keeps hk5 (by simp)).whole s.cells_length
      obtain ⟨r3, r4⟩ := row_of_range hb5.whole s.cells_length
      have H5 := Lib.hid (hK4.trans hk5 (by simp))
      clear hb4 hK4 hb5 hk5 hk4
      go_wp2_with fail
      go_roundw
      case rel => exact ⟨i + 1, by go_num, by omega, H5.out⟩
      case measure => simp [intOf]; omega
    · obtain rfl : i = l.length := by omega
      clear hle h2
      go_wp2_with fail
      refine (rsize_calls bb l [] fb _ (H2.out.2.1.nil HK.out)).mono ?_
      rintro e w3 ⟨rfl, rfl⟩
      go_wp2_with fail
      have hld : ∀ wx, Keeps w wx [] → Calls Try.prog 20 #[.pointer (some ⟨gs, 0, none⟩)] wx (LoadLeft wx cb) := fun wx hk => by
        have := load_calls gs bs l [] fs wx (H.out.1.s.nil hk) H.out.2.2.1
        rwa [H.out.2.2.2] at this
      have hrg : ∀ wx, Keeps w wx [] → RGood wx gr br l [] fr := fun wx hk => ⟨H.out.1.r.nil hk, H.out.2.2.1⟩
      have hrld : ∀ wx, Keeps w wx [] → Calls Try.prog 56 #[.pointer (some ⟨gr, 0, none⟩)] wx (LoadLeft wx cb) := fun wx hk => by
        have := rload_calls gr br l [] fr wx (hrg wx hk)
        rwa [H.out.2.2.2] at this
      have htn : ∀ wx, Keeps w wx [] → Calls Try.prog 21 #[.pointer (some ⟨gs, 0, none⟩)] wx (fun e w' => e = .returned (.int .u64 ct) ∧ Keeps wx w' []) := fun wx hk => by
        have := turn_calls gs bs l [] fs wx (H.out.1.s.nil hk) H.out.2.2.1
        rwa [H.out.2.2.2] at this
      have hrtn : ∀ wx, Keeps w wx [] → Calls Try.prog 57 #[.pointer (some ⟨gr, 0, none⟩)] wx (fun e w' => e = .returned (.int .u64 ct) ∧ Keeps wx w' []) := fun wx hk => by
        have := rturn_calls gr br l [] fr wx (hrg wx hk)
        rwa [H.out.2.2.2] at this
      have hrm := fun wx (hk : Keeps w wx []) => room_calls gs bs l [] fs wx (H.out.1.s.nil hk) H.out.2.2.1
      have hrrm := fun wx (hk : Keeps w wx []) => rroom_calls gr br l [] fr wx (hrg wx hk)
      have HC := Lib.hid (And.intro hld (And.intro hrld (And.intro htn (And.intro hrtn (And.intro hrm hrrm)))))
      clear hld hrld htn hrtn hrm hrrm hrg
      have hkd : Keeps w2 wr.drew [] := HK.out.trans (Keeps.refl wr []).drew (by simp)
      have HD := Lib.hid (show Keeps w2 wr.drew [] ∧ Keeps w wr.drew [] from ⟨hkd, H2.out.2.2.trans hkd (by simp)⟩)
      clear hkd HK hsm
      go_region_held_law (fun w' => True) (trivial)
        (first
          | (go_at_call 45
             refine (size_calls ba l l [] fa _ (H2.out.1.nil HD.out.1)).mono ?_
             rintro e w5 ⟨rfl, rfl⟩)
          | (go_at_call 54
             refine (rsize_calls bb l [] fb _ (H2.out.2.1.nil HD.out.1)).mono ?_
             rintro e w5 ⟨rfl, rfl⟩)
          | (go_at_call 20
             refine Calls.mono (HC.out.1 _ HD.out.2) ?_
             rintro e w6 ⟨A6, c6, f6, rfl, hr6, hf6, hk6⟩
             have kx6 := str_reads w6 A6 cb.length c6 cb f6 hr6
             have H6 := Lib.hid (And.intro (HD.out.2.trans (fp1 := []) hk6 (by simp)) hr6)
             clear hr6 hf6 hk6)
          | (go_at_call 56
             refine Calls.mono (HC.out.2.1 _ H6.out.1) ?_
             rintro e w7 ⟨A7, c7, f7, rfl, hr7, hf7, hk7⟩
             have kx7 := str_reads w7 A7 cb.length c7 cb f7 hr7
             have kx8 := str_reads w7 A6 cb.length c6 cb f6 (H6.out.2.keeps hk7 (by simp))
             have H7 := Lib.hid (H6.out.1.trans (fp1 := []) hk7 (by simp))
             clear hr7 hf7 hk7)
          | (go_at_call 21
             refine Calls.mono (HC.out.2.2.1 _ H7.out) ?_
             rintro e w8 ⟨rfl, hk8⟩
             have H8 := Lib.hid (H7.out.trans (fp1 := []) hk8 (by simp))
             clear hk8)
          | (go_at_call 57
             refine Calls.mono (HC.out.2.2.2.1 _ H8.out) ?_
             rintro e w9 ⟨rfl, hk9⟩
             have H9 := Lib.hid (H8.out.trans (fp1 := []) hk9 (by simp))
             clear hk9)
          | (go_at_call 27
             refine Calls.mono (HC.out.2.2.2.2.1 _ H9.out) ?_
             rintro e w10 ⟨rfl, rfl⟩)
          | (go_at_call 58
             refine Calls.mono (HC.out.2.2.2.2.2 _ H9.out) ?_
             rintro e w10 ⟨rfl, rfl⟩))
      all_goals
        go_wp2_with fail
        go_ret
        exact ⟨by simp, H9.out⟩

end Go.Proofs.Ytecjhaohabjkbaa
