/-
  For every texts each Save is a turn, and each is written where the one ahead of the last stood: heliographlaw08.SlotsTurns answers true, and what came in reads as before. No condition.
-/
import Derived.Test.YtecjhaohabjkbaaRows
import Derived.ProofKit
import Derived.OpenShut
import Derived.ShutString
import Derived.ChangeOld
import Derived.Carry
import Derived.Test.YtecjhaohabjkbaaP19
import Derived.Test.YtecjhaohabjkbaaSkip
namespace Go.Proofs.Ytecjhaohabjkbaa.vSlotsTurns
open Go.ChangeShapes Go.WideShapes Go.ChangeAt Go.RowKit
open Go.ChangeMaps (open_string shut_string)
set_option linter.unusedVariables false

theorem saveTo_other {l : List Sec} {cb : List Int} {ct : Nat} (h : Good l cb ct) {b : List Int} (hb : Wf8 b) (hn : b.length ≤ halfOf l * 64) : secAt (saveTo l [] b none).1 (1 - ct % 2) = secAt l (1 - ct % 2) := by
  have hin := h.dataW_in hb hn
  have h4 := h.fit.four
  unfold saveTo
  simp only [List.nil_append, show land l [] = l from rfl]
  rw [secAt_land_ne, secAt_land_ne]
  · intro x hx
    have := (hin x hx).2.1
    omega
  · intro x hx
    simp only [List.mem_singleton] at hx
    subst hx
    have e : (newRoot (halfOf l) l b).i = ct % 2 := by unfold newRoot; rw [h.to]
    rw [e]
    omega
theorem saveTo_this {l : List Sec} {cb : List Int} {ct : Nat} (h : Good l cb ct) {b : List Int} (hb : Wf8 b) (hn : b.length ≤ halfOf l * 64) (hct : ct < 1000000) : secAt (saveTo l [] b none).1 (ct % 2) ≠ secAt l (ct % 2) := by
  intro e
  have hg := (h.save hb hn (by omega)).2
  have h1 := (hg.some_ (by omega)).1
  rw [show (ct + 1 + 1) % 2 = ct % 2 by omega, e] at h1
  have h2 := turn_root b (ct + 1) (by omega)
  rw [← h1] at h2
  rcases Nat.eq_zero_or_pos ct with h0 | h0
  · have := (h.none_ h0).2.1
    rw [show ct % 2 = 0 by omega] at h2
    omega
  · have := (h.some_ h0).2.2
    omega

set_option maxHeartbeats 3200000 in set_option maxRecDepth 100000 in
set_option maxRecDepth 100000 in
theorem walk (A : Option Addr) (n c : Nat) (ss : List ByteArray) (fp : List Nat) (w : World) (hr : Reads w 1 A n (ss.map Value.string) fp) :
    Calls Try.prog 11 #[.slice A n c] w fun e w' => e = .returned (.bool true) ∧ Below w.heap.size w w' := by
  have H0 := Lib.hid hr
  clear hr
  go_enter Try.func11, Try.ntmps11
  go_wp2_with fail
  refine (dnew_ok 30 w (by omega) (by omega)).mono ?_
  rintro e w1 ⟨b1, f1, rfl, hd1, hk1, hn1⟩
  have H1 := Lib.hid (And.intro hd1 (And.intro hk1 hn1)); clear hd1 hk1 hn1
  have hg0 : Good (List.replicate 30 Sec.zero) [] 0 := Good.new 30 (by omega) (by omega)
  have HG := Lib.hid hg0
  clear hg0
  go_wp2_with fail
  refine Calls.mono (open_ok b1 _ [] w1 f1 H1.out.1 (HG.out.fit.mono (by omega))) ?_
  rintro e w2 ⟨gs, bs, f2, rfl, hs2, hk2, hn2⟩
  have H2 := Lib.hid (show St w2 gs bs (List.replicate 30 Sec.zero) [] f2 ∧ Keeps w w2 [] ∧ ∀ k ∈ f2, w.heap.size ≤ k from ⟨hs2, H1.out.2.1.trans hk2 (by simp), fun k hk => by have := hn2 k hk; have := H1.out.2.1.size; omega⟩)
  clear hs2 hk2 hn2 H1
  have hempty : strB [] = ⟨#[]⟩ := rfl
  go_wp2_with fail
  go_loopw [5, 4] (fun i v wr => ∃ (k : Nat) (l : List Sec) (cb : List Int) (fs : List Nat), k ≤ 12 ∧ k ≤ n ∧ i = .int .i64 k ∧ v = .string (strB cb) ∧ St wr gs bs l [] fs ∧ Good l cb k ∧ l.length = 30 ∧ Keeps w wr [] ∧ ∀ j ∈ fs, w.heap.size ≤ j) (fun i _ _ => n - (intOf i).toNat)
  case atStart => exact ⟨0, _, [], f2, by omega, by omega, rfl, by rw [hempty], H2.out.1, HG.out, by simp, H2.out.2.1, H2.out.2.2⟩
  case round =>
    obtain ⟨k, l, cb, fs, hk12, hkn, rfl, rfl, hS, hG, hl, hK, hN⟩ := hrel
    have HS := Lib.hid (And.intro hS (And.intro hG (And.intro hl (And.intro hK hN))))
    clear hS hG hl hK hN
    by_cases hlt : k < n
    · by_cases h12 : (k : Int) < 12
      · obtain ⟨b, o, u, rfl, -, hb, hu, hc⟩ := H0.out.cellAt hlt
        have hc0 := (HS.out.2.2.2.1.cell hb (by simp)).trans hc
        obtain ⟨s, rfl⟩ : ∃ s, u = .string s := by
          rw [List.getElem?_map] at hu
          cases hx : ss[k]? with
          | none => rw [hx] at hu; cases hu
          | some s => rw [hx] at hu; exact ⟨s, by simpa using hu.symm⟩
        have g1 : (0 : Int) ≤ (k : Int) := by omega
        have g2 : (k : Int) < (n : Int) := by omega
        clear hc hb hu
        by_cases hlong : (200 : Int) < (s.size : Int)
        · go_wp2_with fail
          obtain ⟨t, ht⟩ : ∃ t, t = s.extract 0 200 := ⟨_, rfl⟩
          have hts : t.size ≤ 200 := by rw [ht, ByteArray.size_extract]; omega
          rw [← ht]
          clear ht hlong hc0
          have h4 := HS.out.2.1.fit.four
          have hsm := HS.out.2.1.fit.len
          obtain ⟨m, hm⟩ : ∃ m, m = k % 2 := ⟨_, rfl⟩
          obtain ⟨m', hm'⟩ : ∃ m', m' = 1 - m := ⟨_, rfl⟩
          have hmi : (k : Int) % 2 = (m : Int) := by omega
          have hmi' : (1 : Int) - (m : Int) = (m' : Int) := by omega
          have hm2 : (m : Int) < 2 := by omega
          have hh : halfOf l = 14 := by unfold halfOf; rw [HS.out.2.2.1]
          refine Calls.mono (device_ok gs bs l [] fs wr HS.out.1 (HS.out.2.1.fit.mono (by omega))) ?_
          rintro e w3 ⟨ba, fa, rfl, hda, hk3, hn3⟩
          obtain ⟨w4, hw4⟩ : ∃ w4, w4 = Lib.bytesWorld w3 5 t := ⟨_, rfl⟩
          obtain ⟨cp, hcp⟩ : ∃ cp, cp = grownCap w3 t.size 0 5 := ⟨_, rfl⟩
          have kc := conv_str w3 t
          have hk4 := conv_keeps w3 5 t
          have hr4 := conv_reads w3 5 t
          rw [← hw4] at hk4 hr4
          rw [← hw4, ← hcp] at kc
          have hcap : t.size ≤ cp := by rw [hcp]; exact conv_cap w3 t.size _
          have hS4 : St w4 gs bs l [] fs := (HS.out.1.nil hk3).nil hk4
          have hbt : (bestM (halfOf l) (land l [])).2.2 + 1 < 18446744073709551616 := by rw [show land l [] = l from rfl, HS.out.2.1.best]; show k + 1 < _; omega
          have hsv := saveM_ok gs bs l [] fs w4 (some ⟨w3.heap.size, 0, none⟩) t.size cp (ofStr t) [w3.heap.size] hS4 (HS.out.2.1.fit.mono (by omega)) hr4 (ofStr_wf t) (fun j hj h => by
            have := HS.out.1.lt j h
            have := hk3.size
            simp at hj
            omega) (by omega) hcap hbt
          have htl : (ofStr t).length ≤ halfOf l * 64 := by rw [ofStr_length]; omega
          obtain ⟨hp1, hg1⟩ := HS.out.2.1.save (ofStr_wf t) htl (by omega)
          have hl1 : (saveTo l [] (ofStr t) none).1.length = l.length := saveTo_length _ _ _ _
          have hne := saveTo_this HS.out.2.1 (ofStr_wf t) htl (by omega)
          have heq := saveTo_other HS.out.2.1 (ofStr_wf t) htl
          rw [hp1] at hsv
          obtain ⟨l1, hl1e⟩ : ∃ l1, l1 = (saveTo l [] (ofStr t) none).1 := ⟨_, rfl⟩
          rw [← hl1e] at hsv hg1 hl1 hne heq
          rw [← hm] at hne heq
          rw [← hm'] at heq
          obtain ⟨k1, hk1e⟩ : ∃ k1, k1 = k + 1 := ⟨_, rfl⟩
          rw [← hk1e] at hg1
          have hwr : IntKind.u64.wrap ((k : Int) + 1) = (k1 : Int) := by rw [IntKind.wrap_u64]; omega
          have hw0 : IntKind.u64.wrap (k : Int) = (k : Int) := by rw [IntKind.wrap_u64]; omega
          have hHS := HS.out
          have hget : ∀ (L : List Sec), L.length = 30 → ∀ j, j < 2 → L[j]? = some (secAt L j) := fun L hL j hj => secAt_get (by omega)
          have hll := HS.out.2.2.1
          have ga := hget l hll m (by omega)
          have gc := hget l hll m' (by omega)
          have gb := hget l1 (by omega) m (by omega)
          have ge := hget l1 (by omega) m' (by omega)
          rw [heq] at ge
          obtain ⟨sa, hsa⟩ : ∃ sa, sa = secAt l m := ⟨_, rfl⟩
          obtain ⟨sb, hsb⟩ : ∃ sb, sb = secAt l1 m := ⟨_, rfl⟩
          obtain ⟨sc, hsc⟩ : ∃ sc, sc = secAt l m' := ⟨_, rfl⟩
          rw [← hsa] at ga hne
          rw [← hsb] at gb hne
          rw [← hsc] at gc ge
          have e1 : (sa.bs == sb.bs) = false := by
            simp only [beq_eq_false_iff_ne, ne_eq]
            exact fun h => hne (Sec.eq_of_bs h.symm)
          have H3 := Lib.hid (show _ ∧ _ ∧ _ ∧ _ ∧ _ from And.intro hsv (And.intro (hda.nil hk4) (And.intro (And.intro hk3 (And.intro hk4 hn3)) (And.intro hg1 hl1))))
          have HG4 := Lib.hid (And.intro ga (And.intro gb (And.intro gc (And.intro ge (And.intro hsm (And.intro hll hk1e))))))
          clear hda hk3 hn3 hk4 hr4 hS4 hbt hsv htl hp1 hg1 hl1 hne heq hl1e hHS hget hll ga gb gc ge hsa hsb hsc hw4 hcp hcap hh hm hm' hsm h4 hk1e
          have hkey := Lib.hid (show ∀ w5, SS w4 fs gs bs l1 [] w5 → DRep w5 ba l l [] fa ∧ Keeps w w5 [] ∧ ∃ f5, St w5 gs bs l1 [] f5 ∧ ∀ j ∈ f5, w.heap.size ≤ j from fun w5 hss => by
            obtain ⟨f5, hs5, hk5, hn5⟩ := hss
            have hk34 := H3.out.2.2.1.1.trans (fp1 := []) H3.out.2.2.1.2.1 (by simp)
            have hK4 := HS.out.2.2.2.1.trans (fp1 := []) hk34 (by simp)
            refine ⟨H3.out.2.1.keeps hk5 (fun j h1 h2 => by have := H3.out.2.2.1.2.2 j h1; have := HS.out.1.lt j h2; omega), hK4.trans hk5 (fun j h1 h2 => by have := HS.out.2.2.2.2 j h2; omega), f5, hs5, fun j hj => ?_⟩
            rcases hn5 j hj with h | h
            · exact HS.out.2.2.2.2 j h
            · have := hK4.size; omega)
          go_wp2_with fail
          refine H3.out.1.mono ?_
          rintro e w5 ⟨rfl, hss⟩
          obtain ⟨hd5, hK5, f5, hs5, hn5⟩ := hkey.out w5 hss
          have H5 := Lib.hid (And.intro hd5 (And.intro hK5 (And.intro hs5 hn5)))
          clear hss hd5 hK5 hs5 hn5 kc hkey
          have hld : ∀ wx g b' l' cb' ct' f', St wx g b' l' [] f' → Good l' cb' ct' → Calls Try.prog 20 #[.pointer (some ⟨g, 0, none⟩)] wx (LoadLeft wx cb') := fun wx g b' l' cb' ct' f' hs hg => by
            have := load_calls g b' l' [] f' wx hs (hg.fit.mono (by omega))
            rw [show land l' [] = l' from rfl, hg.best] at this
            exact this
          have htn : ∀ wx, St wx gs bs l1 [] f5 → Calls Try.prog 21 #[.pointer (some ⟨gs, 0, none⟩)] wx (fun e w' => e = .returned (.int .u64 k1) ∧ Keeps wx w' []) := fun wx hs => by
            have hg := H3.out.2.2.2.1
            have := turn_calls gs bs l1 [] f5 wx hs (hg.fit.mono (by omega))
            rw [show land l1 [] = l1 from rfl, hg.best] at this
            exact this
          have hdv : ∀ wx, St wx gs bs l1 [] f5 → Calls Try.prog 18 #[.pointer (some ⟨gs, 0, none⟩)] wx (DForked wx l1 l1 []) := fun wx hs => device_ok gs bs l1 [] f5 wx hs (H3.out.2.2.2.1.fit.mono (by omega))
          have HC := Lib.hid (And.intro hld (And.intro htn hdv))
          clear hld htn hdv
          go_wp2_with fail
          refine Calls.mono (HC.out.2.1 w5 H5.out.2.2.1) ?_
          rintro e w6 ⟨rfl, hk6⟩
          have H6 := Lib.hid hk6
          clear hk6
          go_wp2_with fail
          refine Calls.mono (HC.out.1 w6 gs bs l1 (ofStr t) k1 f5 (H5.out.2.2.1.nil H6.out) H3.out.2.2.2.1) ?_
          rintro e w7 ⟨A7, c7, f7, rfl, hr7, -, hk7⟩
          have kx7 := str_reads w7 A7 (ofStr t).length c7 (ofStr t) f7 hr7
          rw [strB_ofStr] at kx7
          have H7 := Lib.hid (show Keeps w5 w7 [] from H6.out.trans (fp1 := []) hk7 (by simp))
          clear hr7 hk7 H6
          go_wp2_with fail
          refine (read_ok ba l l [] fa w7 m sa (H5.out.1.nil H7.out) HG4.out.1 HG4.out.2.2.2.2.1).mono ?_
          rintro e w8 ⟨rfl, hk8⟩
          have hm8 := may_new w8 31
          obtain ⟨W8, hW8⟩ : ∃ W8, W8 = (w8.alloc (.cells Sec.zero.cells.toArray 31)).setCells w8.heap.size 0 sa.cells := ⟨_, rfl⟩
          have hb8 := blk_stored w8 31 sa
          have hK8 := keeps_stored (H7.out.trans (fp1 := []) hk8 (by simp)) 31 Sec.zero.cells sa.cells ((H7.out.trans (fp1 := []) hk8 (by simp)).size)
          rw [← hW8] at hb8 hK8
          have H8 := Lib.hid (And.intro hb8 hK8)
          clear hb8 hK8 hk8 kx7
          go_wp2_with fail
          rw [← hW8]
          clear hm8 hW8
          refine Calls.mono (HC.out.2.2 W8 (H5.out.2.2.1.nil H8.out.2)) ?_
          rintro e w9 ⟨bb, fb, rfl, hdb, hk9, -⟩
          have H9 := Lib.hid (And.intro hdb hk9)
          clear hdb hk9
          go_wp2_with fail
          refine (read_ok bb l1 l1 [] fb w9 m sb H9.out.1 HG4.out.2.1 (by have := HG4.out.2.2.2.2.1; have := H3.out.2.2.2.2; omega)).mono ?_
          rintro e w10 ⟨rfl, hk10⟩
          have hm10 := may_new w10 31
          obtain ⟨W10, hW10⟩ : ∃ W10, W10 = (w10.alloc (.cells Sec.zero.cells.toArray 31)).setCells w10.heap.size 0 sb.cells := ⟨_, rfl⟩
          have hb10 := blk_stored w10 31 sb
          have hk8' := H9.out.2.trans (fp1 := []) hk10 (by simp)
          have hK10 := keeps_stored hk8' 31 Sec.zero.cells sb.cells hk8'.size
          rw [← hW10] at hb10 hK10
          have H10 := Lib.hid (And.intro hb10 (And.intro hK10 (And.intro (H8.out.1.keeps hK10 (by simp)) (H8.out.2.trans (fp1 := []) hK10 (by simp)))))
          clear hb10 hK10 hk10 hk8'
          go_wp2_with fail
          rw [← hW10]
          clear hm10 hW10
          refine (read_ok ba l l [] fa W10 m' sc (H5.out.1.nil H10.out.2.2.2) HG4.out.2.2.1 HG4.out.2.2.2.2.1).mono ?_
          rintro e w11 ⟨rfl, hk11⟩
          have hm11 := may_new w11 31
          obtain ⟨W11, hW11⟩ : ∃ W11, W11 = (w11.alloc (.cells Sec.zero.cells.toArray 31)).setCells w11.heap.size 0 sc.cells := ⟨_, rfl⟩
          have hb11 := blk_stored w11 31 sc
          have hK11 := keeps_stored hk11 31 Sec.zero.cells sc.cells hk11.size
          rw [← hW11] at hb11 hK11
          have H11 := Lib.hid (And.intro hb11 (And.intro (H10.out.1.keeps hK11 (by simp)) (And.intro (H10.out.2.2.1.keeps hK11 (by simp)) (H10.out.2.2.2.trans (fp1 := []) hK11 (by simp)))))
          clear hb11 hK11 hk11
          go_wp2_with fail
          rw [← hW11]
          clear hm11 hW11
          refine Calls.mono (HC.out.2.2 W11 (H5.out.2.2.1.nil H11.out.2.2.2)) ?_
          rintro e w12 ⟨bc, fc, rfl, hdc, hk12, -⟩
          have H12 := Lib.hid (And.intro hdc hk12)
          clear hdc hk12
          go_wp2_with fail
          refine (read_ok bc l1 l1 [] fc w12 m' sc H12.out.1 HG4.out.2.2.2.1 (by have := HG4.out.2.2.2.2.1; have := H3.out.2.2.2.2; omega)).mono ?_
          rintro e w13 ⟨rfl, hk13⟩
          have hm13 := may_new w13 31
          obtain ⟨W13, hW13⟩ : ∃ W13, W13 = (w13.alloc (.cells Sec.zero.cells.toArray 31)).setCells w13.heap.size 0 sc.cells := ⟨_, rfl⟩
          have hb13 := blk_stored w13 31 sc
          have hk11' := H12.out.2.trans (fp1 := []) hk13 (by simp)
          have hK13 := keeps_stored hk11' 31 Sec.zero.cells sc.cells hk11'.size
          rw [← hW13] at hb13 hK13
          obtain ⟨r1, r2⟩ := row_of_range (H11.out.2.2.1.keeps hK13 (by simp)).whole sa.cells_length
          obtain ⟨r3, r4⟩ := row_of_range (H11.out.2.1.keeps hK13 (by simp)).whole sb.cells_length
          obtain ⟨r5, r6⟩ := row_of_range (H11.out.1.keeps hK13 (by simp)).whole sc.cells_length
          obtain ⟨r7, r8⟩ := row_of_range hb13.whole sc.cells_length
          have H13 := Lib.hid (H11.out.2.2.2.trans (fp1 := []) hK13 (by simp))
          clear hb13 hK13 hk13 hk11' H12
          rw [hW13] at r1 r2 r3 r4 r5 r6 r7 r8
          go_wp2_with fail
          rw [← hW13]
          clear hm13 hW13 r1 r2 r3 r4 r5 r6 r7 r8
          refine Calls.mono (open_ok ba l [] W13 fa (H5.out.1.nil H13.out) (HS.out.2.1.fit.mono (by omega))) ?_
          rintro e w14 ⟨go', bo, fo, rfl, hs14, hk14, -⟩
          have H14 := Lib.hid (And.intro hs14 (H13.out.trans (fp1 := []) hk14 (by simp)))
          clear hs14 hk14
          go_wp2_with fail
          refine Calls.mono (HC.out.1 w14 go' bo l cb k fo H14.out.1 HS.out.2.1) ?_
          rintro e w15 ⟨A15, c15, f15, rfl, hr15, -, hk15⟩
          have kx15 := str_reads w15 A15 cb.length c15 cb f15 hr15
          have H15 := Lib.hid (H14.out.2.trans (fp1 := []) hk15 (by simp))
          clear hr15 hk15
          go_wp2_with fail
          go_roundw
          case rel => exact ⟨k1, l1, ofStr t, f5, by have := HG4.out.2.2.2.2.2.2; omega, by have := HG4.out.2.2.2.2.2.2; omega, by have := HG4.out.2.2.2.2.2.2; subst this; go_num, by rw [strB_ofStr], H5.out.2.2.1.nil H15.out, H3.out.2.2.2.1, by have := H3.out.2.2.2.2; have := HG4.out.2.2.2.2.2.1; omega, H5.out.2.1.trans (fp1 := []) H15.out (by simp), H5.out.2.2.2⟩
          case measure => simp [intOf]; omega
        · go_wp2_with fail
          obtain ⟨t, ht⟩ : ∃ t, t = s := ⟨_, rfl⟩
          have hts : t.size ≤ 200 := by rw [ht]; omega
          rw [← ht]
          clear hc0
          subst ht
          clear hlong
          have h4 := HS.out.2.1.fit.four
          have hsm := HS.out.2.1.fit.len
          obtain ⟨m, hm⟩ : ∃ m, m = k % 2 := ⟨_, rfl⟩
          obtain ⟨m', hm'⟩ : ∃ m', m' = 1 - m := ⟨_, rfl⟩
          have hmi : (k : Int) % 2 = (m : Int) := by omega
          have hmi' : (1 : Int) - (m : Int) = (m' : Int) := by omega
          have hm2 : (m : Int) < 2 := by omega
          have hh : halfOf l = 14 := by unfold halfOf; rw [HS.out.2.2.1]
          refine Calls.mono (device_ok gs bs l [] fs wr HS.out.1 (HS.out.2.1.fit.mono (by omega))) ?_
          rintro e w3 ⟨ba, fa, rfl, hda, hk3, hn3⟩
          obtain ⟨w4, hw4⟩ : ∃ w4, w4 = Lib.bytesWorld w3 5 t := ⟨_, rfl⟩
          obtain ⟨cp, hcp⟩ : ∃ cp, cp = grownCap w3 t.size 0 5 := ⟨_, rfl⟩
          have kc := conv_str w3 t
          have hk4 := conv_keeps w3 5 t
          have hr4 := conv_reads w3 5 t
          rw [← hw4] at hk4 hr4
          rw [← hw4, ← hcp] at kc
          have hcap : t.size ≤ cp := by rw [hcp]; exact conv_cap w3 t.size _
          have hS4 : St w4 gs bs l [] fs := (HS.out.1.nil hk3).nil hk4
          have hbt : (bestM (halfOf l) (land l [])).2.2 + 1 < 18446744073709551616 := by rw [show land l [] = l from rfl, HS.out.2.1.best]; show k + 1 < _; omega
          have hsv := saveM_ok gs bs l [] fs w4 (some ⟨w3.heap.size, 0, none⟩) t.size cp (ofStr t) [w3.heap.size] hS4 (HS.out.2.1.fit.mono (by omega)) hr4 (ofStr_wf t) (fun j hj h => by
            have := HS.out.1.lt j h
            have := hk3.size
            simp at hj
            omega) (by omega) hcap hbt
          have htl : (ofStr t).length ≤ halfOf l * 64 := by rw [ofStr_length]; omega
          obtain ⟨hp1, hg1⟩ := HS.out.2.1.save (ofStr_wf t) htl (by omega)
          have hl1 : (saveTo l [] (ofStr t) none).1.length = l.length := saveTo_length _ _ _ _
          have hne := saveTo_this HS.out.2.1 (ofStr_wf t) htl (by omega)
          have heq := saveTo_other HS.out.2.1 (ofStr_wf t) htl
          rw [hp1] at hsv
          obtain ⟨l1, hl1e⟩ : ∃ l1, l1 = (saveTo l [] (ofStr t) none).1 := ⟨_, rfl⟩
          rw [← hl1e] at hsv hg1 hl1 hne heq
          rw [← hm] at hne heq
          rw [← hm'] at heq
          obtain ⟨k1, hk1e⟩ : ∃ k1, k1 = k + 1 := ⟨_, rfl⟩
          rw [← hk1e] at hg1
          have hwr : IntKind.u64.wrap ((k : Int) + 1) = (k1 : Int) := by rw [IntKind.wrap_u64]; omega
          have hw0 : IntKind.u64.wrap (k : Int) = (k : Int) := by rw [IntKind.wrap_u64]; omega
          have hHS := HS.out
          have hget : ∀ (L : List Sec), L.length = 30 → ∀ j, j < 2 → L[j]? = some (secAt L j) := fun L hL j hj => secAt_get (by omega)
          have hll := HS.out.2.2.1
          have ga := hget l hll m (by omega)
          have gc := hget l hll m' (by omega)
          have gb := hget l1 (by omega) m (by omega)
          have ge := hget l1 (by omega) m' (by omega)
          rw [heq] at ge
          obtain ⟨sa, hsa⟩ : ∃ sa, sa = secAt l m := ⟨_, rfl⟩
          obtain ⟨sb, hsb⟩ : ∃ sb, sb = secAt l1 m := ⟨_, rfl⟩
          obtain ⟨sc, hsc⟩ : ∃ sc, sc = secAt l m' := ⟨_, rfl⟩
          rw [← hsa] at ga hne
          rw [← hsb] at gb hne
          rw [← hsc] at gc ge
          have e1 : (sa.bs == sb.bs) = false := by
            simp only [beq_eq_false_iff_ne, ne_eq]
            exact fun h => hne (Sec.eq_of_bs h.symm)
          have H3 := Lib.hid (show _ ∧ _ ∧ _ ∧ _ ∧ _ from And.intro hsv (And.intro (hda.nil hk4) (And.intro (And.intro hk3 (And.intro hk4 hn3)) (And.intro hg1 hl1))))
          have HG4 := Lib.hid (And.intro ga (And.intro gb (And.intro gc (And.intro ge (And.intro hsm (And.intro hll hk1e))))))
          clear hda hk3 hn3 hk4 hr4 hS4 hbt hsv htl hp1 hg1 hl1 hne heq hl1e hHS hget hll ga gb gc ge hsa hsb hsc hw4 hcp hcap hh hm hm' hsm h4 hk1e
          have hkey := Lib.hid (show ∀ w5, SS w4 fs gs bs l1 [] w5 → DRep w5 ba l l [] fa ∧ Keeps w w5 [] ∧ ∃ f5, St w5 gs bs l1 [] f5 ∧ ∀ j ∈ f5, w.heap.size ≤ j from fun w5 hss => by
            obtain ⟨f5, hs5, hk5, hn5⟩ := hss
            have hk34 := H3.out.2.2.1.1.trans (fp1 := []) H3.out.2.2.1.2.1 (by simp)
            have hK4 := HS.out.2.2.2.1.trans (fp1 := []) hk34 (by simp)
            refine ⟨H3.out.2.1.keeps hk5 (fun j h1 h2 => by have := H3.out.2.2.1.2.2 j h1; have := HS.out.1.lt j h2; omega), hK4.trans hk5 (fun j h1 h2 => by have := HS.out.2.2.2.2 j h2; omega), f5, hs5, fun j hj => ?_⟩
            rcases hn5 j hj with h | h
            · exact HS.out.2.2.2.2 j h
            · have := hK4.size; omega)
          go_wp2_with fail
          refine H3.out.1.mono ?_
          rintro e w5 ⟨rfl, hss⟩
          obtain ⟨hd5, hK5, f5, hs5, hn5⟩ := hkey.out w5 hss
          have H5 := Lib.hid (And.intro hd5 (And.intro hK5 (And.intro hs5 hn5)))
          clear hss hd5 hK5 hs5 hn5 kc hkey
          have hld : ∀ wx g b' l' cb' ct' f', St wx g b' l' [] f' → Good l' cb' ct' → Calls Try.prog 20 #[.pointer (some ⟨g, 0, none⟩)] wx (LoadLeft wx cb') := fun wx g b' l' cb' ct' f' hs hg => by
            have := load_calls g b' l' [] f' wx hs (hg.fit.mono (by omega))
            rw [show land l' [] = l' from rfl, hg.best] at this
            exact this
          have htn : ∀ wx, St wx gs bs l1 [] f5 → Calls Try.prog 21 #[.pointer (some ⟨gs, 0, none⟩)] wx (fun e w' => e = .returned (.int .u64 k1) ∧ Keeps wx w' []) := fun wx hs => by
            have hg := H3.out.2.2.2.1
            have := turn_calls gs bs l1 [] f5 wx hs (hg.fit.mono (by omega))
            rw [show land l1 [] = l1 from rfl, hg.best] at this
            exact this
          have hdv : ∀ wx, St wx gs bs l1 [] f5 → Calls Try.prog 18 #[.pointer (some ⟨gs, 0, none⟩)] wx (DForked wx l1 l1 []) := fun wx hs => device_ok gs bs l1 [] f5 wx hs (H3.out.2.2.2.1.fit.mono (by omega))
          have HC := Lib.hid (And.intro hld (And.intro htn hdv))
          clear hld htn hdv
          go_wp2_with fail
          refine Calls.mono (HC.out.2.1 w5 H5.out.2.2.1) ?_
          rintro e w6 ⟨rfl, hk6⟩
          have H6 := Lib.hid hk6
          clear hk6
          go_wp2_with fail
          refine Calls.mono (HC.out.1 w6 gs bs l1 (ofStr t) k1 f5 (H5.out.2.2.1.nil H6.out) H3.out.2.2.2.1) ?_
          rintro e w7 ⟨A7, c7, f7, rfl, hr7, -, hk7⟩
          have kx7 := str_reads w7 A7 (ofStr t).length c7 (ofStr t) f7 hr7
          rw [strB_ofStr] at kx7
          have H7 := Lib.hid (show Keeps w5 w7 [] from H6.out.trans (fp1 := []) hk7 (by simp))
          clear hr7 hk7 H6
          go_wp2_with fail
          refine (read_ok ba l l [] fa w7 m sa (H5.out.1.nil H7.out) HG4.out.1 HG4.out.2.2.2.2.1).mono ?_
          rintro e w8 ⟨rfl, hk8⟩
          have hm8 := may_new w8 31
          obtain ⟨W8, hW8⟩ : ∃ W8, W8 = (w8.alloc (.cells Sec.zero.cells.toArray 31)).setCells w8.heap.size 0 sa.cells := ⟨_, rfl⟩
          have hb8 := blk_stored w8 31 sa
          have hK8 := keeps_stored (H7.out.trans (fp1 := []) hk8 (by simp)) 31 Sec.zero.cells sa.cells ((H7.out.trans (fp1 := []) hk8 (by simp)).size)
          rw [← hW8] at hb8 hK8
          have H8 := Lib.hid (And.intro hb8 hK8)
          clear hb8 hK8 hk8 kx7
          go_wp2_with fail
          rw [← hW8]
          clear hm8 hW8
          refine Calls.mono (HC.out.2.2 W8 (H5.out.2.2.1.nil H8.out.2)) ?_
          rintro e w9 ⟨bb, fb, rfl, hdb, hk9, -⟩
          have H9 := Lib.hid (And.intro hdb hk9)
          clear hdb hk9
          go_wp2_with fail
          refine (read_ok bb l1 l1 [] fb w9 m sb H9.out.1 HG4.out.2.1 (by have := HG4.out.2.2.2.2.1; have := H3.out.2.2.2.2; omega)).mono ?_
          rintro e w10 ⟨rfl, hk10⟩
          have hm10 := may_new w10 31
          obtain ⟨W10, hW10⟩ : ∃ W10, W10 = (w10.alloc (.cells Sec.zero.cells.toArray 31)).setCells w10.heap.size 0 sb.cells := ⟨_, rfl⟩
          have hb10 := blk_stored w10 31 sb
          have hk8' := H9.out.2.trans (fp1 := []) hk10 (by simp)
          have hK10 := keeps_stored hk8' 31 Sec.zero.cells sb.cells hk8'.size
          rw [← hW10] at hb10 hK10
          have H10 := Lib.hid (And.intro hb10 (And.intro hK10 (And.intro (H8.out.1.keeps hK10 (by simp)) (H8.out.2.trans (fp1 := []) hK10 (by simp)))))
          clear hb10 hK10 hk10 hk8'
          go_wp2_with fail
          rw [← hW10]
          clear hm10 hW10
          refine (read_ok ba l l [] fa W10 m' sc (H5.out.1.nil H10.out.2.2.2) HG4.out.2.2.1 HG4.out.2.2.2.2.1).mono ?_
          rintro e w11 ⟨rfl, hk11⟩
          have hm11 := may_new w11 31
          obtain ⟨W11, hW11⟩ : ∃ W11, W11 = (w11.alloc (.cells Sec.zero.cells.toArray 31)).setCells w11.heap.size 0 sc.cells := ⟨_, rfl⟩
          have hb11 := blk_stored w11 31 sc
          have hK11 := keeps_stored hk11 31 Sec.zero.cells sc.cells hk11.size
          rw [← hW11] at hb11 hK11
          have H11 := Lib.hid (And.intro hb11 (And.intro (H10.out.1.keeps hK11 (by simp)) (And.intro (H10.out.2.2.1.keeps hK11 (by simp)) (H10.out.2.2.2.trans (fp1 := []) hK11 (by simp)))))
          clear hb11 hK11 hk11
          go_wp2_with fail
          rw [← hW11]
          clear hm11 hW11
          refine Calls.mono (HC.out.2.2 W11 (H5.out.2.2.1.nil H11.out.2.2.2)) ?_
          rintro e w12 ⟨bc, fc, rfl, hdc, hk12, -⟩
          have H12 := Lib.hid (And.intro hdc hk12)
          clear hdc hk12
          go_wp2_with fail
          refine (read_ok bc l1 l1 [] fc w12 m' sc H12.out.1 HG4.out.2.2.2.1 (by have := HG4.out.2.2.2.2.1; have := H3.out.2.2.2.2; omega)).mono ?_
          rintro e w13 ⟨rfl, hk13⟩
          have hm13 := may_new w13 31
          obtain ⟨W13, hW13⟩ : ∃ W13, W13 = (w13.alloc (.cells Sec.zero.cells.toArray 31)).setCells w13.heap.size 0 sc.cells := ⟨_, rfl⟩
          have hb13 := blk_stored w13 31 sc
          have hk11' := H12.out.2.trans (fp1 := []) hk13 (by simp)
          have hK13 := keeps_stored hk11' 31 Sec.zero.cells sc.cells hk11'.size
          rw [← hW13] at hb13 hK13
          obtain ⟨r1, r2⟩ := row_of_range (H11.out.2.2.1.keeps hK13 (by simp)).whole sa.cells_length
          obtain ⟨r3, r4⟩ := row_of_range (H11.out.2.1.keeps hK13 (by simp)).whole sb.cells_length
          obtain ⟨r5, r6⟩ := row_of_range (H11.out.1.keeps hK13 (by simp)).whole sc.cells_length
          obtain ⟨r7, r8⟩ := row_of_range hb13.whole sc.cells_length
          have H13 := Lib.hid (H11.out.2.2.2.trans (fp1 := []) hK13 (by simp))
          clear hb13 hK13 hk13 hk11' H12
          rw [hW13] at r1 r2 r3 r4 r5 r6 r7 r8
          go_wp2_with fail
          rw [← hW13]
          clear hm13 hW13 r1 r2 r3 r4 r5 r6 r7 r8
          refine Calls.mono (open_ok ba l [] W13 fa (H5.out.1.nil H13.out) (HS.out.2.1.fit.mono (by omega))) ?_
          rintro e w14 ⟨go', bo, fo, rfl, hs14, hk14, -⟩
          have H14 := Lib.hid (And.intro hs14 (H13.out.trans (fp1 := []) hk14 (by simp)))
          clear hs14 hk14
          go_wp2_with fail
          refine Calls.mono (HC.out.1 w14 go' bo l cb k fo H14.out.1 HS.out.2.1) ?_
          rintro e w15 ⟨A15, c15, f15, rfl, hr15, -, hk15⟩
          have kx15 := str_reads w15 A15 cb.length c15 cb f15 hr15
          have H15 := Lib.hid (H14.out.2.trans (fp1 := []) hk15 (by simp))
          clear hr15 hk15
          go_wp2_with fail
          go_roundw
          case rel => exact ⟨k1, l1, ofStr t, f5, by have := HG4.out.2.2.2.2.2.2; omega, by have := HG4.out.2.2.2.2.2.2; omega, by have := HG4.out.2.2.2.2.2.2; subst this; go_num, by rw [strB_ofStr], H5.out.2.2.1.nil H15.out, H3.out.2.2.2.1, by have := H3.out.2.2.2.2; have := HG4.out.2.2.2.2.2.1; omega, H5.out.2.1.trans (fp1 := []) H15.out (by simp), H5.out.2.2.2⟩
          case measure => simp [intOf]; omega
      · have h12' : (12 : Int) ≤ (k : Int) := by omega
        have hc12 : ((k : Int) < 12) = False := by simp; omega
        have hh : halfOf l * 64 = 896 := by unfold halfOf; rw [HS.out.2.2.1]
        have hrm := fun wx (hk : Keeps wr wx []) => room_calls gs bs l [] fs wx (HS.out.1.nil hk) (HS.out.2.1.fit.mono (by omega))
        rw [hh] at hrm
        have HR := Lib.hid hrm
        clear hrm hh
        clear h12 hk12 h12'
        go_wp2_with fail
        refine (live_calls wr).mono ?_
        rintro e w3 ⟨rfl, hk3⟩
        have HK := Lib.hid hk3
        clear hk3
        go_wp2_with fail
        refine (HR.out w3 HK.out).mono ?_
        rintro e w4 ⟨rfl, rfl⟩
        go_wp2_with fail
        go_ret
        exact ⟨by simp, (HS.out.2.2.2.1.trans (fp1 := []) HK.out (by simp)).below (Nat.le_refl _) (by simp)⟩
    · have hh : halfOf l * 64 = 896 := by unfold halfOf; rw [HS.out.2.2.1]
      have hrm := fun wx (hk : Keeps wr wx []) => room_calls gs bs l [] fs wx (HS.out.1.nil hk) (HS.out.2.1.fit.mono (by omega))
      rw [hh] at hrm
      have HR := Lib.hid hrm
      clear hrm hh
      clear hk12 hkn
      go_wp2_with fail
      refine (live_calls wr).mono ?_
      rintro e w3 ⟨rfl, hk3⟩
      have HK := Lib.hid hk3
      clear hk3
      go_wp2_with fail
      refine (HR.out w3 HK.out).mono ?_
      rintro e w4 ⟨rfl, rfl⟩
      go_wp2_with fail
      go_ret
      exact ⟨by simp, (HS.out.2.2.2.1.trans (fp1 := []) HK.out (by simp)).below (Nat.le_refl _) (by simp)⟩

/-! ### the row (its frame is printed by gen.py; the walk is above) -/
theorem own : ownKnob Try.prog.godebug = none := by kernel_rfl
theorem laidOut : laidOutB Try.prog = true := by kernel_rfl
set_option maxRecDepth 100000 in
theorem lifted (os : Os) (started : os.Started) (H : Type) (enc : TypeId × Value → H) :
    ReturnsInHanded {} Try.checked os 11 .any (Rows.slotsTurnsSpec.pre6 enc Try.prog Try.f11 Rows.slotsTurnsRow.domain false) (Rows.slotsTurnsSpec.post enc Try.prog Try.f11 false true false false) := by
  refine returnsInHanded_of_change (C := Try.checked) own started (by kernel_rfl) Try.func11
    (ChangeSpec.witness6 (enc := enc) (C := Try.checked) false ⟨#[], #[.slice none 0 0], []⟩ 8 (by kernel_rfl) (by kernel_rfl) (by kernel_rfl) (by kernel_rfl)) ?_
  intro W base args ds gs before hval0 hW hcnd _
  have hval : ∀ (j : Nat) t v, Try.f11.params[j]? = some t → args[j]? = some v → Value.okWide Try.prog W .any base t v := hval0
  have hW' := hW
  obtain ⟨p, q, hA0, hV, rfl, hfz, hnd⟩ := hW
  have hA : DataW.TrodAll enc Try.prog W 0 (fun _ => true) true Try.f11.params.toList args.toList ds p := hA0
  rw [Try.params11] at hA hval
  obtain ⟨v0, vs0, d0, ds0, p0, q0, hargs, rfl, rfl, h0, r0⟩ := trodAll_cons hA
  obtain ⟨rfl, rfl, rfl⟩ := trodAll_nil r0
  obtain rfl : args = #[v0] := by cases args; simp_all
  obtain ⟨rfl, rfl⟩ := trodVars_none hV
  have k0 := h0
  have lt0 : ∀ x ∈ p0, x.block < W.heap.size := by obtain ⟨m, hm⟩ := k0; exact DataW.trod_lt m _ _ _ hm
  obtain ⟨a0, len0, cap0, rfl⟩ := okWide_slice Try.underlying66 (hval 0 66 v0 rfl rfl)
  obtain ⟨fuel0, hf0⟩ := h0
  obtain ⟨x0, fp0, w0, wl0⟩ := open_reads_strs (enc := enc) (P := Try.prog) Try.underlying66 Try.underlying9 (by kernel_rfl) (by simpa [Value.cells] using hf0)
  clear hA0 hval0
  refine (walk a0 len0 cap0 x0 fp0 W w0).mono fun e W' ⟨he, bel⟩ => ?_
  subst he
  exact ⟨_, rfl, _, _, _, [], _, [], hW', trodAll_mk1 (shut_bool Try.underlying4 _), (trodAll_cons_mk (Below.trod laidOut (by kernel_rfl) (of_decide_eq_true (by kernel_rfl)) k0 bel lt0) trodAll_mk0), rfl, bel.frame _, fun h => by cases h⟩

theorem over : Rows.slotsTurnsRow.holds Try.pinned (OpenSpec.ofChange Rows.slotsTurnsSpec) :=
  OpenClaim.holds_of_wide 11 Try.f11 rfl rfl rfl rfl rfl rfl rfl ⟨rfl, rfl, rfl, rfl, rfl⟩ rfl rfl rfl rfl rfl (by kernel_rfl) Try.func11 (by kernel_rfl)
    (of_decide_eq_true (by kernel_rfl)) (by unfold Func.isWrapper; first | (rw [if_pos (by decide +kernel)]; kernel_rfl) | (rw [if_neg (by decide +kernel)]; exact ⟨rfl, rfl⟩))
    (fun os started H enc _ => lifted os started H enc)

theorem proved : Rows.SlotsTurnsSaid := over
#print axioms proved
end Go.Proofs.Ytecjhaohabjkbaa.vSlotsTurns
