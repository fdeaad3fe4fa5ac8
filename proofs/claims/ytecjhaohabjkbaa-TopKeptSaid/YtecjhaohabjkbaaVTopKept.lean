/-
  For every texts that are saved, and wherever the power goes, what was saved last is there, or what was being saved when it went: heliographtop.TopKept answers true, and what came in reads as before. No condition.
-/
import Derived.Test.YtecjhaohabjkbaaRows
import Derived.ProofKit
import Derived.OpenShut
import Derived.ShutString
import Derived.ChangeOld
import Derived.Carry
import Derived.Test.YtecjhaohabjkbaaP19
namespace Go.Proofs.Ytecjhaohabjkbaa.vTopKept
open Go.ChangeShapes Go.WideShapes Go.ChangeAt Go.RowKit
open Go.ChangeMaps (open_string shut_string)
set_option linter.unusedVariables false

set_option maxHeartbeats 6400000 in set_option maxRecDepth 100000 in
set_option maxRecDepth 100000 in
theorem walk (A : Option Addr) (n c : Nat) (ss : List ByteArray) (fp : List Nat) (B : Option Addr) (m cB : Nat) (zs : List Int) (fB : List Nat) (S : Option Addr) (sn cS : Nat) (sv : List Bool) (fS : List Nat) (w : World)
    (hr : Reads w 1 A n (ss.map Value.string) fp) (hB : Reads w 1 B m (bytes zs) fB) (hBl : zs.length = m) (hBw : ∀ z ∈ zs, (Lit.int .u8 z).wf = true) (hS : Reads w 1 S sn (bools sv) fS) (hSl : sv.length = sn) (hSm : sn ≤ maxLen) :
    Calls Try.prog 13 #[.slice A n c, .slice B m cB, .slice S sn cS] w fun e w' => e = .returned (.bool true) ∧ Below w.heap.size w w' := by
  subst hSl
  have H0 := Lib.hid (And.intro hr (And.intro hB (And.intro hBw (And.intro hS hSm))))
  clear hr hB hBl hBw hS hSm
  go_enter Try.func13, Try.ntmps13
  go_wp2_with fail
  refine (dnew_ok 40 w (by omega) (by omega)).mono ?_
  rintro e w1 ⟨b1, f1, rfl, hd1, hk1, hn1⟩
  have H1 := Lib.hid (And.intro hd1 (And.intro hk1 hn1)); clear hd1 hk1 hn1
  have hg0 : Good (List.replicate 40 Sec.zero) [] 0 := Good.new 40 (by omega) (by omega)
  have HG := Lib.hid hg0
  clear hg0
  go_wp2_with fail
  refine Calls.mono (open_ok b1 _ [] w1 f1 H1.out.1 (HG.out.fit.mono (by omega))) ?_
  rintro e w2 ⟨g2, b2, f2, rfl, hs2, hk2, hn2⟩
  have H2 := Lib.hid (show St w2 g2 b2 (List.replicate 40 Sec.zero) [] f2 ∧ Keeps w w2 [] ∧ ∀ k ∈ f2, w.heap.size ≤ k from ⟨hs2, H1.out.2.1.trans hk2 (by simp), fun k hk => by have := hn2 k hk; have := H1.out.2.1.size; omega⟩)
  clear hs2 hk2 hn2 H1
  have hempty : strB [] = ⟨#[]⟩ := rfl
  go_wp2_with fail
  go_loopw [10, 9, 8] (fun i v p wr => ∃ (k : Nat) (l : List Sec) (cb : List Int) (ct gs bs : Nat) (fs : List Nat), k ≤ 12 ∧ k ≤ n ∧ i = .int .i64 k ∧ v = .string (strB cb) ∧ p = .pointer (some ⟨gs, 0, none⟩) ∧ St wr gs bs l [] fs ∧ Good l cb ct ∧ ct ≤ k ∧ l.length = 40 ∧ Keeps w wr [] ∧ ∀ j ∈ fs, w.heap.size ≤ j) (fun i _ _ _ => n - (intOf i).toNat)
  case atStart => exact ⟨0, _, [], 0, g2, b2, f2, by omega, by omega, rfl, by rw [hempty], rfl, H2.out.1, HG.out, by omega, by simp, H2.out.2.1, H2.out.2.2⟩
  case round =>
    obtain ⟨k, l, cb, ct, gs, bs, fs, hk12, hkn, rfl, rfl, rfl, hS, hG, hct, hl, hK, hN⟩ := hrel
    have HS := Lib.hid (And.intro hS (And.intro hG (And.intro hl (And.intro hK (And.intro hN hct)))))
    clear hS hG hl hK hN hct
    have hh : halfOf l * 64 = 1216 := by unfold halfOf; rw [HS.out.2.2.1]
    have hrm := fun wx (hk : Keeps wr wx []) => room_calls gs bs l [] fs wx (HS.out.1.nil hk) (HS.out.2.1.fit.mono (by omega))
    rw [hh] at hrm
    have HR := Lib.hid (And.intro hrm hh)
    clear hrm hh
    by_cases hlt : k < n
    · by_cases h12 : (k : Int) < 12
      · obtain ⟨b, o, u, rfl, -, hb, hu, hc⟩ := H0.out.1.cellAt hlt
        have hc0 := (HS.out.2.2.2.1.cell hb (by simp)).trans hc
        obtain ⟨s, rfl⟩ : ∃ s, u = .string s := by
          rw [List.getElem?_map] at hu
          cases hx : ss[k]? with
          | none => rw [hx] at hu; cases hu
          | some s => rw [hx] at hu; exact ⟨s, by simpa using hu.symm⟩
        have g1 : (0 : Int) ≤ (k : Int) := by omega
        have g2 : (k : Int) < (n : Int) := by omega
        clear hc hb hu
        by_cases hlong : (1216 : Int) < (s.size : Int)
        · go_wp2_with fail
          refine (HR.out.1 wr (Keeps.refl _ _)).mono ?_
          rintro e w4 ⟨rfl, rfl⟩
          go_wp2_with fail
          refine (HR.out.1 wr (Keeps.refl _ _)).mono ?_
          rintro e w4 ⟨rfl, rfl⟩
          go_upto_region 12 with fail
          obtain ⟨t, ht⟩ : ∃ t, t = s.extract 0 1216 := ⟨_, rfl⟩
          have hts : t.size ≤ 1216 := by rw [ht, ByteArray.size_extract]; omega
          rw [← ht]
          clear ht hlong hc0
          by_cases hcut : k < m
          · obtain ⟨bc, oc, uc, rfl, -, hbb, hux, hcc⟩ := H0.out.2.1.cellAt hcut
            have hcc0 := (HS.out.2.2.2.1.cell (p := ⟨bc, oc + k, none⟩) hbb (by simp)).trans hcc
            obtain ⟨z, rfl, hz8⟩ : ∃ z : Nat, uc = .int .u8 z ∧ z < 256 := by
              unfold bytes at hux
              rw [List.getElem?_map] at hux
              cases hx : zs[k]? with
              | none => rw [hx] at hux; cases hux
              | some y =>
                rw [hx] at hux
                obtain ⟨z, rfl, hz⟩ := u8_nat (H0.out.2.2.1 y (List.mem_of_getElem? hx))
                exact ⟨z, by simpa using hux.symm, hz⟩
            have g3 : (k : Int) < (m : Int) := by omega
            have hz0 : (0 : Int) ≤ (z : Int) := by omega
            have hz1 : (z : Int) < 256 := by omega
            have hbw : bc < wr.heap.size := Nat.lt_of_lt_of_le hbb HS.out.2.2.2.1.size
            clear hux hcc hbb
            by_cases heven : z % 2 = 0
            · have he2 : (z : Int) % 2 = 0 := by omega
              clear heven
              obtain ⟨w4, hw4⟩ : ∃ w4, w4 = Lib.bytesWorld wr 5 t := ⟨_, rfl⟩
              obtain ⟨cp, hcp⟩ : ∃ cp, cp = grownCap wr t.size 0 5 := ⟨_, rfl⟩
              have kc := conv_str wr t
              have hk4 := conv_keeps wr 5 t
              have hr4 := conv_reads wr 5 t
              rw [← hw4] at hk4 hr4
              rw [← hw4, ← hcp] at kc
              have hcap : t.size ≤ cp := by rw [hcp]; exact conv_cap wr t.size _
              have hS4 : St w4 gs bs l [] fs := HS.out.1.nil hk4
              have hK4 : Keeps w w4 [] := HS.out.2.2.2.1.trans hk4 (by simp)
              have hbt : (bestM (halfOf l) (land l [])).2.2 + 1 < 18446744073709551616 := by rw [show land l [] = l from rfl, HS.out.2.1.best]; show ct + 1 < _; have := HS.out.2.2.2.2.2; omega
              have htl : (ofStr t).length ≤ halfOf l * 64 := by rw [ofStr_length, HR.out.2]; exact hts
              have hdis : ∀ j ∈ [wr.heap.size], j ∉ fs := fun j hj h => by
                have := HS.out.1.lt j h
                simp at hj
                omega
              have hctk := HS.out.2.2.2.2.2
              have hcc4 := (hk4.cell (p := ⟨bc, oc + k, none⟩) hbw (by simp)).trans hcc0
              obtain ⟨W, hW⟩ : ∃ W, W = z / 2 % 24 := ⟨_, rfl⟩
              have hq : (z : Int) / 2 = ((z / 2 : Nat) : Int) := by omega
              have hq2 : ((z / 2 : Nat) : Int) % 24 = (W : Int) := by omega
              obtain ⟨zq, hzq⟩ : ∃ zq, zq = z / 2 := ⟨_, rfl⟩
              rw [← hzq] at hq hq2
              have hzq1 : (zq : Int) < 256 := by omega
              have hsv := torn_ok gs bs l [] fs w4 (some ⟨wr.heap.size, 0, none⟩) S t.size cp cS (ofStr t) [wr.heap.size] sv fS W (by omega) hS4 (HS.out.2.1.fit.mono (by omega)) hr4 (ofStr_wf t) hdis (H0.out.2.2.2.1.keeps hK4 (by simp)) H0.out.2.2.2.2
                (fun j h1 h2 => by have := H0.out.2.2.2.1.lt j h1; have := HS.out.2.2.2.2.1 j h2; omega) (H0.out.2.2.2.1.keeps hK4 (by simp)).lt (by rw [HR.out.2]; exact hts) hcap hbt
              have hgt := HS.out.2.1.torn (ofStr_wf t) htl (by omega) W sv
              obtain ⟨l1, hl1e⟩ : ∃ l1, l1 = land (saveTo l [] (ofStr t) (some W)).1 (surv (saveTo l [] (ofStr t) (some W)).2 sv) := ⟨_, rfl⟩
              have hl1 : l1.length = l.length := by rw [hl1e, land_length, saveTo_length]
              rw [← hl1e] at hsv hgt
              obtain ⟨cb1, ct1, hg1, hct1, hor⟩ : ∃ cb1 ct1, Good l1 cb1 ct1 ∧ ct1 ≤ k + 1 ∧ (strB cb1 = strB cb ∨ strB cb1 = t) := by
                rcases hgt with h | h
                · exact ⟨cb, ct, h, by omega, .inl rfl⟩
                · exact ⟨ofStr t, ct + 1, h, by omega, .inr (strB_ofStr t)⟩
              have H3 := Lib.hid (show _ ∧ Good l1 cb1 ct1 ∧ (l1.length = 40 ∧ ct1 ≤ k + 1 ∧ (strB cb1 = strB cb ∨ strB cb1 = t)) ∧ Keeps w w4 [] from And.intro hsv (And.intro hg1 (And.intro ⟨by have := HS.out.2.2.1; omega, hct1, hor⟩ hK4)))
              clear hk4 hr4 hcap hS4 hK4 hbt htl hdis hctk hsv hg1 hl1 hl1e hw4 hcp hct1 hor hgt hW hzq
              go_wp2_with fail
              refine H3.out.1.mono ?_
              rintro e w5 ⟨rfl, f5, hs5, hk5, hn5⟩
              have hK5 : Keeps w w5 [] := H3.out.2.2.2.trans hk5 (fun j h1 h2 => by have := HS.out.2.2.2.2.1 j h2; omega)
              have hn5' : ∀ j ∈ f5, w.heap.size ≤ j := fun j hj => by
                rcases hn5 j hj with h | h
                · exact HS.out.2.2.2.2.1 j h
                · have := H3.out.2.2.2.size; omega
              have H5 := Lib.hid (show St w5 gs bs l1 [] f5 ∧ Keeps w w5 [] ∧ (∀ j ∈ f5, w.heap.size ≤ j) ∧ Good l1 cb1 ct1 ∧ l1.length = 40 ∧ ct1 ≤ k + 1 from ⟨hs5, hK5, hn5', H3.out.2.1, H3.out.2.2.1.1, H3.out.2.2.1.2.1⟩)
              clear hs5 hk5 hn5 hK5 hn5' kc
              have hld : ∀ wx g b' f', St wx g b' l1 [] f' → Calls Try.prog 20 #[.pointer (some ⟨g, 0, none⟩)] wx (LoadLeft wx cb1) := fun wx g b' f' hs => by
                have hg := H5.out.2.2.2.1
                have := load_calls g b' l1 [] f' wx hs (hg.fit.mono (by omega))
                rw [show land l1 [] = l1 from rfl, hg.best] at this
                exact this
              have HC := Lib.hid hld
              clear hld
              have hor := H3.out.2.2.1.2.2
              obtain ⟨sb, hsb⟩ : ∃ sb, sb = strB cb1 := ⟨_, rfl⟩
              obtain ⟨sc, hsc⟩ : ∃ sc, sc = strB cb := ⟨_, rfl⟩
              rw [← hsb, ← hsc] at hor
              simp only [← hsc]
              have HB := Lib.hid hsb
              clear hsb hsc H3 hq hq2 hzq1
              go_wp2_with fail
              refine Calls.mono (HC.out w5 gs bs f5 H5.out.1) ?_
              rintro e w6 ⟨A6, c6, f6, rfl, hr6, -, hk6⟩
              have kx6 := str_reads w6 A6 cb1.length c6 cb1 f6 hr6
              rw [← HB.out] at kx6
              have H6 := Lib.hid hk6
              clear hr6 hk6
              by_cases hse : sb = sc
              · subst hse
                clear hor
                go_wp2_with fail
                refine Calls.mono (HC.out w6 gs bs f5 (H5.out.1.nil H6.out)) ?_
                rintro e w7 ⟨A7, c7, f7, rfl, hr7, -, hk7⟩
                have kx7 := str_reads w7 A7 cb1.length c7 cb1 f7 hr7
                rw [← HB.out] at kx7
                have H7 := Lib.hid (H6.out.trans (fp1 := []) hk7 (by simp))
                clear hr7 hk7
                go_wp2_with fail
                refine Calls.mono (device_ok gs bs l1 [] f5 w7 (H5.out.1.nil H7.out) (H5.out.2.2.2.1.fit.mono (by omega))) ?_
                rintro e wd ⟨ba, fa, rfl, hda, hkd, hnd⟩
                have HD := Lib.hid (And.intro hda (And.intro (H7.out.trans (fp1 := []) hkd (by simp)) hnd))
                clear hda hkd hnd
                go_wp2_with fail
                refine Calls.mono (open_ok ba l1 [] wd fa HD.out.1 (H5.out.2.2.2.1.fit.mono (by omega))) ?_
                rintro e wo ⟨go', bo, fo, rfl, hso, hko, hno⟩
                have hKo := H5.out.2.1.trans (fp1 := []) (HD.out.2.1.trans (fp1 := []) hko (by simp)) (by simp)
                have hNo : ∀ j ∈ fo, w.heap.size ≤ j := fun j hj => by
                  have := hno j hj
                  have := (H5.out.2.1.trans (fp1 := []) HD.out.2.1 (by simp)).size
                  omega
                have HO := Lib.hid (And.intro hso (And.intro hKo hNo))
                clear hso hko hno hKo hNo
                go_wp2_with fail
                refine Calls.mono (HC.out wo go' bo fo HO.out.1) ?_
                rintro e wl ⟨Al, cl, fl, rfl, hrl, -, hkl⟩
                have kxl := str_reads wl Al cb1.length cl cb1 fl hrl
                rw [← HB.out] at kxl
                have HL := Lib.hid hkl
                clear hrl hkl
                go_wp2_with fail
                go_roundw
                case rel => exact ⟨k + 1, l1, cb1, ct1, go', bo, fo, by omega, by omega, by go_num, by rw [← HB.out], rfl, HO.out.1.nil HL.out, H5.out.2.2.2.1, H5.out.2.2.2.2.2, H5.out.2.2.2.2.1, HO.out.2.1.trans (fp1 := []) HL.out (by simp), HO.out.2.2⟩
                case measure => simp [intOf]; omega
              · have hsn := str_ne hse
                have hst : sb = t := hor.resolve_left hse
                subst hst
                clear hor hse
                go_wp2_with fail
                refine Calls.mono (HC.out w6 gs bs f5 (H5.out.1.nil H6.out)) ?_
                rintro e w7 ⟨A7, c7, f7, rfl, hr7, -, hk7⟩
                have kx7 := str_reads w7 A7 cb1.length c7 cb1 f7 hr7
                rw [← HB.out] at kx7
                have H7 := Lib.hid (H6.out.trans (fp1 := []) hk7 (by simp))
                clear hr7 hk7 hsn
                go_wp2_with fail
                refine Calls.mono (device_ok gs bs l1 [] f5 w7 (H5.out.1.nil H7.out) (H5.out.2.2.2.1.fit.mono (by omega))) ?_
                rintro e wd ⟨ba, fa, rfl, hda, hkd, hnd⟩
                have HD := Lib.hid (And.intro hda (And.intro (H7.out.trans (fp1 := []) hkd (by simp)) hnd))
                clear hda hkd hnd
                go_wp2_with fail
                refine Calls.mono (open_ok ba l1 [] wd fa HD.out.1 (H5.out.2.2.2.1.fit.mono (by omega))) ?_
                rintro e wo ⟨go', bo, fo, rfl, hso, hko, hno⟩
                have hKo := H5.out.2.1.trans (fp1 := []) (HD.out.2.1.trans (fp1 := []) hko (by simp)) (by simp)
                have hNo : ∀ j ∈ fo, w.heap.size ≤ j := fun j hj => by
                  have := hno j hj
                  have := (H5.out.2.1.trans (fp1 := []) HD.out.2.1 (by simp)).size
                  omega
                have HO := Lib.hid (And.intro hso (And.intro hKo hNo))
                clear hso hko hno hKo hNo
                go_wp2_with fail
                refine Calls.mono (HC.out wo go' bo fo HO.out.1) ?_
                rintro e wl ⟨Al, cl, fl, rfl, hrl, -, hkl⟩
                have kxl := str_reads wl Al cb1.length cl cb1 fl hrl
                rw [← HB.out] at kxl
                have HL := Lib.hid hkl
                clear hrl hkl
                go_wp2_with fail
                go_roundw
                case rel => exact ⟨k + 1, l1, cb1, ct1, go', bo, fo, by omega, by omega, by go_num, by rw [← HB.out], rfl, HO.out.1.nil HL.out, H5.out.2.2.2.1, H5.out.2.2.2.2.2, H5.out.2.2.2.2.1, HO.out.2.1.trans (fp1 := []) HL.out (by simp), HO.out.2.2⟩
                case measure => simp [intOf]; omega
            · have he2 : (z : Int) % 2 = 1 := by omega
              clear heven
              obtain ⟨w4, hw4⟩ : ∃ w4, w4 = Lib.bytesWorld wr 5 t := ⟨_, rfl⟩
              obtain ⟨cp, hcp⟩ : ∃ cp, cp = grownCap wr t.size 0 5 := ⟨_, rfl⟩
              have kc := conv_str wr t
              have hk4 := conv_keeps wr 5 t
              have hr4 := conv_reads wr 5 t
              rw [← hw4] at hk4 hr4
              rw [← hw4, ← hcp] at kc
              have hcap : t.size ≤ cp := by rw [hcp]; exact conv_cap wr t.size _
              have hS4 : St w4 gs bs l [] fs := HS.out.1.nil hk4
              have hK4 : Keeps w w4 [] := HS.out.2.2.2.1.trans hk4 (by simp)
              have hbt : (bestM (halfOf l) (land l [])).2.2 + 1 < 18446744073709551616 := by rw [show land l [] = l from rfl, HS.out.2.1.best]; show ct + 1 < _; have := HS.out.2.2.2.2.2; omega
              have htl : (ofStr t).length ≤ halfOf l * 64 := by rw [ofStr_length, HR.out.2]; exact hts
              have hdis : ∀ j ∈ [wr.heap.size], j ∉ fs := fun j hj h => by
                have := HS.out.1.lt j h
                simp at hj
                omega
              have hctk := HS.out.2.2.2.2.2
              have hsv := saveM_ok gs bs l [] fs w4 (some ⟨wr.heap.size, 0, none⟩) t.size cp (ofStr t) [wr.heap.size] hS4 (HS.out.2.1.fit.mono (by omega)) hr4 (ofStr_wf t) hdis (by rw [HR.out.2]; exact hts) hcap hbt
              obtain ⟨hp1, hg1⟩ := HS.out.2.1.save (ofStr_wf t) htl (by omega)
              have hl1 : (saveTo l [] (ofStr t) none).1.length = l.length := saveTo_length _ _ _ _
              rw [hp1] at hsv
              obtain ⟨l1, hl1e⟩ : ∃ l1, l1 = (saveTo l [] (ofStr t) none).1 := ⟨_, rfl⟩
              rw [← hl1e] at hsv hg1 hl1
              obtain ⟨cb1, hcb1⟩ : ∃ cb1, cb1 = ofStr t := ⟨_, rfl⟩
              obtain ⟨ct1, hct1⟩ : ∃ ct1, ct1 = ct + 1 := ⟨_, rfl⟩
              rw [← hct1, ← hcb1] at hg1
              have hst : strB cb1 = t := by rw [hcb1]; exact strB_ofStr t
              have H3 := Lib.hid (show _ ∧ Good l1 cb1 ct1 ∧ (l1.length = 40 ∧ ct1 ≤ k + 1 ∧ strB cb1 = t) ∧ Keeps w w4 [] from And.intro hsv (And.intro hg1 (And.intro ⟨by have := HS.out.2.2.1; omega, by omega, hst⟩ hK4)))
              clear hk4 hr4 hcap hS4 hK4 hbt htl hdis hctk hsv hp1 hg1 hl1 hl1e hw4 hcp hcb1 hct1 hst
              go_wp2_with fail
              refine H3.out.1.mono ?_
              rintro e w5 ⟨rfl, f5, hs5, hk5, hn5⟩
              have hK5 : Keeps w w5 [] := H3.out.2.2.2.trans hk5 (fun j h1 h2 => by have := HS.out.2.2.2.2.1 j h2; omega)
              have hn5' : ∀ j ∈ f5, w.heap.size ≤ j := fun j hj => by
                rcases hn5 j hj with h | h
                · exact HS.out.2.2.2.2.1 j h
                · have := H3.out.2.2.2.size; omega
              have H5 := Lib.hid (show St w5 gs bs l1 [] f5 ∧ Keeps w w5 [] ∧ (∀ j ∈ f5, w.heap.size ≤ j) ∧ Good l1 cb1 ct1 ∧ l1.length = 40 ∧ ct1 ≤ k + 1 from ⟨hs5, hK5, hn5', H3.out.2.1, H3.out.2.2.1.1, H3.out.2.2.1.2.1⟩)
              clear hs5 hk5 hn5 hK5 hn5' kc
              have hld : ∀ wx g b' f', St wx g b' l1 [] f' → Calls Try.prog 20 #[.pointer (some ⟨g, 0, none⟩)] wx (LoadLeft wx cb1) := fun wx g b' f' hs => by
                have hg := H5.out.2.2.2.1
                have := load_calls g b' l1 [] f' wx hs (hg.fit.mono (by omega))
                rw [show land l1 [] = l1 from rfl, hg.best] at this
                exact this
              have HC := Lib.hid hld
              clear hld
              go_wp2_with fail
              refine Calls.mono (HC.out w5 gs bs f5 H5.out.1) ?_
              rintro e w6 ⟨A6, c6, f6, rfl, hr6, -, hk6⟩
              have kx6 := str_reads w6 A6 cb1.length c6 cb1 f6 hr6
              rw [H3.out.2.2.1.2.2] at kx6
              have H6 := Lib.hid hk6
              clear hr6 hk6
              go_wp2_with fail
              refine Calls.mono (device_ok gs bs l1 [] f5 w6 (H5.out.1.nil H6.out) (H5.out.2.2.2.1.fit.mono (by omega))) ?_
              rintro e wd ⟨ba, fa, rfl, hda, hkd, hnd⟩
              have HD := Lib.hid (And.intro hda (And.intro (H6.out.trans (fp1 := []) hkd (by simp)) hnd))
              clear hda hkd hnd
              go_wp2_with fail
              refine Calls.mono (open_ok ba l1 [] wd fa HD.out.1 (H5.out.2.2.2.1.fit.mono (by omega))) ?_
              rintro e wo ⟨go', bo, fo, rfl, hso, hko, hno⟩
              have hKo := H5.out.2.1.trans (fp1 := []) (HD.out.2.1.trans (fp1 := []) hko (by simp)) (by simp)
              have hNo : ∀ j ∈ fo, w.heap.size ≤ j := fun j hj => by
                have := hno j hj
                have := (H5.out.2.1.trans (fp1 := []) HD.out.2.1 (by simp)).size
                omega
              have HO := Lib.hid (And.intro hso (And.intro hKo hNo))
              clear hso hko hno hKo hNo
              go_wp2_with fail
              refine Calls.mono (HC.out wo go' bo fo HO.out.1) ?_
              rintro e wl ⟨Al, cl, fl, rfl, hrl, -, hkl⟩
              have kxl := str_reads wl Al cb1.length cl cb1 fl hrl
              rw [H3.out.2.2.1.2.2] at kxl
              have HL := Lib.hid hkl
              clear hrl hkl
              go_wp2_with fail
              go_roundw
              case rel => exact ⟨k + 1, l1, cb1, ct1, go', bo, fo, by omega, by omega, by go_num, by rw [H3.out.2.2.1.2.2], rfl, HO.out.1.nil HL.out, H5.out.2.2.2.1, H5.out.2.2.2.2.2, H5.out.2.2.2.2.1, HO.out.2.1.trans (fp1 := []) HL.out (by simp), HO.out.2.2⟩
              case measure => simp [intOf]; omega
          · have g3 : (m : Int) ≤ (k : Int) := by omega
            obtain ⟨w4, hw4⟩ : ∃ w4, w4 = Lib.bytesWorld wr 5 t := ⟨_, rfl⟩
            obtain ⟨cp, hcp⟩ : ∃ cp, cp = grownCap wr t.size 0 5 := ⟨_, rfl⟩
            have kc := conv_str wr t
            have hk4 := conv_keeps wr 5 t
            have hr4 := conv_reads wr 5 t
            rw [← hw4] at hk4 hr4
            rw [← hw4, ← hcp] at kc
            have hcap : t.size ≤ cp := by rw [hcp]; exact conv_cap wr t.size _
            have hS4 : St w4 gs bs l [] fs := HS.out.1.nil hk4
            have hK4 : Keeps w w4 [] := HS.out.2.2.2.1.trans hk4 (by simp)
            have hbt : (bestM (halfOf l) (land l [])).2.2 + 1 < 18446744073709551616 := by rw [show land l [] = l from rfl, HS.out.2.1.best]; show ct + 1 < _; have := HS.out.2.2.2.2.2; omega
            have htl : (ofStr t).length ≤ halfOf l * 64 := by rw [ofStr_length, HR.out.2]; exact hts
            have hdis : ∀ j ∈ [wr.heap.size], j ∉ fs := fun j hj h => by
              have := HS.out.1.lt j h
              simp at hj
              omega
            have hctk := HS.out.2.2.2.2.2
            have hsv := saveM_ok gs bs l [] fs w4 (some ⟨wr.heap.size, 0, none⟩) t.size cp (ofStr t) [wr.heap.size] hS4 (HS.out.2.1.fit.mono (by omega)) hr4 (ofStr_wf t) hdis (by rw [HR.out.2]; exact hts) hcap hbt
            obtain ⟨hp1, hg1⟩ := HS.out.2.1.save (ofStr_wf t) htl (by omega)
            have hl1 : (saveTo l [] (ofStr t) none).1.length = l.length := saveTo_length _ _ _ _
            rw [hp1] at hsv
            obtain ⟨l1, hl1e⟩ : ∃ l1, l1 = (saveTo l [] (ofStr t) none).1 := ⟨_, rfl⟩
            rw [← hl1e] at hsv hg1 hl1
            obtain ⟨cb1, hcb1⟩ : ∃ cb1, cb1 = ofStr t := ⟨_, rfl⟩
            obtain ⟨ct1, hct1⟩ : ∃ ct1, ct1 = ct + 1 := ⟨_, rfl⟩
            rw [← hct1, ← hcb1] at hg1
            have hst : strB cb1 = t := by rw [hcb1]; exact strB_ofStr t
            have H3 := Lib.hid (show _ ∧ Good l1 cb1 ct1 ∧ (l1.length = 40 ∧ ct1 ≤ k + 1 ∧ strB cb1 = t) ∧ Keeps w w4 [] from And.intro hsv (And.intro hg1 (And.intro ⟨by have := HS.out.2.2.1; omega, by omega, hst⟩ hK4)))
            clear hk4 hr4 hcap hS4 hK4 hbt htl hdis hctk hsv hp1 hg1 hl1 hl1e hw4 hcp hcb1 hct1 hst
            go_wp2_with fail
            refine H3.out.1.mono ?_
            rintro e w5 ⟨rfl, f5, hs5, hk5, hn5⟩
            have hK5 : Keeps w w5 [] := H3.out.2.2.2.trans hk5 (fun j h1 h2 => by have := HS.out.2.2.2.2.1 j h2; omega)
            have hn5' : ∀ j ∈ f5, w.heap.size ≤ j := fun j hj => by
              rcases hn5 j hj with h | h
              · exact HS.out.2.2.2.2.1 j h
              · have := H3.out.2.2.2.size; omega
            have H5 := Lib.hid (show St w5 gs bs l1 [] f5 ∧ Keeps w w5 [] ∧ (∀ j ∈ f5, w.heap.size ≤ j) ∧ Good l1 cb1 ct1 ∧ l1.length = 40 ∧ ct1 ≤ k + 1 from ⟨hs5, hK5, hn5', H3.out.2.1, H3.out.2.2.1.1, H3.out.2.2.1.2.1⟩)
            clear hs5 hk5 hn5 hK5 hn5' kc
            have hld : ∀ wx g b' f', St wx g b' l1 [] f' → Calls Try.prog 20 #[.pointer (some ⟨g, 0, none⟩)] wx (LoadLeft wx cb1) := fun wx g b' f' hs => by
              have hg := H5.out.2.2.2.1
              have := load_calls g b' l1 [] f' wx hs (hg.fit.mono (by omega))
              rw [show land l1 [] = l1 from rfl, hg.best] at this
              exact this
            have HC := Lib.hid hld
            clear hld
            go_wp2_with fail
            refine Calls.mono (HC.out w5 gs bs f5 H5.out.1) ?_
            rintro e w6 ⟨A6, c6, f6, rfl, hr6, -, hk6⟩
            have kx6 := str_reads w6 A6 cb1.length c6 cb1 f6 hr6
            rw [H3.out.2.2.1.2.2] at kx6
            have H6 := Lib.hid hk6
            clear hr6 hk6
            go_wp2_with fail
            refine Calls.mono (device_ok gs bs l1 [] f5 w6 (H5.out.1.nil H6.out) (H5.out.2.2.2.1.fit.mono (by omega))) ?_
            rintro e wd ⟨ba, fa, rfl, hda, hkd, hnd⟩
            have HD := Lib.hid (And.intro hda (And.intro (H6.out.trans (fp1 := []) hkd (by simp)) hnd))
            clear hda hkd hnd
            go_wp2_with fail
            refine Calls.mono (open_ok ba l1 [] wd fa HD.out.1 (H5.out.2.2.2.1.fit.mono (by omega))) ?_
            rintro e wo ⟨go', bo, fo, rfl, hso, hko, hno⟩
            have hKo := H5.out.2.1.trans (fp1 := []) (HD.out.2.1.trans (fp1 := []) hko (by simp)) (by simp)
            have hNo : ∀ j ∈ fo, w.heap.size ≤ j := fun j hj => by
              have := hno j hj
              have := (H5.out.2.1.trans (fp1 := []) HD.out.2.1 (by simp)).size
              omega
            have HO := Lib.hid (And.intro hso (And.intro hKo hNo))
            clear hso hko hno hKo hNo
            go_wp2_with fail
            refine Calls.mono (HC.out wo go' bo fo HO.out.1) ?_
            rintro e wl ⟨Al, cl, fl, rfl, hrl, -, hkl⟩
            have kxl := str_reads wl Al cb1.length cl cb1 fl hrl
            rw [H3.out.2.2.1.2.2] at kxl
            have HL := Lib.hid hkl
            clear hrl hkl
            go_wp2_with fail
            go_roundw
            case rel => exact ⟨k + 1, l1, cb1, ct1, go', bo, fo, by omega, by omega, by go_num, by rw [H3.out.2.2.1.2.2], rfl, HO.out.1.nil HL.out, H5.out.2.2.2.1, H5.out.2.2.2.2.2, H5.out.2.2.2.2.1, HO.out.2.1.trans (fp1 := []) HL.out (by simp), HO.out.2.2⟩
            case measure => simp [intOf]; omega
        · go_wp2_with fail
          refine (HR.out.1 wr (Keeps.refl _ _)).mono ?_
          rintro e w4 ⟨rfl, rfl⟩
          go_upto_region 12 with fail
          obtain ⟨t, ht⟩ : ∃ t, t = s := ⟨_, rfl⟩
          have hts : t.size ≤ 1216 := by rw [ht]; omega
          subst ht
          clear hlong hc0
          by_cases hcut : k < m
          · obtain ⟨bc, oc, uc, rfl, -, hbb, hux, hcc⟩ := H0.out.2.1.cellAt hcut
            have hcc0 := (HS.out.2.2.2.1.cell (p := ⟨bc, oc + k, none⟩) hbb (by simp)).trans hcc
            obtain ⟨z, rfl, hz8⟩ : ∃ z : Nat, uc = .int .u8 z ∧ z < 256 := by
              unfold bytes at hux
              rw [List.getElem?_map] at hux
              cases hx : zs[k]? with
              | none => rw [hx] at hux; cases hux
              | some y =>
                rw [hx] at hux
                obtain ⟨z, rfl, hz⟩ := u8_nat (H0.out.2.2.1 y (List.mem_of_getElem? hx))
                exact ⟨z, by simpa using hux.symm, hz⟩
            have g3 : (k : Int) < (m : Int) := by omega
            have hz0 : (0 : Int) ≤ (z : Int) := by omega
            have hz1 : (z : Int) < 256 := by omega
            have hbw : bc < wr.heap.size := Nat.lt_of_lt_of_le hbb HS.out.2.2.2.1.size
            clear hux hcc hbb
            by_cases heven : z % 2 = 0
            · have he2 : (z : Int) % 2 = 0 := by omega
              clear heven
              obtain ⟨w4, hw4⟩ : ∃ w4, w4 = Lib.bytesWorld wr 5 t := ⟨_, rfl⟩
              obtain ⟨cp, hcp⟩ : ∃ cp, cp = grownCap wr t.size 0 5 := ⟨_, rfl⟩
              have kc := conv_str wr t
              have hk4 := conv_keeps wr 5 t
              have hr4 := conv_reads wr 5 t
              rw [← hw4] at hk4 hr4
              rw [← hw4, ← hcp] at kc
              have hcap : t.size ≤ cp := by rw [hcp]; exact conv_cap wr t.size _
              have hS4 : St w4 gs bs l [] fs := HS.out.1.nil hk4
              have hK4 : Keeps w w4 [] := HS.out.2.2.2.1.trans hk4 (by simp)
              have hbt : (bestM (halfOf l) (land l [])).2.2 + 1 < 18446744073709551616 := by rw [show land l [] = l from rfl, HS.out.2.1.best]; show ct + 1 < _; have := HS.out.2.2.2.2.2; omega
              have htl : (ofStr t).length ≤ halfOf l * 64 := by rw [ofStr_length, HR.out.2]; exact hts
              have hdis : ∀ j ∈ [wr.heap.size], j ∉ fs := fun j hj h => by
                have := HS.out.1.lt j h
                simp at hj
                omega
              have hctk := HS.out.2.2.2.2.2
              have hcc4 := (hk4.cell (p := ⟨bc, oc + k, none⟩) hbw (by simp)).trans hcc0
              obtain ⟨W, hW⟩ : ∃ W, W = z / 2 % 24 := ⟨_, rfl⟩
              have hq : (z : Int) / 2 = ((z / 2 : Nat) : Int) := by omega
              have hq2 : ((z / 2 : Nat) : Int) % 24 = (W : Int) := by omega
              obtain ⟨zq, hzq⟩ : ∃ zq, zq = z / 2 := ⟨_, rfl⟩
              rw [← hzq] at hq hq2
              have hzq1 : (zq : Int) < 256 := by omega
              have hsv := torn_ok gs bs l [] fs w4 (some ⟨wr.heap.size, 0, none⟩) S t.size cp cS (ofStr t) [wr.heap.size] sv fS W (by omega) hS4 (HS.out.2.1.fit.mono (by omega)) hr4 (ofStr_wf t) hdis (H0.out.2.2.2.1.keeps hK4 (by simp)) H0.out.2.2.2.2
                (fun j h1 h2 => by have := H0.out.2.2.2.1.lt j h1; have := HS.out.2.2.2.2.1 j h2; omega) (H0.out.2.2.2.1.keeps hK4 (by simp)).lt (by rw [HR.out.2]; exact hts) hcap hbt
              have hgt := HS.out.2.1.torn (ofStr_wf t) htl (by omega) W sv
              obtain ⟨l1, hl1e⟩ : ∃ l1, l1 = land (saveTo l [] (ofStr t) (some W)).1 (surv (saveTo l [] (ofStr t) (some W)).2 sv) := ⟨_, rfl⟩
              have hl1 : l1.length = l.length := by rw [hl1e, land_length, saveTo_length]
              rw [← hl1e] at hsv hgt
              obtain ⟨cb1, ct1, hg1, hct1, hor⟩ : ∃ cb1 ct1, Good l1 cb1 ct1 ∧ ct1 ≤ k + 1 ∧ (strB cb1 = strB cb ∨ strB cb1 = t) := by
                rcases hgt with h | h
                · exact ⟨cb, ct, h, by omega, .inl rfl⟩
                · exact ⟨ofStr t, ct + 1, h, by omega, .inr (strB_ofStr t)⟩
              have H3 := Lib.hid (show _ ∧ Good l1 cb1 ct1 ∧ (l1.length = 40 ∧ ct1 ≤ k + 1 ∧ (strB cb1 = strB cb ∨ strB cb1 = t)) ∧ Keeps w w4 [] from And.intro hsv (And.intro hg1 (And.intro ⟨by have := HS.out.2.2.1; omega, hct1, hor⟩ hK4)))
              clear hk4 hr4 hcap hS4 hK4 hbt htl hdis hctk hsv hg1 hl1 hl1e hw4 hcp hct1 hor hgt hW hzq
              go_wp2_with fail
              refine H3.out.1.mono ?_
              rintro e w5 ⟨rfl, f5, hs5, hk5, hn5⟩
              have hK5 : Keeps w w5 [] := H3.out.2.2.2.trans hk5 (fun j h1 h2 => by have := HS.out.2.2.2.2.1 j h2; omega)
              have hn5' : ∀ j ∈ f5, w.heap.size ≤ j := fun j hj => by
                rcases hn5 j hj with h | h
                · exact HS.out.2.2.2.2.1 j h
                · have := H3.out.2.2.2.size; omega
              have H5 := Lib.hid (show St w5 gs bs l1 [] f5 ∧ Keeps w w5 [] ∧ (∀ j ∈ f5, w.heap.size ≤ j) ∧ Good l1 cb1 ct1 ∧ l1.length = 40 ∧ ct1 ≤ k + 1 from ⟨hs5, hK5, hn5', H3.out.2.1, H3.out.2.2.1.1, H3.out.2.2.1.2.1⟩)
              clear hs5 hk5 hn5 hK5 hn5' kc
              have hld : ∀ wx g b' f', St wx g b' l1 [] f' → Calls Try.prog 20 #[.pointer (some ⟨g, 0, none⟩)] wx (LoadLeft wx cb1) := fun wx g b' f' hs => by
                have hg := H5.out.2.2.2.1
                have := load_calls g b' l1 [] f' wx hs (hg.fit.mono (by omega))
                rw [show land l1 [] = l1 from rfl, hg.best] at this
                exact this
              have HC := Lib.hid hld
              clear hld
              have hor := H3.out.2.2.1.2.2
              obtain ⟨sb, hsb⟩ : ∃ sb, sb = strB cb1 := ⟨_, rfl⟩
              obtain ⟨sc, hsc⟩ : ∃ sc, sc = strB cb := ⟨_, rfl⟩
              rw [← hsb, ← hsc] at hor
              simp only [← hsc]
              have HB := Lib.hid hsb
              clear hsb hsc H3 hq hq2 hzq1
              go_wp2_with fail
              refine Calls.mono (HC.out w5 gs bs f5 H5.out.1) ?_
              rintro e w6 ⟨A6, c6, f6, rfl, hr6, -, hk6⟩
              have kx6 := str_reads w6 A6 cb1.length c6 cb1 f6 hr6
              rw [← HB.out] at kx6
              have H6 := Lib.hid hk6
              clear hr6 hk6
              by_cases hse : sb = sc
              · subst hse
                clear hor
                go_wp2_with fail
                refine Calls.mono (HC.out w6 gs bs f5 (H5.out.1.nil H6.out)) ?_
                rintro e w7 ⟨A7, c7, f7, rfl, hr7, -, hk7⟩
                have kx7 := str_reads w7 A7 cb1.length c7 cb1 f7 hr7
                rw [← HB.out] at kx7
                have H7 := Lib.hid (H6.out.trans (fp1 := []) hk7 (by simp))
                clear hr7 hk7
                go_wp2_with fail
                refine Calls.mono (device_ok gs bs l1 [] f5 w7 (H5.out.1.nil H7.out) (H5.out.2.2.2.1.fit.mono (by omega))) ?_
                rintro e wd ⟨ba, fa, rfl, hda, hkd, hnd⟩
                have HD := Lib.hid (And.intro hda (And.intro (H7.out.trans (fp1 := []) hkd (by simp)) hnd))
                clear hda hkd hnd
                go_wp2_with fail
                refine Calls.mono (open_ok ba l1 [] wd fa HD.out.1 (H5.out.2.2.2.1.fit.mono (by omega))) ?_
                rintro e wo ⟨go', bo, fo, rfl, hso, hko, hno⟩
                have hKo := H5.out.2.1.trans (fp1 := []) (HD.out.2.1.trans (fp1 := []) hko (by simp)) (by simp)
                have hNo : ∀ j ∈ fo, w.heap.size ≤ j := fun j hj => by
                  have := hno j hj
                  have := (H5.out.2.1.trans (fp1 := []) HD.out.2.1 (by simp)).size
                  omega
                have HO := Lib.hid (And.intro hso (And.intro hKo hNo))
                clear hso hko hno hKo hNo
                go_wp2_with fail
                refine Calls.mono (HC.out wo go' bo fo HO.out.1) ?_
                rintro e wl ⟨Al, cl, fl, rfl, hrl, -, hkl⟩
                have kxl := str_reads wl Al cb1.length cl cb1 fl hrl
                rw [← HB.out] at kxl
                have HL := Lib.hid hkl
                clear hrl hkl
                go_wp2_with fail
                go_roundw
                case rel => exact ⟨k + 1, l1, cb1, ct1, go', bo, fo, by omega, by omega, by go_num, by rw [← HB.out], rfl, HO.out.1.nil HL.out, H5.out.2.2.2.1, H5.out.2.2.2.2.2, H5.out.2.2.2.2.1, HO.out.2.1.trans (fp1 := []) HL.out (by simp), HO.out.2.2⟩
                case measure => simp [intOf]; omega
              · have hsn := str_ne hse
                have hst : sb = t := hor.resolve_left hse
                subst hst
                clear hor hse
                go_wp2_with fail
                refine Calls.mono (HC.out w6 gs bs f5 (H5.out.1.nil H6.out)) ?_
                rintro e w7 ⟨A7, c7, f7, rfl, hr7, -, hk7⟩
                have kx7 := str_reads w7 A7 cb1.length c7 cb1 f7 hr7
                rw [← HB.out] at kx7
                have H7 := Lib.hid (H6.out.trans (fp1 := []) hk7 (by simp))
                clear hr7 hk7 hsn
                go_wp2_with fail
                refine Calls.mono (device_ok gs bs l1 [] f5 w7 (H5.out.1.nil H7.out) (H5.out.2.2.2.1.fit.mono (by omega))) ?_
                rintro e wd ⟨ba, fa, rfl, hda, hkd, hnd⟩
                have HD := Lib.hid (And.intro hda (And.intro (H7.out.trans (fp1 := []) hkd (by simp)) hnd))
                clear hda hkd hnd
                go_wp2_with fail
                refine Calls.mono (open_ok ba l1 [] wd fa HD.out.1 (H5.out.2.2.2.1.fit.mono (by omega))) ?_
                rintro e wo ⟨go', bo, fo, rfl, hso, hko, hno⟩
                have hKo := H5.out.2.1.trans (fp1 := []) (HD.out.2.1.trans (fp1 := []) hko (by simp)) (by simp)
                have hNo : ∀ j ∈ fo, w.heap.size ≤ j := fun j hj => by
                  have := hno j hj
                  have := (H5.out.2.1.trans (fp1 := []) HD.out.2.1 (by simp)).size
                  omega
                have HO := Lib.hid (And.intro hso (And.intro hKo hNo))
                clear hso hko hno hKo hNo
                go_wp2_with fail
                refine Calls.mono (HC.out wo go' bo fo HO.out.1) ?_
                rintro e wl ⟨Al, cl, fl, rfl, hrl, -, hkl⟩
                have kxl := str_reads wl Al cb1.length cl cb1 fl hrl
                rw [← HB.out] at kxl
                have HL := Lib.hid hkl
                clear hrl hkl
                go_wp2_with fail
                go_roundw
                case rel => exact ⟨k + 1, l1, cb1, ct1, go', bo, fo, by omega, by omega, by go_num, by rw [← HB.out], rfl, HO.out.1.nil HL.out, H5.out.2.2.2.1, H5.out.2.2.2.2.2, H5.out.2.2.2.2.1, HO.out.2.1.trans (fp1 := []) HL.out (by simp), HO.out.2.2⟩
                case measure => simp [intOf]; omega
            · have he2 : (z : Int) % 2 = 1 := by omega
              clear heven
              obtain ⟨w4, hw4⟩ : ∃ w4, w4 = Lib.bytesWorld wr 5 t := ⟨_, rfl⟩
              obtain ⟨cp, hcp⟩ : ∃ cp, cp = grownCap wr t.size 0 5 := ⟨_, rfl⟩
              have kc := conv_str wr t
              have hk4 := conv_keeps wr 5 t
              have hr4 := conv_reads wr 5 t
              rw [← hw4] at hk4 hr4
              rw [← hw4, ← hcp] at kc
              have hcap : t.size ≤ cp := by rw [hcp]; exact conv_cap wr t.size _
              have hS4 : St w4 gs bs l [] fs := HS.out.1.nil hk4
              have hK4 : Keeps w w4 [] := HS.out.2.2.2.1.trans hk4 (by simp)
              have hbt : (bestM (halfOf l) (land l [])).2.2 + 1 < 18446744073709551616 := by rw [show land l [] = l from rfl, HS.out.2.1.best]; show ct + 1 < _; have := HS.out.2.2.2.2.2; omega
              have htl : (ofStr t).length ≤ halfOf l * 64 := by rw [ofStr_length, HR.out.2]; exact hts
              have hdis : ∀ j ∈ [wr.heap.size], j ∉ fs := fun j hj h => by
                have := HS.out.1.lt j h
                simp at hj
                omega
              have hctk := HS.out.2.2.2.2.2
              have hsv := saveM_ok gs bs l [] fs w4 (some ⟨wr.heap.size, 0, none⟩) t.size cp (ofStr t) [wr.heap.size] hS4 (HS.out.2.1.fit.mono (by omega)) hr4 (ofStr_wf t) hdis (by rw [HR.out.2]; exact hts) hcap hbt
              obtain ⟨hp1, hg1⟩ := HS.out.2.1.save (ofStr_wf t) htl (by omega)
              have hl1 : (saveTo l [] (ofStr t) none).1.length = l.length := saveTo_length _ _ _ _
              rw [hp1] at hsv
              obtain ⟨l1, hl1e⟩ : ∃ l1, l1 = (saveTo l [] (ofStr t) none).1 := ⟨_, rfl⟩
              rw [← hl1e] at hsv hg1 hl1
              obtain ⟨cb1, hcb1⟩ : ∃ cb1, cb1 = ofStr t := ⟨_, rfl⟩
              obtain ⟨ct1, hct1⟩ : ∃ ct1, ct1 = ct + 1 := ⟨_, rfl⟩
              rw [← hct1, ← hcb1] at hg1
              have hst : strB cb1 = t := by rw [hcb1]; exact strB_ofStr t
              have H3 := Lib.hid (show _ ∧ Good l1 cb1 ct1 ∧ (l1.length = 40 ∧ ct1 ≤ k + 1 ∧ strB cb1 = t) ∧ Keeps w w4 [] from And.intro hsv (And.intro hg1 (And.intro ⟨by have := HS.out.2.2.1; omega, by omega, hst⟩ hK4)))
              clear hk4 hr4 hcap hS4 hK4 hbt htl hdis hctk hsv hp1 hg1 hl1 hl1e hw4 hcp hcb1 hct1 hst
              go_wp2_with fail
              refine H3.out.1.mono ?_
              rintro e w5 ⟨rfl, f5, hs5, hk5, hn5⟩
              have hK5 : Keeps w w5 [] := H3.out.2.2.2.trans hk5 (fun j h1 h2 => by have := HS.out.2.2.2.2.1 j h2; omega)
              have hn5' : ∀ j ∈ f5, w.heap.size ≤ j := fun j hj => by
                rcases hn5 j hj with h | h
                · exact HS.out.2.2.2.2.1 j h
                · have := H3.out.2.2.2.size; omega
              have H5 := Lib.hid (show St w5 gs bs l1 [] f5 ∧ Keeps w w5 [] ∧ (∀ j ∈ f5, w.heap.size ≤ j) ∧ Good l1 cb1 ct1 ∧ l1.length = 40 ∧ ct1 ≤ k + 1 from ⟨hs5, hK5, hn5', H3.out.2.1, H3.out.2.2.1.1, H3.out.2.2.1.2.1⟩)
              clear hs5 hk5 hn5 hK5 hn5' kc
              have hld : ∀ wx g b' f', St wx g b' l1 [] f' → Calls Try.prog 20 #[.pointer (some ⟨g, 0, none⟩)] wx (LoadLeft wx cb1) := fun wx g b' f' hs => by
                have hg := H5.out.2.2.2.1
                have := load_calls g b' l1 [] f' wx hs (hg.fit.mono (by omega))
                rw [show land l1 [] = l1 from rfl, hg.best] at this
                exact this
              have HC := Lib.hid hld
              clear hld
              go_wp2_with fail
              refine Calls.mono (HC.out w5 gs bs f5 H5.out.1) ?_
              rintro e w6 ⟨A6, c6, f6, rfl, hr6, -, hk6⟩
              have kx6 := str_reads w6 A6 cb1.length c6 cb1 f6 hr6
              rw [H3.out.2.2.1.2.2] at kx6
              have H6 := Lib.hid hk6
              clear hr6 hk6
              go_wp2_with fail
              refine Calls.mono (device_ok gs bs l1 [] f5 w6 (H5.out.1.nil H6.out) (H5.out.2.2.2.1.fit.mono (by omega))) ?_
              rintro e wd ⟨ba, fa, rfl, hda, hkd, hnd⟩
              have HD := Lib.hid (And.intro hda (And.intro (H6.out.trans (fp1 := []) hkd (by simp)) hnd))
              clear hda hkd hnd
              go_wp2_with fail
              refine Calls.mono (open_ok ba l1 [] wd fa HD.out.1 (H5.out.2.2.2.1.fit.mono (by omega))) ?_
              rintro e wo ⟨go', bo, fo, rfl, hso, hko, hno⟩
              have hKo := H5.out.2.1.trans (fp1 := []) (HD.out.2.1.trans (fp1 := []) hko (by simp)) (by simp)
              have hNo : ∀ j ∈ fo, w.heap.size ≤ j := fun j hj => by
                have := hno j hj
                have := (H5.out.2.1.trans (fp1 := []) HD.out.2.1 (by simp)).size
                omega
              have HO := Lib.hid (And.intro hso (And.intro hKo hNo))
              clear hso hko hno hKo hNo
              go_wp2_with fail
              refine Calls.mono (HC.out wo go' bo fo HO.out.1) ?_
              rintro e wl ⟨Al, cl, fl, rfl, hrl, -, hkl⟩
              have kxl := str_reads wl Al cb1.length cl cb1 fl hrl
              rw [H3.out.2.2.1.2.2] at kxl
              have HL := Lib.hid hkl
              clear hrl hkl
              go_wp2_with fail
              go_roundw
              case rel => exact ⟨k + 1, l1, cb1, ct1, go', bo, fo, by omega, by omega, by go_num, by rw [H3.out.2.2.1.2.2], rfl, HO.out.1.nil HL.out, H5.out.2.2.2.1, H5.out.2.2.2.2.2, H5.out.2.2.2.2.1, HO.out.2.1.trans (fp1 := []) HL.out (by simp), HO.out.2.2⟩
              case measure => simp [intOf]; omega
          · have g3 : (m : Int) ≤ (k : Int) := by omega
            obtain ⟨w4, hw4⟩ : ∃ w4, w4 = Lib.bytesWorld wr 5 t := ⟨_, rfl⟩
            obtain ⟨cp, hcp⟩ : ∃ cp, cp = grownCap wr t.size 0 5 := ⟨_, rfl⟩
            have kc := conv_str wr t
            have hk4 := conv_keeps wr 5 t
            have hr4 := conv_reads wr 5 t
            rw [← hw4] at hk4 hr4
            rw [← hw4, ← hcp] at kc
            have hcap : t.size ≤ cp := by rw [hcp]; exact conv_cap wr t.size _
            have hS4 : St w4 gs bs l [] fs := HS.out.1.nil hk4
            have hK4 : Keeps w w4 [] := HS.out.2.2.2.1.trans hk4 (by simp)
            have hbt : (bestM (halfOf l) (land l [])).2.2 + 1 < 18446744073709551616 := by rw [show land l [] = l from rfl, HS.out.2.1.best]; show ct + 1 < _; have := HS.out.2.2.2.2.2; omega
            have htl : (ofStr t).length ≤ halfOf l * 64 := by rw [ofStr_length, HR.out.2]; exact hts
            have hdis : ∀ j ∈ [wr.heap.size], j ∉ fs := fun j hj h => by
              have := HS.out.1.lt j h
              simp at hj
              omega
            have hctk := HS.out.2.2.2.2.2
            have hsv := saveM_ok gs bs l [] fs w4 (some ⟨wr.heap.size, 0, none⟩) t.size cp (ofStr t) [wr.heap.size] hS4 (HS.out.2.1.fit.mono (by omega)) hr4 (ofStr_wf t) hdis (by rw [HR.out.2]; exact hts) hcap hbt
            obtain ⟨hp1, hg1⟩ := HS.out.2.1.save (ofStr_wf t) htl (by omega)
            have hl1 : (saveTo l [] (ofStr t) none).1.length = l.length := saveTo_length _ _ _ _
            rw [hp1] at hsv
            obtain ⟨l1, hl1e⟩ : ∃ l1, l1 = (saveTo l [] (ofStr t) none).1 := ⟨_, rfl⟩
            rw [← hl1e] at hsv hg1 hl1
            obtain ⟨cb1, hcb1⟩ : ∃ cb1, cb1 = ofStr t := ⟨_, rfl⟩
            obtain ⟨ct1, hct1⟩ : ∃ ct1, ct1 = ct + 1 := ⟨_, rfl⟩
            rw [← hct1, ← hcb1] at hg1
            have hst : strB cb1 = t := by rw [hcb1]; exact strB_ofStr t
            have H3 := Lib.hid (show _ ∧ Good l1 cb1 ct1 ∧ (l1.length = 40 ∧ ct1 ≤ k + 1 ∧ strB cb1 = t) ∧ Keeps w w4 [] from And.intro hsv (And.intro hg1 (And.intro ⟨by have := HS.out.2.2.1; omega, by omega, hst⟩ hK4)))
            clear hk4 hr4 hcap hS4 hK4 hbt htl hdis hctk hsv hp1 hg1 hl1 hl1e hw4 hcp hcb1 hct1 hst
            go_wp2_with fail
            refine H3.out.1.mono ?_
            rintro e w5 ⟨rfl, f5, hs5, hk5, hn5⟩
            have hK5 : Keeps w w5 [] := H3.out.2.2.2.trans hk5 (fun j h1 h2 => by have := HS.out.2.2.2.2.1 j h2; omega)
            have hn5' : ∀ j ∈ f5, w.heap.size ≤ j := fun j hj => by
              rcases hn5 j hj with h | h
              · exact HS.out.2.2.2.2.1 j h
              · have := H3.out.2.2.2.size; omega
            have H5 := Lib.hid (show St w5 gs bs l1 [] f5 ∧ Keeps w w5 [] ∧ (∀ j ∈ f5, w.heap.size ≤ j) ∧ Good l1 cb1 ct1 ∧ l1.length = 40 ∧ ct1 ≤ k + 1 from ⟨hs5, hK5, hn5', H3.out.2.1, H3.out.2.2.1.1, H3.out.2.2.1.2.1⟩)
            clear hs5 hk5 hn5 hK5 hn5' kc
            have hld : ∀ wx g b' f', St wx g b' l1 [] f' → Calls Try.prog 20 #[.pointer (some ⟨g, 0, none⟩)] wx (LoadLeft wx cb1) := fun wx g b' f' hs => by
              have hg := H5.out.2.2.2.1
              have := load_calls g b' l1 [] f' wx hs (hg.fit.mono (by omega))
              rw [show land l1 [] = l1 from rfl, hg.best] at this
              exact this
            have HC := Lib.hid hld
            clear hld
            go_wp2_with fail
            refine Calls.mono (HC.out w5 gs bs f5 H5.out.1) ?_
            rintro e w6 ⟨A6, c6, f6, rfl, hr6, -, hk6⟩
            have kx6 := str_reads w6 A6 cb1.length c6 cb1 f6 hr6
            rw [H3.out.2.2.1.2.2] at kx6
            have H6 := Lib.hid hk6
            clear hr6 hk6
            go_wp2_with fail
            refine Calls.mono (device_ok gs bs l1 [] f5 w6 (H5.out.1.nil H6.out) (H5.out.2.2.2.1.fit.mono (by omega))) ?_
            rintro e wd ⟨ba, fa, rfl, hda, hkd, hnd⟩
            have HD := Lib.hid (And.intro hda (And.intro (H6.out.trans (fp1 := []) hkd (by simp)) hnd))
            clear hda hkd hnd
            go_wp2_with fail
            refine Calls.mono (open_ok ba l1 [] wd fa HD.out.1 (H5.out.2.2.2.1.fit.mono (by omega))) ?_
            rintro e wo ⟨go', bo, fo, rfl, hso, hko, hno⟩
            have hKo := H5.out.2.1.trans (fp1 := []) (HD.out.2.1.trans (fp1 := []) hko (by simp)) (by simp)
            have hNo : ∀ j ∈ fo, w.heap.size ≤ j := fun j hj => by
              have := hno j hj
              have := (H5.out.2.1.trans (fp1 := []) HD.out.2.1 (by simp)).size
              omega
            have HO := Lib.hid (And.intro hso (And.intro hKo hNo))
            clear hso hko hno hKo hNo
            go_wp2_with fail
            refine Calls.mono (HC.out wo go' bo fo HO.out.1) ?_
            rintro e wl ⟨Al, cl, fl, rfl, hrl, -, hkl⟩
            have kxl := str_reads wl Al cb1.length cl cb1 fl hrl
            rw [H3.out.2.2.1.2.2] at kxl
            have HL := Lib.hid hkl
            clear hrl hkl
            go_wp2_with fail
            go_roundw
            case rel => exact ⟨k + 1, l1, cb1, ct1, go', bo, fo, by omega, by omega, by go_num, by rw [H3.out.2.2.1.2.2], rfl, HO.out.1.nil HL.out, H5.out.2.2.2.1, H5.out.2.2.2.2.2, H5.out.2.2.2.2.1, HO.out.2.1.trans (fp1 := []) HL.out (by simp), HO.out.2.2⟩
            case measure => simp [intOf]; omega
      · have h12' : (12 : Int) ≤ (k : Int) := by omega
        have hc12 : ((k : Int) < 12) = False := by simp; omega
        clear h12 hk12 h12'
        go_wp2_with fail
        refine (HR.out.1 wr (Keeps.refl _ _)).mono ?_
        rintro e w4 ⟨rfl, rfl⟩
        go_wp2_with fail
        go_ret
        exact ⟨by simp, HS.out.2.2.2.1.below (Nat.le_refl _) (by simp)⟩
    · clear hk12 hkn
      go_wp2_with fail
      refine (HR.out.1 wr (Keeps.refl _ _)).mono ?_
      rintro e w4 ⟨rfl, rfl⟩
      go_wp2_with fail
      go_ret
      exact ⟨by simp, HS.out.2.2.2.1.below (Nat.le_refl _) (by simp)⟩

/-! ### the row (its frame is printed by gen.py; the walk is above) -/
theorem own : ownKnob Try.prog.godebug = none := by kernel_rfl
theorem laidOut : laidOutB Try.prog = true := by kernel_rfl
set_option maxRecDepth 100000 in
theorem lifted (os : Os) (started : os.Started) (H : Type) (enc : TypeId × Value → H) :
    ReturnsInHanded {} Try.checked os 13 .any (Rows.topKeptSpec.pre6 enc Try.prog Try.f13 Rows.topKeptRow.domain false) (Rows.topKeptSpec.post enc Try.prog Try.f13 false true false false) := by
  refine returnsInHanded_of_change (C := Try.checked) own started (by kernel_rfl) Try.func13
    (ChangeSpec.witness6 (enc := enc) (C := Try.checked) false ⟨#[], #[.slice none 0 0, .slice none 0 0, .slice none 0 0], []⟩ 8 (by kernel_rfl) (by kernel_rfl) (by kernel_rfl) (by kernel_rfl)) ?_
  intro W base args ds gs before hval0 hW hcnd _
  have hval : ∀ (j : Nat) t v, Try.f13.params[j]? = some t → args[j]? = some v → Value.okWide Try.prog W .any base t v := hval0
  have hW' := hW
  obtain ⟨p, q, hA0, hV, rfl, hfz, hnd⟩ := hW
  have hA : DataW.TrodAll enc Try.prog W 0 (fun _ => true) true Try.f13.params.toList args.toList ds p := hA0
  rw [Try.params13] at hA hval
  obtain ⟨v0, vs0, d0, ds0, p0, q0, hargs, rfl, rfl, h0, r0⟩ := trodAll_cons hA
  obtain ⟨v1, vs1, d1, ds1, p1, q1, rfl, rfl, rfl, h1, r1⟩ := trodAll_cons r0
  obtain ⟨v2, vs2, d2, ds2, p2, q2, rfl, rfl, rfl, h2, r2⟩ := trodAll_cons r1
  obtain ⟨rfl, rfl, rfl⟩ := trodAll_nil r2
  obtain rfl : args = #[v0, v1, v2] := by cases args; simp_all
  obtain ⟨rfl, rfl⟩ := trodVars_none hV
  have k0 := h0
  have lt0 : ∀ x ∈ p0, x.block < W.heap.size := by obtain ⟨m, hm⟩ := k0; exact DataW.trod_lt m _ _ _ hm
  obtain ⟨a0, len0, cap0, rfl⟩ := okWide_slice Try.underlying66 (hval 0 66 v0 rfl rfl)
  obtain ⟨fuel0, hf0⟩ := h0
  obtain ⟨x0, fp0, w0, wl0⟩ := open_reads_strs (enc := enc) (P := Try.prog) Try.underlying66 Try.underlying9 (by kernel_rfl) (by simpa [Value.cells] using hf0)
  have k1 := h1
  have lt1 : ∀ x ∈ p1, x.block < W.heap.size := by obtain ⟨m, hm⟩ := k1; exact DataW.trod_lt m _ _ _ hm
  obtain ⟨a1, len1, cap1, rfl⟩ := okWide_slice Try.underlying22 (hval 1 22 v1 rfl rfl)
  obtain ⟨fuel1, hf1⟩ := h1
  obtain ⟨x1, fp1, w1, wn1, wl1⟩ := open_reads_ints (enc := enc) (P := Try.prog) Try.underlying22 Try.underlying5 (by kernel_rfl) (by simpa [Value.cells] using hf1)
  have k2 := h2
  have lt2 : ∀ x ∈ p2, x.block < W.heap.size := by obtain ⟨m, hm⟩ := k2; exact DataW.trod_lt m _ _ _ hm
  obtain ⟨a2, len2, cap2, rfl⟩ := okWide_slice Try.underlying48 (hval 2 48 v2 rfl rfl)
  obtain ⟨fuel2, hf2⟩ := h2
  obtain ⟨x2, fp2, w2, wn2, wl2⟩ := open_reads_bools (enc := enc) (P := Try.prog) Try.underlying48 Try.underlying4 (by kernel_rfl) (by simpa [Value.cells] using hf2)
  clear hA0 hval0
  refine (walk a0 len0 cap0 x0 fp0 a1 len1 cap1 x1 fp1 a2 len2 cap2 x2 fp2 W w0 w1 wn1 wl1 w2 wn2 wl2).mono fun e W' ⟨he, bel⟩ => ?_
  subst he
  exact ⟨_, rfl, _, _, _, [], _, [], hW', trodAll_mk1 (shut_bool Try.underlying4 _), (trodAll_cons_mk (Below.trod laidOut (by kernel_rfl) (of_decide_eq_true (by kernel_rfl)) k0 bel lt0) (trodAll_cons_mk (Below.trod laidOut (by kernel_rfl) (of_decide_eq_true (by kernel_rfl)) k1 bel lt1) (trodAll_cons_mk (Below.trod laidOut (by kernel_rfl) (of_decide_eq_true (by kernel_rfl)) k2 bel lt2) trodAll_mk0))), rfl, bel.frame _, fun h => by cases h⟩

theorem over : Rows.topKeptRow.holds Try.pinned (OpenSpec.ofChange Rows.topKeptSpec) :=
  OpenClaim.holds_of_wide 13 Try.f13 rfl rfl rfl rfl rfl rfl rfl ⟨rfl, rfl, rfl, rfl, rfl⟩ rfl rfl rfl rfl rfl (by kernel_rfl) Try.func13 (by kernel_rfl)
    (of_decide_eq_true (by kernel_rfl)) (by unfold Func.isWrapper; first | (rw [if_pos (by decide +kernel)]; kernel_rfl) | (rw [if_neg (by decide +kernel)]; exact ⟨rfl, rfl⟩))
    (fun os started H enc _ => lifted os started H enc)

theorem proved : Rows.TopKeptSaid := over
#print axioms proved
end Go.Proofs.Ytecjhaohabjkbaa.vTopKept
