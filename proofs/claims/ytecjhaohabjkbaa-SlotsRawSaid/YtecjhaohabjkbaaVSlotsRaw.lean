/-
  For every sectors, whose roots are made right or not, and bytes: Open of any device is what it says; a Save on it is Loaded: heliographlaw08.SlotsRaw answers true, and what came in reads as before. No condition.
-/
import Derived.Test.YtecjhaohabjkbaaRows
import Derived.ProofKit
import Derived.OpenShut
import Derived.ShutString
import Derived.ChangeOld
import Derived.Carry
import Derived.Test.YtecjhaohabjkbaaP22
namespace Go.Proofs.Ytecjhaohabjkbaa.vSlotsRaw
open Go.ChangeShapes Go.WideShapes Go.ChangeAt Go.RowKit
open Go.ChangeMaps (open_string shut_string)
set_option linter.unusedVariables false

set_option maxHeartbeats 6400000 in set_option maxRecDepth 100000 in
set_option maxRecDepth 100000 in
theorem walk (x : BPair) (y : Nat × Nat) (B : Option Addr) (bn cB : Nat) (b : List Int) (fB : List Nat) (w : World) (hx : x.good w) (hy1 : y.1 < 18446744073709551616) (hy2 : y.2 < 18446744073709551616)
    (hr : Reads w 1 B bn (bytes b) fB) (hl : b.length = bn) (hwf : Wf8 b) (hc : bn ≤ cB) (hm : cB ≤ maxLen) :
    Calls Try.prog 10 #[x.val, .agg #[.int .u64 y.1, .int .u64 y.2], .slice B bn cB] w fun e w' => e = .returned (.bool true) ∧ Below w.heap.size w w' := by
  have hbm : bn ≤ maxLen := by omega
  obtain ⟨fb, hb7, hfb⟩ := hr.take (k := min bn 700) (by omega)
  have e7 : (bytes b).take (min bn 700 * 1) = bytes (b.take 700) := by
    rw [Nat.mul_one]
    show (b.map _).take _ = (b.take _).map _
    rw [← List.map_take, show b.take (min bn 700) = b.take 700 by rw [List.take_eq_take_iff]; omega]
  rw [e7] at hb7
  obtain ⟨n7, hn7⟩ : ∃ n7, n7 = min bn 700 := ⟨_, rfl⟩
  obtain ⟨b7, hb7e⟩ : ∃ b7, b7 = b.take 700 := ⟨_, rfl⟩
  have hlen7 : b7.length = n7 := by rw [hb7e, hn7, List.length_take]; omega
  have hwf7 : Wf8 b7 := by rw [hb7e]; exact hwf.take 700
  rw [← hn7, ← hb7e] at hb7
  have hfew : ∀ wx, Calls Try.prog 22 #[.slice B bn cB] wx fun e w' => e = .returned (.slice B n7 cB) ∧ wx = w' := fun wx => by
    rw [hn7]; exact few_calls B bn cB wx hbm hc hm
  have HF := Lib.hid (show _ ∧ Reads w 1 B n7 (bytes b7) fb ∧ b7.length = n7 ∧ Wf8 b7 ∧ n7 ≤ cB ∧ n7 ≤ 1000000 from And.intro hfew (And.intro hb7 (And.intro hlen7 (And.intro hwf7 (And.intro (by omega) (by omega))))))
  clear hr hl hwf hc hm hbm hfew hb7 hfb e7 hn7 hb7e hlen7 hwf7
  -- what the two boxes hold
  obtain ⟨w0, hw0⟩ : ∃ w0, w0 = (w.alloc (.cells #[.slice x.A0 x.b0.length x.c0, .slice x.A1 x.b1.length x.c1] 57)).alloc (.cells #[.int .u64 y.1, .int .u64 y.2] 58) := ⟨_, rfl⟩
  have hkw : Keeps w w0 [] := by rw [hw0]; exact ((Keeps.refl w []).alloc _).alloc _
  have hbR : Blk w0 w.heap.size 57 #[.slice x.A0 x.b0.length x.c0, .slice x.A1 x.b1.length x.c1] := by rw [hw0]; exact (Blk.new w _ _).alloc _
  have hbT : Blk w0 (w.heap.size + 1) 58 #[.int .u64 y.1, .int .u64 y.2] := by rw [hw0]; exact Blk.new' _ (by simp) _ _
  have hboth : ∀ k, k < 2 → ∃ (Ax : Option Addr) (bx : List Int) (cx : Nat) (fx : List Nat) (T : Nat), (∀ wx, Keeps w0 wx [] → wx.cell? ⟨w.heap.size, k, none⟩ = some (.slice Ax bx.length cx) ∧ wx.cell? ⟨w.heap.size + 1, k, none⟩ = some (.int .u64 T)) ∧ T < 18446744073709551616 ∧
      Wf8 bx ∧ bx.length ≤ cx ∧ cx ≤ maxLen ∧ (∀ wx, Keeps w0 wx [] → Reads wx 1 Ax bx.length (bytes bx) fx) := fun k hk => by
    rcases (show k = 0 ∨ k = 1 by omega) with rfl | rfl
    · obtain ⟨f, hf⟩ := hx.reads0
      exact ⟨x.A0, x.b0, x.c0, f, y.1, fun wx hk => ⟨(hbR.keeps hk (by simp)).cell 0, (hbT.keeps hk (by simp)).cell 0⟩, hy1, hx.wf0, hx.cap0, hx.capm0, fun wx hk => (hf.keeps hkw (by simp)).keeps hk (by simp)⟩
    · obtain ⟨f, hf⟩ := hx.reads1
      exact ⟨x.A1, x.b1, x.c1, f, y.2, fun wx hk => ⟨(hbR.keeps hk (by simp)).cell 1, (hbT.keeps hk (by simp)).cell 1⟩, hy2, hx.wf1, hx.cap1, hx.capm1, fun wx hk => (hf.keeps hkw (by simp)).keeps hk (by simp)⟩
  obtain ⟨gR, hgR⟩ : ∃ gR, gR = w.heap.size := ⟨_, rfl⟩
  obtain ⟨gT, hgT⟩ : ∃ gT, gT = gR + 1 := ⟨_, rfl⟩
  simp only [← hgR] at hboth
  simp only [← hgT] at hboth
  have HX := Lib.hid (And.intro hboth hkw)
  clear hboth hkw hbR hbT hx hy1 hy2
  simp only [BPair.val]
  go_enter Try.func10, Try.ntmps10
  go_upto_region 1 with (fail)
  rw [← hw0, ← hgR]
  (try rw [← hgT])
  clear hw0 hgR hgT
  go_wp2_with fail
  refine (dnew_ok 12 w0 (by omega) (by omega)).mono ?_
  rintro e w1 ⟨bd, fd1, rfl, hd1, hk1, hn1⟩
  have H1 := Lib.hid (And.intro hd1 (And.intro hk1 hn1)); clear hd1 hk1 hn1
  go_wp2_with fail
  refine (rnew_ok w1 12 (by omega) (by omega)).mono ?_
  rintro e w2 ⟨br, fr1, rfl, hr2, hk2, hn2⟩
  have hI : RawI w0 w2 bd br 0 fd1 fr1 := by
    obtain ⟨hd1, hk1, hn1⟩ := H1.out
    refine ⟨[], hd1.nil hk2, hr2, fun k a b => by have := hd1.lt k a; have := hn2 k b; omega, by simp, by simp, hk1.trans hk2 (by simp), fun k hk => ?_⟩
    rcases hk with h | h
    · exact hn1 k h
    · have := hn2 k h; have := hk1.size; omega
  have H2 := Lib.hid hI
  clear hI hr2 hk2 hn2 H1
  go_wp2_with fail
  go_loopg [9] 2 (fun gg s9 wx => ∃ (k : Nat) (fd fr : List Nat), gg + k = 2 ∧ s9 = .int .i64 k ∧ RawI w0 wx bd br (6 * k) fd fr)
  case atStart => exact ⟨0, fd1, fr1, by omega, rfl, H2.out⟩
  case round =>
    obtain ⟨k, fd, fr, hgk, rfl, hI⟩ := hrel
    have HI := Lib.hid hI
    clear hI
    by_cases hk2 : k < 2
    · obtain ⟨Ax, bx, cx, fx, T, hcell, hT, hwx, hcx, hcm, hrx⟩ := HX.out.1 k hk2
      obtain ⟨cc1, cc2⟩ := hcell wr HI.out.old
      have hki : (k : Int) < 2 := by omega
      have hk0 : (0 : Int) ≤ (k : Int) := by omega
      obtain ⟨nn, hnn⟩ : ∃ nn, nn = min bx.length 320 := ⟨_, rfl⟩
      have hbl : bx.length ≤ maxLen := by omega
      have hcxi : (bx.length : Int) ≤ (cx : Int) := by omega
      have hcmi : (cx : Int) ≤ 9223372036854775807 := by unfold maxLen at hcm; omega
      have HK := Lib.hid (And.intro hcell (And.intro hT (And.intro hwx (And.intro hcx (And.intro hcm (And.intro hrx (And.intro hgk hnn)))))))
      clear hcell hT hwx hcx hcm hrx hgk hbl
      go_upto_if 29 with (fail)
      go_cut [10] (fun s10 wx => s10 = .slice Ax nn cx ∧ wx = wr)
      case first =>
        by_cases hlong : (320 : Int) < (bx.length : Int)
        · obtain rfl : nn = 320 := by omega
          have hcx3 : (320 : Int) ≤ (cx : Int) := by omega
          clear hnn
          go_wp2_with fail
          go_meet
          exact ⟨by simp, rfl⟩
        · obtain rfl : nn = bx.length := by omega
          clear hnn
          go_wp2_with fail
          go_meet
          exact ⟨rfl, rfl⟩
      case rest =>
        obtain ⟨rfl, rfl⟩ := hcut
        obtain ⟨bs, hbs⟩ : ∃ bs, bs = bx.take 320 := ⟨_, rfl⟩
        have hbl : bs.length = nn := by rw [hbs, hnn, List.length_take]; omega
        have hbw : Wf8 bs := by rw [hbs]; exact HK.out.2.2.1.take 320
        have hrd : ∀ wx, Keeps w0 wx [] → ∃ f, Reads wx 1 Ax nn (bytes bs) f := fun wx hk => by
          obtain ⟨f, hf, -⟩ := (HK.out.2.2.2.2.2.1 wx hk).take (k := nn) (by omega)
          have e : (bytes bx).take (nn * 1) = bytes bs := by
            rw [Nat.mul_one, hbs, hnn]
            show (bx.map _).take _ = (bx.take _).map _
            rw [← List.map_take, show bx.take (min bx.length 320) = bx.take 320 by rw [List.take_eq_take_iff]; omega]
          rw [e] at hf
          exact ⟨f, hf⟩
        have hnn3 : nn ≤ 320 := by omega
        have HB := Lib.hid (And.intro hbl (And.intro hbw (And.intro hrd hnn3)))
        clear hbs hbl hbw hrd hnn cc1 cc2 hcxi hcmi
        go_wp2_with fail
        go_loopg [11] (nch nn) (fun gg s11 wx => ∃ (i : Nat) (fd fr : List Nat), gg + i = nch nn ∧ s11 = .int .i64 i ∧ RawI w0 wx bd br (6 * k + i) fd fr)
        case atStart => exact ⟨0, fd, fr, by omega, rfl, HI.out⟩
        case round =>
          obtain ⟨i, fd2, fr2, hgi, rfl, hI2⟩ := hrel
          have hi5 : i ≤ 5 := by
            have : nch nn ≤ 5 := nch_le nn 5 (by omega)
            omega
          have HI2 := Lib.hid (And.intro hI2 hgi)
          clear hI2 hgi
          by_cases hlt : i * 64 < nn
          · have hlt2 : decide (i * 64 < nn) = true := by simpa using hlt
            have hlt3 : decide ((i : Int) * 64 < (nn : Int)) = true := by simp; omega
            have HLT := Lib.hid hlt
            clear hlt
            go_upto_region 11 with (fail)
            obtain ⟨wo, hwo⟩ : ∃ wo, wo = wr := ⟨_, rfl⟩
            obtain ⟨gx, hgx⟩ : ∃ g, g = wr.heap.size := ⟨_, rfl⟩
            have hb0 : Blk (wr.alloc (.cells Sec.zero.cells.toArray 30)) gx 30 (fillTo (bs.drop (i * 64)) 0) := by
              rw [fillTo_zero]; exact Blk.new' wr hgx.symm _ _
            have hk0' : Keeps wo (wr.alloc (.cells Sec.zero.cells.toArray 30)) [] := by rw [hwo]; exact (Keeps.refl wr []).alloc _
            have hgo : wo.heap.size ≤ gx := by rw [hgx, hwo]; exact Nat.le_refl _
            go_wp2_with fail
            rw [← hgx]
            rw [← hwo] at HI2
            have HB0 := Lib.hid (And.intro hb0 (And.intro hk0' hgo))
            clear hb0 hk0' hgo hwo hgx
            obtain ⟨m, hm⟩ : ∃ m, m = min 64 (nn - i * 64) := ⟨_, rfl⟩
            have hm64 : m ≤ 64 := by omega
            have hmn : i * 64 + m ≤ nn := by have := HLT.out; omega
            have HMM := Lib.hid (And.intro hm hmn)
            clear hm hmn
            go_loopg [13] m (fun gg s13 wx => ∃ j : Nat, gg + j = m ∧ s13 = .int .i64 j ∧ Blk wx gx 30 (fillTo (bs.drop (i * 64)) j) ∧ Keeps wo wx [])
            case atStart => exact ⟨0, by omega, rfl, HB0.out.1, HB0.out.2.1⟩
            case round =>
              obtain ⟨j, hg, rfl, hbj, hkj⟩ := hrel
              have hj64 : j ≤ 64 := by omega
              obtain ⟨fj, hrj⟩ := HB.out.2.2.1 wr (HI2.out.1.old.trans (fp1 := []) hkj (by simp))
              have HJ := Lib.hid (And.intro hg (And.intro hbj hkj))
              clear hg hbj hkj
              by_cases hjm : j < m
              · obtain ⟨I, hI⟩ : ∃ I, I = i * 64 + j := ⟨_, rfl⟩
                have hIn : I < nn := by have := HMM.out.2; omega
                obtain ⟨b1, o1, u1, rfl, -, -, hx1, hc1⟩ := hrj.cellAt hIn
                obtain ⟨z, hz, rfl⟩ : ∃ z, bs[I]? = some z ∧ Value.int .u8 z = u1 := by simpa [bytes] using hx1
                have hcb : wr.cell? ⟨gx, j, none⟩ = some (.int .u8 0) := by rw [HJ.out.2.1.cell]; exact fillTo_at _ _ (by have := HB.out.1; simp; have := HMM.out.2; omega) (by omega)
                have hfb := HJ.out.2.1.frozen j
                have hj6 : (j : Int) < 64 := by omega
                have hs1 : (i : Int) * 64 + (j : Int) = (I : Int) := by omega
                have hd1 : decide (I < nn) = true := by simpa using hIn
                have HZ := Lib.hid (And.intro hz (And.intro hI hIn))
                clear hx1 hz hI hrj
                go_wp2_with fail
                go_roundg (m - (j + 1))
                case measure => have := HJ.out.1; omega
                case rel =>
                  refine ⟨j + 1, by have := HJ.out.1; omega, by go_num, ?_, HJ.out.2.2.setCell (.inr HB0.out.2.2) _⟩
                  rw [← fillTo_next _ j z (by rw [List.getElem?_drop, ← HZ.out.2.1]; exact HZ.out.1) (by omega)]
                  exact HJ.out.2.1.set_ j _
              · obtain rfl : j = m := by have := HJ.out.1; omega
                have hfull : fillTo (bs.drop (i * 64)) j = (chunk bs i).cells.toArray := fillTo_full bs i j (by rw [HB.out.1]; exact HMM.out.1)
                have hb2 := HJ.out.2.1
                rw [hfull] at hb2
                obtain ⟨s, hs⟩ : ∃ s, s = chunk bs i := ⟨_, rfl⟩
                rw [← hs] at hb2
                have hsw : s.wf := by rw [hs]; exact Sec.of_wf (HB.out.2.1.drop _)
                obtain ⟨hrow1, hrow2⟩ := row_of_range hb2.whole s.cells_length
                have hRI := HI2.out.1.nil HJ.out.2.2
                have hgfd : gx ∉ fd2 := fun h => by have := HI2.out.1.lt.1 gx h; have := HB0.out.2.2; omega
                have hgfr : gx ∉ fr2 := fun h => by have := HI2.out.1.lt.2 gx h; have := HB0.out.2.2; omega
                obtain ⟨M, hM⟩ : ∃ M, M = 2 + 5 * k + i := ⟨_, rfl⟩
                have hi4 : i ≤ 4 := by have := HLT.out; omega
                have hM12 : M < 12 := by omega
                have hMi : (5 : Int) * (k : Int) = ((5 * k : Nat) : Int) := by omega
                obtain ⟨k5, hk5⟩ : ∃ k5, k5 = 5 * k := ⟨_, rfl⟩
                rw [← hk5] at hMi
                obtain ⟨k52, hk52⟩ : ∃ k52, k52 = 2 + k5 := ⟨_, rfl⟩
                have hM2 : (2 : Int) + (k5 : Int) = (k52 : Int) := by omega
                have hM3 : (k52 : Int) + (i : Int) = (M : Int) := by omega
                have hwr := hRI.writes (by omega) M hM12 s hsw
                have htest : (j : Int) < 64 → ((nn : Int) ≤ (i : Int) * 64 + (j : Int)) := by have := HMM.out.1; have := HLT.out; omega
                have hk52b : k52 ≤ 7 := by omega
                have HS := Lib.hid (And.intro hwr (And.intro hb2 (And.intro hgfd hgfr)))
                clear hs hfull hb2 hrj hsw hRI hgfd hgfr hwr hM hk5 hk52
                by_cases hj6 : (j : Int) < 64
                · have htt := htest hj6
                  clear htest
                  go_wp2_with fail
                  refine HS.out.1.mono ?_
                  rintro e w6 ⟨rfl, hk6, hwr⟩
                  have hb6 := HS.out.2.1.keeps hk6 HS.out.2.2.1
                  obtain ⟨hrow3, hrow4⟩ := row_of_range hb6.whole s.cells_length
                  have H6 := Lib.hid hwr
                  clear hwr hk6 hb6 hrow1 hrow2
                  go_wp2_with fail
                  refine H6.out.mono ?_
                  rintro e w7 ⟨rfl, -, fd', fr', hI'⟩
                  have H7 := Lib.hid hI'
                  clear hI' hrow3 hrow4
                  go_wp2_with fail
                  go_roundg (nch nn - (i + 1))
                  case measure => have := HI2.out.2; have := (nch_lt nn i).2 HLT.out; omega
                  case rel => exact ⟨i + 1, fd', fr', by have := HI2.out.2; have := (nch_lt nn i).2 HLT.out; omega, by go_num, H7.out⟩
                · have hj7 : (64 : Int) ≤ (j : Int) := by omega
                  clear htest hj6
                  go_wp2_with fail
                  refine HS.out.1.mono ?_
                  rintro e w6 ⟨rfl, hk6, hwr⟩
                  have hb6 := HS.out.2.1.keeps hk6 HS.out.2.2.1
                  obtain ⟨hrow3, hrow4⟩ := row_of_range hb6.whole s.cells_length
                  have H6 := Lib.hid hwr
                  clear hwr hk6 hb6 hrow1 hrow2
                  go_wp2_with fail
                  refine H6.out.mono ?_
                  rintro e w7 ⟨rfl, -, fd', fr', hI'⟩
                  have H7 := Lib.hid hI'
                  clear hI' hrow3 hrow4
                  go_wp2_with fail
                  go_roundg (nch nn - (i + 1))
                  case measure => have := HI2.out.2; have := (nch_lt nn i).2 HLT.out; omega
                  case rel => exact ⟨i + 1, fd', fr', by have := HI2.out.2; have := (nch_lt nn i).2 HLT.out; omega, by go_num, H7.out⟩
          · obtain rfl : i = nch nn := by have := (nch_lt nn i).1; have := HI2.out.2; omega
            have hlt2 : decide (nch nn * 64 < nn) = false := by simpa using hlt
            have hlt3 : decide (((nch nn : Nat) : Int) * 64 < (nn : Int)) = false := by simp; omega
            clear hlt
            obtain ⟨cc1, cc2⟩ := HK.out.1 wr HI2.out.1.old
            obtain ⟨fj, hrj⟩ := HB.out.2.2.1 wr HI2.out.1.old
            have hrt := lroot_calls Ax nn cx bs fj T wr hrj HB.out.2.1 (by omega) HK.out.2.1
            have HRT := Lib.hid hrt
            clear hrt hrj
            go_wp2_with fail
            refine HRT.out.mono ?_
            rintro e w5 ⟨rfl, hk5⟩
            obtain ⟨s, hs⟩ : ∃ s, s = rootX bs T := ⟨_, rfl⟩
            have hsw : s.wf := by rw [hs]; exact rootX_wf bs T
            rw [← hs]
            have hm5 := may_new w5 30
            obtain ⟨W5, hW5⟩ : ∃ W5, W5 = (w5.alloc (.cells Sec.zero.cells.toArray 30)).setCells w5.heap.size 0 s.cells := ⟨_, rfl⟩
            have hb5 := blk_stored w5 30 s
            have hK5 := keeps_stored hk5 30 Sec.zero.cells s.cells hk5.size
            rw [← hW5] at hb5 hK5
            have hRI := (HI2.out.1.nil hK5).mono (show 6 * k + nch nn ≤ 6 * k + 5 by omega)
            have hgfd : w5.heap.size ∉ fd2 := fun h => by have := HI2.out.1.lt.1 _ h; have := hk5.size; omega
            have hgfr : w5.heap.size ∉ fr2 := fun h => by have := HI2.out.1.lt.2 _ h; have := hk5.size; omega
            have hwr := hRI.writes (by omega) k (by omega) s hsw
            obtain ⟨hrow1, hrow2⟩ := row_of_range hb5.whole s.cells_length
            rw [hW5] at hrow1 hrow2
            have HS := Lib.hid (And.intro hwr (And.intro hb5 (And.intro hgfd hgfr)))
            clear hs hsw hk5 hb5 hK5 hRI hgfd hgfr hwr cc1 cc2
            go_wp2_with fail
            rw [← hW5]
            clear hm5 hW5 hrow1 hrow2
            refine HS.out.1.mono ?_
            rintro e w6 ⟨rfl, hk6, hwr⟩
            have hb6 := HS.out.2.1.keeps hk6 HS.out.2.2.1
            obtain ⟨hrow1, hrow2⟩ := row_of_range hb6.whole s.cells_length
            have H6 := Lib.hid hwr
            clear hwr hk6 hb6
            go_wp2_with fail
            refine H6.out.mono ?_
            rintro e w7 ⟨rfl, -, fd', fr', hI'⟩
            have H7 := Lib.hid hI'
            clear hI' hrow1 hrow2
            go_wp2_with fail
            go_roundg (2 - (k + 1))
            case measure => have := HK.out.2.2.2.2.2.2.1; omega
            case rel => exact ⟨k + 1, fd', fr', by omega, by go_num, H7.out.mono (by omega)⟩
    · obtain rfl : k = 2 := by omega
      obtain ⟨pend, hd, hrr, hdis, hpw, hpl, hK, hN⟩ := HI.out
      have hfit : Fit 100 Z12 pend := ⟨by rw [Z12_length]; omega, by rw [Z12_length]; omega, by omega, fun s hs => by rw [List.eq_of_mem_replicate hs]; exact Sec.zero_wf, fun x hx => by rw [Z12_length]; exact hpw x hx⟩
      obtain ⟨code, l', pend', hfit', hcode, hsv, hrsv⟩ := save_raw hfit B n7 cB b7 HF.out.2.2.1 HF.out.2.2.2.1 HF.out.2.2.2.2.1 HF.out.2.2.2.2.2
      have HV := Lib.hid (And.intro hd (And.intro hrr (And.intro hdis (And.intro hK (And.intro hN (And.intro hfit (And.intro hfit' (And.intro hcode (And.intro hsv hrsv)))))))))
      clear hd hrr hdis hpw hpl hK hN hfit hfit' hsv hrsv hk2 hgk HI
      go_wp2_with fail
      refine Calls.mono (open_ok bd Z12 pend wr fd HV.out.1 (HV.out.2.2.2.2.2.1.mono (by omega))) ?_
      rintro e w3 ⟨gs, bs, fs, rfl, hs3, hk3, hn3⟩
      have H3 := Lib.hid (And.intro hs3 (And.intro hk3 hn3))
      clear hs3 hk3 hn3
      go_wp2_with fail
      refine Calls.mono (ropen_ok br Z12 pend w3 fr (HV.out.2.1.nil H3.out.2.1) (HV.out.2.2.2.2.2.1.mono (by omega))) ?_
      rintro e w4 ⟨gr, bbr, frr, rfl, hr4, hk4, hn4⟩
      have hdis4 : ∀ k ∈ fs, k ∉ frr := fun k a c => by have := H3.out.1.lt k a; have := hn4 k c; omega
      have hK4 : Keeps w w4 [] := (HX.out.2.trans (fp1 := []) HV.out.2.2.2.1 (by simp)).trans (fp1 := []) (H3.out.2.1.trans (fp1 := []) hk4 (by simp)) (by simp)
      have hN4 : ∀ k, k ∈ fs ∨ k ∈ frr → w.heap.size ≤ k := fun k hk => by
        have s1 := HX.out.2.size
        have s2 := HV.out.2.2.2.1.size
        have s3 := H3.out.2.1.size
        rcases hk with h | h
        · have := H3.out.2.2 k h; omega
        · have := hn4 k h; omega
      have H4 := Lib.hid (show (St w4 gs bs Z12 pend fs ∧ RSt w4 gr bbr Z12 pend frr) ∧ (∀ k ∈ fs, k ∉ frr) ∧ Keeps w w4 [] ∧ (∀ k, k ∈ fs ∨ k ∈ frr → w.heap.size ≤ k) from ⟨⟨H3.out.1.nil hk4, hr4⟩, hdis4, hK4, hN4⟩)
      clear hr4 hk4 hn4 hdis4 hK4 hN4 H3
      go_wp2_with fail
      refine (psame2_calls gs bs gr bbr Z12 pend fs frr w4 H4.out.1 (HV.out.2.2.2.2.2.1.mono (by omega))).mono ?_
      rintro e w5 ⟨rfl, hk5⟩
      have H5 := Lib.hid (show (St w5 gs bs Z12 pend fs ∧ RSt w5 gr bbr Z12 pend frr) ∧ Keeps w w5 [] from ⟨⟨H4.out.1.1.nil hk5, H4.out.1.2.nil hk5⟩, H4.out.2.2.1.trans (fp1 := []) hk5 (by simp)⟩)
      clear hk5
      go_wp2_with fail
      refine (HF.out.1 w5).mono ?_
      rintro e w6 ⟨rfl, rfl⟩
      go_wp2_with fail
      have hfbs : ∀ k ∈ fb, k ∉ fs := fun k a c => by have := HF.out.2.1.lt k a; have := H4.out.2.2.2 k (.inl c); omega
      have hfbr : ∀ k ∈ fb, k ∉ frr := fun k a c => by have := HF.out.2.1.lt k a; have := H4.out.2.2.2 k (.inr c); omega
      refine Calls.mono (HV.out.2.2.2.2.2.2.2.2.1 gs bs fs w5 fb H5.out.1.1 (HF.out.2.1.keeps H5.out.2 (by simp)) hfbs) ?_
      rintro e w6 ⟨rfl, f6, hs6, hk6, hn6⟩
      have hr6 : RSt w6 gr bbr Z12 pend frr := H5.out.1.2.keeps hk6 (fun k a c => H4.out.2.1 k c a)
      have hK6 : Keeps w w6 [] := H5.out.2.trans hk6 (fun k a c => by have := H4.out.2.2.2 k (.inl c); omega)
      have hdis6 : ∀ k ∈ f6, k ∉ frr := fun k a c => by
        rcases hn6 k a with h | h
        · exact H4.out.2.1 k h c
        · have := H5.out.1.2.lt k c; omega
      have H6 := Lib.hid (And.intro hs6 (And.intro hr6 (And.intro hK6 (And.intro hdis6 (And.intro hfbs hfbr)))))
      clear hs6 hk6 hn6 hr6 hK6 hdis6 hfbs hfbr
      have hrsv : ∀ wx, Keeps w6 wx [] → Calls Try.prog 36 #[.pointer (some ⟨gr, 0, none⟩), .slice B n7 cB] wx (fun e w' => e = .returned (.int .i64 code) ∧ ∃ fr7, (St w' gs bs l' pend' f6 ∧ RSt w' gr bbr l' pend' fr7) ∧ Keeps w w' []) := fun wx hkx => by
        have hKx : Keeps w wx [] := H6.out.2.2.1.trans (fp1 := []) hkx (by simp)
        refine Calls.mono (HV.out.2.2.2.2.2.2.2.2.2 gr bbr frr wx fb (H6.out.2.1.nil hkx) (HF.out.2.1.keeps hKx (by simp)) H6.out.2.2.2.2.2) ?_
        rintro e w' ⟨rfl, fr7, hr7, hk7, hn7⟩
        exact ⟨rfl, fr7, ⟨(H6.out.1.nil hkx).keeps hk7 H6.out.2.2.2.1, hr7⟩, hKx.trans hk7 (fun k a c => by have := H4.out.2.2.2 k (.inr c); omega)⟩
      have HRS := Lib.hid hrsv
      clear hrsv
      have hld : ∀ wx (f : List Nat), St wx gs bs l' pend' f → Calls Try.prog 20 #[.pointer (some ⟨gs, 0, none⟩)] wx (LoadLeft wx (bestM (halfOf l') (land l' pend')).2.1) := fun wx f hs => load_calls gs bs l' pend' f wx hs (HV.out.2.2.2.2.2.2.1.mono (by omega))
      have HLD := Lib.hid hld
      clear hld
      rcases HV.out.2.2.2.2.2.2.2.1 with rfl | ⟨rfl, hb⟩
      · clear hcode
        go_wp2_with fail
        refine wp_region_held_drew (S := fun w' => True) (by kernel_rfl) (by trivial) (fun hHeld => ?_)
        refine wpAnyH_ready (rs := [0]) (by kernel_rfl) (by simp) ?_
        refine AllReadyH.cons (o := ?_) (ho := ?_) (h := ?_) (hs := AllReadyH.nil)
        rotate_left 1
        · (simp only [List.getElem?_toArray, List.getElem?_cons_zero]; rfl)
        intro K hK
        go_simp
        refine (live_calls _).mono ?_
        rintro e wa ⟨rfl, hka⟩
        have HA := Lib.hid (show Keeps w6 wa [] from (Keeps.refl w6 []).drew.trans (fp1 := []) hka (by simp))
        clear hka
        go_wp2_with fail
        refine hK.out _ _ ?_ (fun hHeld => ?_)
        · (trivial)
        clear hK K
        (try simp only [Act.put, List.setIfInBounds_toArray, List.set_cons_zero, List.set_cons_succ])
        first
          | (refine wpAnyH_take (i := 1) (oi := ?_) (v := ?_) (hi := ?_) (hs := ?_) (hf := ?_) (hr := ?_) (hQ := ?_) (hy := ?_) (hS := ?_) (h := ?_)
             rotate_left 2
             · (simp only [List.getElem?_toArray, List.getElem?_cons_succ, List.getElem?_cons_zero]; rfl)
             · kernel_rfl
             · kernel_rfl
             · kernel_rfl
             · exact fun _ _ _ h => h
             · (refine Or.inl ⟨by rfl, ?_⟩; intro wz hSw; (try dsimp only at hSw); go_simp; (try with_reducible rfl))
             · assumption
             (try simp only [Act.put, List.setIfInBounds_toArray, List.set_cons_zero, List.set_cons_succ]))
          | (refine held_skip (i := 1) (oi := ?_) (hi := ?_) (hs := ?_) (hf := ?_) (hr := ?_) (hQ := ?_) (hw := ?_) (hS := ?_) (h := ?_)
             rotate_left 1
             · (simp only [List.getElem?_toArray, List.getElem?_cons_succ, List.getElem?_cons_zero]; rfl)
             · kernel_rfl
             · kernel_rfl
             · kernel_rfl
             · exact fun _ _ _ h => h
             · rfl
             · assumption
             (try simp only [Act.put, List.setIfInBounds_toArray, List.set_cons_zero, List.set_cons_succ]))
          | fail
        first
          | (refine wpAnyH_take (i := 2) (oi := ?_) (v := ?_) (hi := ?_) (hs := ?_) (hf := ?_) (hr := ?_) (hQ := ?_) (hy := ?_) (hS := ?_) (h := ?_)
             rotate_left 2
             · (simp only [List.getElem?_toArray, List.getElem?_cons_succ, List.getElem?_cons_zero]; rfl)
             · kernel_rfl
             · kernel_rfl
             · kernel_rfl
             · exact fun _ _ _ h => h
             · (refine Or.inl ⟨by rfl, ?_⟩; intro wz hSw; (try dsimp only at hSw); go_simp; (try with_reducible rfl))
             · assumption
             (try simp only [Act.put, List.setIfInBounds_toArray, List.set_cons_zero, List.set_cons_succ]))
          | (refine held_skip (i := 2) (oi := ?_) (hi := ?_) (hs := ?_) (hf := ?_) (hr := ?_) (hQ := ?_) (hw := ?_) (hS := ?_) (h := ?_)
             rotate_left 1
             · (simp only [List.getElem?_toArray, List.getElem?_cons_succ, List.getElem?_cons_zero]; rfl)
             · kernel_rfl
             · kernel_rfl
             · kernel_rfl
             · exact fun _ _ _ h => h
             · rfl
             · assumption
             (try simp only [Act.put, List.setIfInBounds_toArray, List.set_cons_zero, List.set_cons_succ]))
          | fail
        first
          | (refine wpAnyH_take (i := 3) (oi := ?_) (v := ?_) (hi := ?_) (hs := ?_) (hf := ?_) (hr := ?_) (hQ := ?_) (hy := ?_) (hS := ?_) (h := ?_)
             rotate_left 2
             · (simp only [List.getElem?_toArray, List.getElem?_cons_succ, List.getElem?_cons_zero]; rfl)
             · kernel_rfl
             · kernel_rfl
             · kernel_rfl
             · exact fun _ _ _ h => h
             · (refine Or.inl ⟨by rfl, ?_⟩; intro wz hSw; (try dsimp only at hSw); go_simp; (try with_reducible rfl))
             · assumption
             (try simp only [Act.put, List.setIfInBounds_toArray, List.set_cons_zero, List.set_cons_succ]))
          | (refine held_skip (i := 3) (oi := ?_) (hi := ?_) (hs := ?_) (hf := ?_) (hr := ?_) (hQ := ?_) (hw := ?_) (hS := ?_) (h := ?_)
             rotate_left 1
             · (simp only [List.getElem?_toArray, List.getElem?_cons_succ, List.getElem?_cons_zero]; rfl)
             · kernel_rfl
             · kernel_rfl
             · kernel_rfl
             · exact fun _ _ _ h => h
             · rfl
             · assumption
             (try simp only [Act.put, List.setIfInBounds_toArray, List.set_cons_zero, List.set_cons_succ]))
          | fail
        first
          | (refine wpAnyH_take (i := 4) (oi := ?_) (v := ?_) (hi := ?_) (hs := ?_) (hf := ?_) (hr := ?_) (hQ := ?_) (hy := ?_) (hS := ?_) (h := ?_)
             rotate_left 2
             · (simp only [List.getElem?_toArray, List.getElem?_cons_succ, List.getElem?_cons_zero]; rfl)
             · kernel_rfl
             · kernel_rfl
             · kernel_rfl
             · exact fun _ _ _ h => h
             · (refine Or.inl ⟨by rfl, ?_⟩; intro wz hSw; (try dsimp only at hSw); go_simp; (try with_reducible rfl))
             · assumption
             (try simp only [Act.put, List.setIfInBounds_toArray, List.set_cons_zero, List.set_cons_succ]))
          | (refine held_skip (i := 4) (oi := ?_) (hi := ?_) (hs := ?_) (hf := ?_) (hr := ?_) (hQ := ?_) (hw := ?_) (hS := ?_) (h := ?_)
             rotate_left 1
             · (simp only [List.getElem?_toArray, List.getElem?_cons_succ, List.getElem?_cons_zero]; rfl)
             · kernel_rfl
             · kernel_rfl
             · kernel_rfl
             · exact fun _ _ _ h => h
             · rfl
             · assumption
             (try simp only [Act.put, List.setIfInBounds_toArray, List.set_cons_zero, List.set_cons_succ]))
          | fail
        refine wpAnyH_ready (rs := [5]) (by kernel_rfl) (by simp) ?_
        refine AllReadyH.cons (o := ?_) (ho := ?_) (h := ?_) (hs := AllReadyH.nil)
        rotate_left 1
        · (simp only [List.getElem?_toArray, List.getElem?_cons_succ, List.getElem?_cons_zero]; rfl)
        intro K hK
        go_simp
        refine (HF.out.1 _).mono ?_
        rintro e wf ⟨rfl, rfl⟩
        go_wp2_with fail
        refine hK.out _ _ ?_ (fun hHeld => ?_)
        · (trivial)
        clear hK K
        (try simp only [Act.put, List.setIfInBounds_toArray, List.set_cons_zero, List.set_cons_succ])
        refine wpAnyH_ready (rs := [6]) (by kernel_rfl) (by simp) ?_
        refine AllReadyH.cons (o := ?_) (ho := ?_) (h := ?_) (hs := AllReadyH.nil)
        rotate_left 1
        · (simp only [List.getElem?_toArray, List.getElem?_cons_succ, List.getElem?_cons_zero]; rfl)
        intro K hK
        go_simp
        refine (HRS.out _ HA.out).mono ?_
        rintro e wc ⟨rfl, fr7, hss, hKc⟩
        have HC := Lib.hid (And.intro hss hKc)
        clear hss hKc
        go_wp2_with fail
        refine hK.out _ _ ?_ (fun hHeld => ?_)
        · (trivial)
        clear hK K
        (try simp only [Act.put, List.setIfInBounds_toArray, List.set_cons_zero, List.set_cons_succ])
        first
          | (refine wpAnyH_take (i := 7) (oi := ?_) (v := ?_) (hi := ?_) (hs := ?_) (hf := ?_) (hr := ?_) (hQ := ?_) (hy := ?_) (hS := ?_) (h := ?_)
             rotate_left 2
             · (simp only [List.getElem?_toArray, List.getElem?_cons_succ, List.getElem?_cons_zero]; rfl)
             · kernel_rfl
             · kernel_rfl
             · kernel_rfl
             · exact fun _ _ _ h => h
             · (refine Or.inl ⟨by rfl, ?_⟩; intro wz hSw; (try dsimp only at hSw); go_simp; (try with_reducible rfl))
             · assumption
             (try simp only [Act.put, List.setIfInBounds_toArray, List.set_cons_zero, List.set_cons_succ]))
          | (refine held_skip (i := 7) (oi := ?_) (hi := ?_) (hs := ?_) (hf := ?_) (hr := ?_) (hQ := ?_) (hw := ?_) (hS := ?_) (h := ?_)
             rotate_left 1
             · (simp only [List.getElem?_toArray, List.getElem?_cons_succ, List.getElem?_cons_zero]; rfl)
             · kernel_rfl
             · kernel_rfl
             · kernel_rfl
             · exact fun _ _ _ h => h
             · rfl
             · assumption
             (try simp only [Act.put, List.setIfInBounds_toArray, List.set_cons_zero, List.set_cons_succ]))
          | fail
        first
          | (refine wpAnyH_take (i := 8) (oi := ?_) (v := ?_) (hi := ?_) (hs := ?_) (hf := ?_) (hr := ?_) (hQ := ?_) (hy := ?_) (hS := ?_) (h := ?_)
             rotate_left 2
             · (simp only [List.getElem?_toArray, List.getElem?_cons_succ, List.getElem?_cons_zero]; rfl)
             · kernel_rfl
             · kernel_rfl
             · kernel_rfl
             · exact fun _ _ _ h => h
             · (refine Or.inl ⟨by rfl, ?_⟩; intro wz hSw; (try dsimp only at hSw); go_simp; (try with_reducible rfl))
             · assumption
             (try simp only [Act.put, List.setIfInBounds_toArray, List.set_cons_zero, List.set_cons_succ]))
          | (refine held_skip (i := 8) (oi := ?_) (hi := ?_) (hs := ?_) (hf := ?_) (hr := ?_) (hQ := ?_) (hw := ?_) (hS := ?_) (h := ?_)
             rotate_left 1
             · (simp only [List.getElem?_toArray, List.getElem?_cons_succ, List.getElem?_cons_zero]; rfl)
             · kernel_rfl
             · kernel_rfl
             · kernel_rfl
             · exact fun _ _ _ h => h
             · rfl
             · assumption
             (try simp only [Act.put, List.setIfInBounds_toArray, List.set_cons_zero, List.set_cons_succ]))
          | fail
        first
          | (refine wpAnyH_take (i := 9) (oi := ?_) (v := ?_) (hi := ?_) (hs := ?_) (hf := ?_) (hr := ?_) (hQ := ?_) (hy := ?_) (hS := ?_) (h := ?_)
             rotate_left 2
             · (simp only [List.getElem?_toArray, List.getElem?_cons_succ, List.getElem?_cons_zero]; rfl)
             · kernel_rfl
             · kernel_rfl
             · kernel_rfl
             · exact fun _ _ _ h => h
             · (refine Or.inl ⟨by rfl, ?_⟩; intro wz hSw; (try dsimp only at hSw); go_simp; (try with_reducible rfl))
             · assumption
             (try simp only [Act.put, List.setIfInBounds_toArray, List.set_cons_zero, List.set_cons_succ]))
          | (refine held_skip (i := 9) (oi := ?_) (hi := ?_) (hs := ?_) (hf := ?_) (hr := ?_) (hQ := ?_) (hw := ?_) (hS := ?_) (h := ?_)
             rotate_left 1
             · (simp only [List.getElem?_toArray, List.getElem?_cons_succ, List.getElem?_cons_zero]; rfl)
             · kernel_rfl
             · kernel_rfl
             · kernel_rfl
             · exact fun _ _ _ h => h
             · rfl
             · assumption
             (try simp only [Act.put, List.setIfInBounds_toArray, List.set_cons_zero, List.set_cons_succ]))
          | fail
        first
          | (refine wpAnyH_take (i := 10) (oi := ?_) (v := ?_) (hi := ?_) (hs := ?_) (hf := ?_) (hr := ?_) (hQ := ?_) (hy := ?_) (hS := ?_) (h := ?_)
             rotate_left 2
             · (simp only [List.getElem?_toArray, List.getElem?_cons_succ, List.getElem?_cons_zero]; rfl)
             · kernel_rfl
             · kernel_rfl
             · kernel_rfl
             · exact fun _ _ _ h => h
             · (refine Or.inl ⟨by rfl, ?_⟩; intro wz hSw; (try dsimp only at hSw); go_simp; (try with_reducible rfl))
             · assumption
             (try simp only [Act.put, List.setIfInBounds_toArray, List.set_cons_zero, List.set_cons_succ]))
          | (refine held_skip (i := 10) (oi := ?_) (hi := ?_) (hs := ?_) (hf := ?_) (hr := ?_) (hQ := ?_) (hw := ?_) (hS := ?_) (h := ?_)
             rotate_left 1
             · (simp only [List.getElem?_toArray, List.getElem?_cons_succ, List.getElem?_cons_zero]; rfl)
             · kernel_rfl
             · kernel_rfl
             · kernel_rfl
             · exact fun _ _ _ h => h
             · rfl
             · assumption
             (try simp only [Act.put, List.setIfInBounds_toArray, List.set_cons_zero, List.set_cons_succ]))
          | fail
        first
          | (refine wpAnyH_take (i := 11) (oi := ?_) (v := ?_) (hi := ?_) (hs := ?_) (hf := ?_) (hr := ?_) (hQ := ?_) (hy := ?_) (hS := ?_) (h := ?_)
             rotate_left 2
             · (simp only [List.getElem?_toArray, List.getElem?_cons_succ, List.getElem?_cons_zero]; rfl)
             · kernel_rfl
             · kernel_rfl
             · kernel_rfl
             · exact fun _ _ _ h => h
             · (refine Or.inl ⟨by rfl, ?_⟩; intro wz hSw; (try dsimp only at hSw); go_simp; (try with_reducible rfl))
             · assumption
             (try simp only [Act.put, List.setIfInBounds_toArray, List.set_cons_zero, List.set_cons_succ]))
          | (refine held_skip (i := 11) (oi := ?_) (hi := ?_) (hs := ?_) (hf := ?_) (hr := ?_) (hQ := ?_) (hw := ?_) (hS := ?_) (h := ?_)
             rotate_left 1
             · (simp only [List.getElem?_toArray, List.getElem?_cons_succ, List.getElem?_cons_zero]; rfl)
             · kernel_rfl
             · kernel_rfl
             · kernel_rfl
             · exact fun _ _ _ h => h
             · rfl
             · assumption
             (try simp only [Act.put, List.setIfInBounds_toArray, List.set_cons_zero, List.set_cons_succ]))
          | fail
        refine wpAnyH_ready (rs := [12]) (by kernel_rfl) (by simp) ?_
        refine AllReadyH.cons (o := ?_) (ho := ?_) (h := ?_) (hs := AllReadyH.nil)
        rotate_left 1
        · (simp only [List.getElem?_toArray, List.getElem?_cons_succ, List.getElem?_cons_zero]; rfl)
        intro K hK
        go_simp
        refine (psame2_calls gs bs gr bbr l' pend' f6 fr7 _ HC.out.1 HV.out.2.2.2.2.2.2.1).mono ?_
        rintro e we ⟨rfl, hke⟩
        have HE := Lib.hid (HC.out.2.trans (fp1 := []) hke (by simp))
        clear hke
        go_wp2_with fail
        refine hK.out _ _ ?_ (fun hHeld => ?_)
        · (trivial)
        clear hK K
        (try simp only [Act.put, List.setIfInBounds_toArray, List.set_cons_zero, List.set_cons_succ])
        first
          | (refine wpAnyH_take (i := 13) (oi := ?_) (v := ?_) (hi := ?_) (hs := ?_) (hf := ?_) (hr := ?_) (hQ := ?_) (hy := ?_) (hS := ?_) (h := ?_)
             rotate_left 2
             · (simp only [List.getElem?_toArray, List.getElem?_cons_succ, List.getElem?_cons_zero]; rfl)
             · kernel_rfl
             · kernel_rfl
             · kernel_rfl
             · exact fun _ _ _ h => h
             · (refine Or.inl ⟨by rfl, ?_⟩; intro wz hSw; (try dsimp only at hSw); go_simp; (try with_reducible rfl))
             · assumption
             (try simp only [Act.put, List.setIfInBounds_toArray, List.set_cons_zero, List.set_cons_succ]))
          | (refine held_skip (i := 13) (oi := ?_) (hi := ?_) (hs := ?_) (hf := ?_) (hr := ?_) (hQ := ?_) (hw := ?_) (hS := ?_) (h := ?_)
             rotate_left 1
             · (simp only [List.getElem?_toArray, List.getElem?_cons_succ, List.getElem?_cons_zero]; rfl)
             · kernel_rfl
             · kernel_rfl
             · kernel_rfl
             · exact fun _ _ _ h => h
             · rfl
             · assumption
             (try simp only [Act.put, List.setIfInBounds_toArray, List.set_cons_zero, List.set_cons_succ]))
          | fail
        first
          | (refine wpAnyH_take (i := 14) (oi := ?_) (v := ?_) (hi := ?_) (hs := ?_) (hf := ?_) (hr := ?_) (hQ := ?_) (hy := ?_) (hS := ?_) (h := ?_)
             rotate_left 2
             · (simp only [List.getElem?_toArray, List.getElem?_cons_succ, List.getElem?_cons_zero]; rfl)
             · kernel_rfl
             · kernel_rfl
             · kernel_rfl
             · exact fun _ _ _ h => h
             · (refine Or.inl ⟨by rfl, ?_⟩; intro wz hSw; (try dsimp only at hSw); go_simp; (try with_reducible rfl))
             · assumption
             (try simp only [Act.put, List.setIfInBounds_toArray, List.set_cons_zero, List.set_cons_succ]))
          | (refine held_skip (i := 14) (oi := ?_) (hi := ?_) (hs := ?_) (hf := ?_) (hr := ?_) (hQ := ?_) (hw := ?_) (hS := ?_) (h := ?_)
             rotate_left 1
             · (simp only [List.getElem?_toArray, List.getElem?_cons_succ, List.getElem?_cons_zero]; rfl)
             · kernel_rfl
             · kernel_rfl
             · kernel_rfl
             · exact fun _ _ _ h => h
             · rfl
             · assumption
             (try simp only [Act.put, List.setIfInBounds_toArray, List.set_cons_zero, List.set_cons_succ]))
          | fail
        first
          | (refine wpAnyH_take (i := 15) (oi := ?_) (v := ?_) (hi := ?_) (hs := ?_) (hf := ?_) (hr := ?_) (hQ := ?_) (hy := ?_) (hS := ?_) (h := ?_)
             rotate_left 2
             · (simp only [List.getElem?_toArray, List.getElem?_cons_succ, List.getElem?_cons_zero]; rfl)
             · kernel_rfl
             · kernel_rfl
             · kernel_rfl
             · exact fun _ _ _ h => h
             · (refine Or.inl ⟨by rfl, ?_⟩; intro wz hSw; (try dsimp only at hSw); go_simp; (try with_reducible rfl))
             · assumption
             (try simp only [Act.put, List.setIfInBounds_toArray, List.set_cons_zero, List.set_cons_succ]))
          | (refine held_skip (i := 15) (oi := ?_) (hi := ?_) (hs := ?_) (hf := ?_) (hr := ?_) (hQ := ?_) (hw := ?_) (hS := ?_) (h := ?_)
             rotate_left 1
             · (simp only [List.getElem?_toArray, List.getElem?_cons_succ, List.getElem?_cons_zero]; rfl)
             · kernel_rfl
             · kernel_rfl
             · kernel_rfl
             · exact fun _ _ _ h => h
             · rfl
             · assumption
             (try simp only [Act.put, List.setIfInBounds_toArray, List.set_cons_zero, List.set_cons_succ]))
          | fail
        first
          | (refine wpAnyH_take (i := 16) (oi := ?_) (v := ?_) (hi := ?_) (hs := ?_) (hf := ?_) (hr := ?_) (hQ := ?_) (hy := ?_) (hS := ?_) (h := ?_)
             rotate_left 2
             · (simp only [List.getElem?_toArray, List.getElem?_cons_succ, List.getElem?_cons_zero]; rfl)
             · kernel_rfl
             · kernel_rfl
             · kernel_rfl
             · exact fun _ _ _ h => h
             · (refine Or.inl ⟨by rfl, ?_⟩; intro wz hSw; (try dsimp only at hSw); go_simp; (try with_reducible rfl))
             · assumption
             (try simp only [Act.put, List.setIfInBounds_toArray, List.set_cons_zero, List.set_cons_succ]))
          | (refine held_skip (i := 16) (oi := ?_) (hi := ?_) (hs := ?_) (hf := ?_) (hr := ?_) (hQ := ?_) (hw := ?_) (hS := ?_) (h := ?_)
             rotate_left 1
             · (simp only [List.getElem?_toArray, List.getElem?_cons_succ, List.getElem?_cons_zero]; rfl)
             · kernel_rfl
             · kernel_rfl
             · kernel_rfl
             · exact fun _ _ _ h => h
             · rfl
             · assumption
             (try simp only [Act.put, List.setIfInBounds_toArray, List.set_cons_zero, List.set_cons_succ]))
          | fail
        first
          | (refine wpAnyH_take (i := 17) (oi := ?_) (v := ?_) (hi := ?_) (hs := ?_) (hf := ?_) (hr := ?_) (hQ := ?_) (hy := ?_) (hS := ?_) (h := ?_)
             rotate_left 2
             · (simp only [List.getElem?_toArray, List.getElem?_cons_succ, List.getElem?_cons_zero]; rfl)
             · kernel_rfl
             · kernel_rfl
             · kernel_rfl
             · exact fun _ _ _ h => h
             · (refine Or.inl ⟨by rfl, ?_⟩; intro wz hSw; (try dsimp only at hSw); go_simp; (try with_reducible rfl))
             · assumption
             (try simp only [Act.put, List.setIfInBounds_toArray, List.set_cons_zero, List.set_cons_succ]))
          | (refine held_skip (i := 17) (oi := ?_) (hi := ?_) (hs := ?_) (hf := ?_) (hr := ?_) (hQ := ?_) (hw := ?_) (hS := ?_) (h := ?_)
             rotate_left 1
             · (simp only [List.getElem?_toArray, List.getElem?_cons_succ, List.getElem?_cons_zero]; rfl)
             · kernel_rfl
             · kernel_rfl
             · kernel_rfl
             · exact fun _ _ _ h => h
             · rfl
             · assumption
             (try simp only [Act.put, List.setIfInBounds_toArray, List.set_cons_zero, List.set_cons_succ]))
          | fail
        first
          | (refine wpAnyH_take (i := 18) (oi := ?_) (v := ?_) (hi := ?_) (hs := ?_) (hf := ?_) (hr := ?_) (hQ := ?_) (hy := ?_) (hS := ?_) (h := ?_)
             rotate_left 2
             · (simp only [List.getElem?_toArray, List.getElem?_cons_succ, List.getElem?_cons_zero]; rfl)
             · kernel_rfl
             · kernel_rfl
             · kernel_rfl
             · exact fun _ _ _ h => h
             · (refine Or.inl ⟨by rfl, ?_⟩; intro wz hSw; (try dsimp only at hSw); go_simp; (try with_reducible rfl))
             · assumption
             (try simp only [Act.put, List.setIfInBounds_toArray, List.set_cons_zero, List.set_cons_succ]))
          | (refine held_skip (i := 18) (oi := ?_) (hi := ?_) (hs := ?_) (hf := ?_) (hr := ?_) (hQ := ?_) (hw := ?_) (hS := ?_) (h := ?_)
             rotate_left 1
             · (simp only [List.getElem?_toArray, List.getElem?_cons_succ, List.getElem?_cons_zero]; rfl)
             · kernel_rfl
             · kernel_rfl
             · kernel_rfl
             · exact fun _ _ _ h => h
             · rfl
             · assumption
             (try simp only [Act.put, List.setIfInBounds_toArray, List.set_cons_zero, List.set_cons_succ]))
          | fail
        first
          | (refine wpAnyH_take (i := 19) (oi := ?_) (v := ?_) (hi := ?_) (hs := ?_) (hf := ?_) (hr := ?_) (hQ := ?_) (hy := ?_) (hS := ?_) (h := ?_)
             rotate_left 2
             · (simp only [List.getElem?_toArray, List.getElem?_cons_succ, List.getElem?_cons_zero]; rfl)
             · kernel_rfl
             · kernel_rfl
             · kernel_rfl
             · exact fun _ _ _ h => h
             · (refine Or.inl ⟨by rfl, ?_⟩; intro wz hSw; (try dsimp only at hSw); go_simp; (try with_reducible rfl))
             · assumption
             (try simp only [Act.put, List.setIfInBounds_toArray, List.set_cons_zero, List.set_cons_succ]))
          | (refine held_skip (i := 19) (oi := ?_) (hi := ?_) (hs := ?_) (hf := ?_) (hr := ?_) (hQ := ?_) (hw := ?_) (hS := ?_) (h := ?_)
             rotate_left 1
             · (simp only [List.getElem?_toArray, List.getElem?_cons_succ, List.getElem?_cons_zero]; rfl)
             · kernel_rfl
             · kernel_rfl
             · kernel_rfl
             · exact fun _ _ _ h => h
             · rfl
             · assumption
             (try simp only [Act.put, List.setIfInBounds_toArray, List.set_cons_zero, List.set_cons_succ]))
          | fail
        first
          | (refine wpAnyH_take (i := 20) (oi := ?_) (v := ?_) (hi := ?_) (hs := ?_) (hf := ?_) (hr := ?_) (hQ := ?_) (hy := ?_) (hS := ?_) (h := ?_)
             rotate_left 2
             · (simp only [List.getElem?_toArray, List.getElem?_cons_succ, List.getElem?_cons_zero]; rfl)
             · kernel_rfl
             · kernel_rfl
             · kernel_rfl
             · exact fun _ _ _ h => h
             · (refine Or.inl ⟨by rfl, ?_⟩; intro wz hSw; (try dsimp only at hSw); go_simp; (try with_reducible rfl))
             · assumption
             (try simp only [Act.put, List.setIfInBounds_toArray, List.set_cons_zero, List.set_cons_succ]))
          | (refine held_skip (i := 20) (oi := ?_) (hi := ?_) (hs := ?_) (hf := ?_) (hr := ?_) (hQ := ?_) (hw := ?_) (hS := ?_) (h := ?_)
             rotate_left 1
             · (simp only [List.getElem?_toArray, List.getElem?_cons_succ, List.getElem?_cons_zero]; rfl)
             · kernel_rfl
             · kernel_rfl
             · kernel_rfl
             · exact fun _ _ _ h => h
             · rfl
             · assumption
             (try simp only [Act.put, List.setIfInBounds_toArray, List.set_cons_zero, List.set_cons_succ]))
          | fail
        first
          | (refine wpAnyH_take (i := 21) (oi := ?_) (v := ?_) (hi := ?_) (hs := ?_) (hf := ?_) (hr := ?_) (hQ := ?_) (hy := ?_) (hS := ?_) (h := ?_)
             rotate_left 2
             · (simp only [List.getElem?_toArray, List.getElem?_cons_succ, List.getElem?_cons_zero]; rfl)
             · kernel_rfl
             · kernel_rfl
             · kernel_rfl
             · exact fun _ _ _ h => h
             · (refine Or.inl ⟨by rfl, ?_⟩; intro wz hSw; (try dsimp only at hSw); go_simp; (try with_reducible rfl))
             · assumption
             (try simp only [Act.put, List.setIfInBounds_toArray, List.set_cons_zero, List.set_cons_succ]))
          | (refine held_skip (i := 21) (oi := ?_) (hi := ?_) (hs := ?_) (hf := ?_) (hr := ?_) (hQ := ?_) (hw := ?_) (hS := ?_) (h := ?_)
             rotate_left 1
             · (simp only [List.getElem?_toArray, List.getElem?_cons_succ, List.getElem?_cons_zero]; rfl)
             · kernel_rfl
             · kernel_rfl
             · kernel_rfl
             · exact fun _ _ _ h => h
             · rfl
             · assumption
             (try simp only [Act.put, List.setIfInBounds_toArray, List.set_cons_zero, List.set_cons_succ]))
          | fail
        first
          | (refine wpAnyH_take (i := 22) (oi := ?_) (v := ?_) (hi := ?_) (hs := ?_) (hf := ?_) (hr := ?_) (hQ := ?_) (hy := ?_) (hS := ?_) (h := ?_)
             rotate_left 2
             · (simp only [List.getElem?_toArray, List.getElem?_cons_succ, List.getElem?_cons_zero]; rfl)
             · kernel_rfl
             · kernel_rfl
             · kernel_rfl
             · exact fun _ _ _ h => h
             · (refine Or.inl ⟨by rfl, ?_⟩; intro wz hSw; (try dsimp only at hSw); go_simp; (try with_reducible rfl))
             · assumption
             (try simp only [Act.put, List.setIfInBounds_toArray, List.set_cons_zero, List.set_cons_succ]))
          | (refine held_skip (i := 22) (oi := ?_) (hi := ?_) (hs := ?_) (hf := ?_) (hr := ?_) (hQ := ?_) (hw := ?_) (hS := ?_) (h := ?_)
             rotate_left 1
             · (simp only [List.getElem?_toArray, List.getElem?_cons_succ, List.getElem?_cons_zero]; rfl)
             · kernel_rfl
             · kernel_rfl
             · kernel_rfl
             · exact fun _ _ _ h => h
             · rfl
             · assumption
             (try simp only [Act.put, List.setIfInBounds_toArray, List.set_cons_zero, List.set_cons_succ]))
          | fail
        first
          | (refine wpAnyH_take (i := 23) (oi := ?_) (v := ?_) (hi := ?_) (hs := ?_) (hf := ?_) (hr := ?_) (hQ := ?_) (hy := ?_) (hS := ?_) (h := ?_)
             rotate_left 2
             · (simp only [List.getElem?_toArray, List.getElem?_cons_succ, List.getElem?_cons_zero]; rfl)
             · kernel_rfl
             · kernel_rfl
             · kernel_rfl
             · exact fun _ _ _ h => h
             · (refine Or.inl ⟨by rfl, ?_⟩; intro wz hSw; (try dsimp only at hSw); go_simp; (try with_reducible rfl))
             · assumption
             (try simp only [Act.put, List.setIfInBounds_toArray, List.set_cons_zero, List.set_cons_succ]))
          | (refine held_skip (i := 23) (oi := ?_) (hi := ?_) (hs := ?_) (hf := ?_) (hr := ?_) (hQ := ?_) (hw := ?_) (hS := ?_) (h := ?_)
             rotate_left 1
             · (simp only [List.getElem?_toArray, List.getElem?_cons_succ, List.getElem?_cons_zero]; rfl)
             · kernel_rfl
             · kernel_rfl
             · kernel_rfl
             · exact fun _ _ _ h => h
             · rfl
             · assumption
             (try simp only [Act.put, List.setIfInBounds_toArray, List.set_cons_zero, List.set_cons_succ]))
          | fail
        first
          | (refine wpAnyH_take (i := 24) (oi := ?_) (v := ?_) (hi := ?_) (hs := ?_) (hf := ?_) (hr := ?_) (hQ := ?_) (hy := ?_) (hS := ?_) (h := ?_)
             rotate_left 2
             · (simp only [List.getElem?_toArray, List.getElem?_cons_succ, List.getElem?_cons_zero]; rfl)
             · kernel_rfl
             · kernel_rfl
             · kernel_rfl
             · exact fun _ _ _ h => h
             · (refine Or.inl ⟨by rfl, ?_⟩; intro wz hSw; (try dsimp only at hSw); go_simp; (try with_reducible rfl))
             · assumption
             (try simp only [Act.put, List.setIfInBounds_toArray, List.set_cons_zero, List.set_cons_succ]))
          | (refine held_skip (i := 24) (oi := ?_) (hi := ?_) (hs := ?_) (hf := ?_) (hr := ?_) (hQ := ?_) (hw := ?_) (hS := ?_) (h := ?_)
             rotate_left 1
             · (simp only [List.getElem?_toArray, List.getElem?_cons_succ, List.getElem?_cons_zero]; rfl)
             · kernel_rfl
             · kernel_rfl
             · kernel_rfl
             · exact fun _ _ _ h => h
             · rfl
             · assumption
             (try simp only [Act.put, List.setIfInBounds_toArray, List.set_cons_zero, List.set_cons_succ]))
          | fail
        first
          | (refine wpAnyH_take (i := 25) (oi := ?_) (v := ?_) (hi := ?_) (hs := ?_) (hf := ?_) (hr := ?_) (hQ := ?_) (hy := ?_) (hS := ?_) (h := ?_)
             rotate_left 2
             · (simp only [List.getElem?_toArray, List.getElem?_cons_succ, List.getElem?_cons_zero]; rfl)
             · kernel_rfl
             · kernel_rfl
             · kernel_rfl
             · exact fun _ _ _ h => h
             · (refine Or.inl ⟨by rfl, ?_⟩; intro wz hSw; (try dsimp only at hSw); go_simp; (try with_reducible rfl))
             · assumption
             (try simp only [Act.put, List.setIfInBounds_toArray, List.set_cons_zero, List.set_cons_succ]))
          | (refine held_skip (i := 25) (oi := ?_) (hi := ?_) (hs := ?_) (hf := ?_) (hr := ?_) (hQ := ?_) (hw := ?_) (hS := ?_) (h := ?_)
             rotate_left 1
             · (simp only [List.getElem?_toArray, List.getElem?_cons_succ, List.getElem?_cons_zero]; rfl)
             · kernel_rfl
             · kernel_rfl
             · kernel_rfl
             · exact fun _ _ _ h => h
             · rfl
             · assumption
             (try simp only [Act.put, List.setIfInBounds_toArray, List.set_cons_zero, List.set_cons_succ]))
          | fail
        first
          | (refine wpAnyH_take (i := 26) (oi := ?_) (v := ?_) (hi := ?_) (hs := ?_) (hf := ?_) (hr := ?_) (hQ := ?_) (hy := ?_) (hS := ?_) (h := ?_)
             rotate_left 2
             · (simp only [List.getElem?_toArray, List.getElem?_cons_succ, List.getElem?_cons_zero]; rfl)
             · kernel_rfl
             · kernel_rfl
             · kernel_rfl
             · exact fun _ _ _ h => h
             · (refine Or.inl ⟨by rfl, ?_⟩; intro wz hSw; (try dsimp only at hSw); go_simp; (try with_reducible rfl))
             · assumption
             (try simp only [Act.put, List.setIfInBounds_toArray, List.set_cons_zero, List.set_cons_succ]))
          | (refine held_skip (i := 26) (oi := ?_) (hi := ?_) (hs := ?_) (hf := ?_) (hr := ?_) (hQ := ?_) (hw := ?_) (hS := ?_) (h := ?_)
             rotate_left 1
             · (simp only [List.getElem?_toArray, List.getElem?_cons_succ, List.getElem?_cons_zero]; rfl)
             · kernel_rfl
             · kernel_rfl
             · kernel_rfl
             · exact fun _ _ _ h => h
             · rfl
             · assumption
             (try simp only [Act.put, List.setIfInBounds_toArray, List.set_cons_zero, List.set_cons_succ]))
          | fail
        first
          | (refine wpAnyH_take (i := 27) (oi := ?_) (v := ?_) (hi := ?_) (hs := ?_) (hf := ?_) (hr := ?_) (hQ := ?_) (hy := ?_) (hS := ?_) (h := ?_)
             rotate_left 2
             · (simp only [List.getElem?_toArray, List.getElem?_cons_succ, List.getElem?_cons_zero]; rfl)
             · kernel_rfl
             · kernel_rfl
             · kernel_rfl
             · exact fun _ _ _ h => h
             · (refine Or.inl ⟨by rfl, ?_⟩; intro wz hSw; (try dsimp only at hSw); go_simp; (try with_reducible rfl))
             · assumption
             (try simp only [Act.put, List.setIfInBounds_toArray, List.set_cons_zero, List.set_cons_succ]))
          | (refine held_skip (i := 27) (oi := ?_) (hi := ?_) (hs := ?_) (hf := ?_) (hr := ?_) (hQ := ?_) (hw := ?_) (hS := ?_) (h := ?_)
             rotate_left 1
             · (simp only [List.getElem?_toArray, List.getElem?_cons_succ, List.getElem?_cons_zero]; rfl)
             · kernel_rfl
             · kernel_rfl
             · kernel_rfl
             · exact fun _ _ _ h => h
             · rfl
             · assumption
             (try simp only [Act.put, List.setIfInBounds_toArray, List.set_cons_zero, List.set_cons_succ]))
          | fail
        refine wpAnyH_done (by kernel_rfl) ?_ _
        go_wp2_with fail
        go_ret
        exact ⟨by simp, HE.out.below (Nat.le_refl _) (by simp)⟩
      · clear hcode
        have HBB := Lib.hid hb
        clear hb
        go_wp2_with fail
        go_region_held_law (fun w' => True) (trivial)
          (first
            | (go_at_call 23
               refine (live_calls _).mono ?_
               rintro e wa ⟨rfl, hka⟩
               have HA := Lib.hid (show Keeps w6 wa [] from (Keeps.refl w6 []).drew.trans (fp1 := []) hka (by simp))
               clear hka)
            | (go_at_call 36
               refine (HRS.out _ HA.out).mono ?_
               rintro e wc ⟨rfl, fr7, hss, hKc⟩
               have HC := Lib.hid (And.intro hss hKc)
               clear hss hKc)
            | (go_at_call 29
               refine (psame2_calls gs bs gr bbr l' pend' f6 fr7 _ HC.out.1 HV.out.2.2.2.2.2.2.1).mono ?_
               rintro e we ⟨rfl, hke⟩
               have HE := Lib.hid (show St we gs bs l' pend' f6 ∧ Keeps w we [] from ⟨HC.out.1.1.nil hke, HC.out.2.trans (fp1 := []) hke (by simp)⟩)
               clear hke)
            | (go_at_call 20
               refine Calls.mono (HLD.out _ f6 HE.out.1) ?_
               rintro e wl ⟨Al, cl, fl, rfl, hrl, -, hkl⟩
               rw [HBB.out] at hrl
               rw [HBB.out]
               have kxl := str_reads wl Al b7.length cl b7 fl hrl
               have kxb := str_reads wl B n7 cB b7 fb (HF.out.2.1.keeps (HE.out.2.trans (fp1 := []) hkl (by simp)) (by simp))
               have HL := Lib.hid (HE.out.2.trans (fp1 := []) hkl (by simp))
               clear hrl hkl)
            | (go_at_call 22
               refine (HF.out.1 _).mono ?_
               rintro e wf ⟨rfl, rfl⟩))
        all_goals
          go_wp2_with fail
          go_ret
          exact ⟨by simp, HL.out.below (Nat.le_refl _) (by simp)⟩

/-! ### the row (its frame is printed by gen.py; the walk is above) -/
theorem own : ownKnob Try.prog.godebug = none := by kernel_rfl
theorem laidOut : laidOutB Try.prog = true := by kernel_rfl
set_option maxRecDepth 100000 in
theorem lifted (os : Os) (started : os.Started) (H : Type) (enc : TypeId × Value → H) :
    ReturnsInHanded {} Try.checked os 10 .any (Rows.slotsRawSpec.pre6 enc Try.prog Try.f10 Rows.slotsRawRow.domain false) (Rows.slotsRawSpec.post enc Try.prog Try.f10 false true false false) := by
  refine returnsInHanded_of_change (C := Try.checked) own started (by kernel_rfl) Try.func10
    (ChangeSpec.witness6 (enc := enc) (C := Try.checked) false ⟨#[], #[.agg #[.slice none 0 0, .slice none 0 0], .agg #[.int .u64 0, .int .u64 0], .slice none 0 0], []⟩ 8 (by kernel_rfl) (by kernel_rfl) (by kernel_rfl) (by kernel_rfl)) ?_
  intro W base args ds gs before hval0 hW hcnd _
  have hval : ∀ (j : Nat) t v, Try.f10.params[j]? = some t → args[j]? = some v → Value.okWide Try.prog W .any base t v := hval0
  have hW' := hW
  obtain ⟨p, q, hA0, hV, rfl, hfz, hnd⟩ := hW
  have hA : DataW.TrodAll enc Try.prog W 0 (fun _ => true) true Try.f10.params.toList args.toList ds p := hA0
  rw [Try.params10] at hA hval
  obtain ⟨v0, vs0, d0, ds0, p0, q0, hargs, rfl, rfl, h0, r0⟩ := trodAll_cons hA
  obtain ⟨v1, vs1, d1, ds1, p1, q1, rfl, rfl, rfl, h1, r1⟩ := trodAll_cons r0
  obtain ⟨v2, vs2, d2, ds2, p2, q2, rfl, rfl, rfl, h2, r2⟩ := trodAll_cons r1
  obtain ⟨rfl, rfl, rfl⟩ := trodAll_nil r2
  obtain rfl : args = #[v0, v1, v2] := by cases args; simp_all
  obtain ⟨rfl, rfl⟩ := trodVars_none hV
  have k0 := h0
  have lt0 : ∀ x ∈ p0, x.block < W.heap.size := by obtain ⟨m, hm⟩ := k0; exact DataW.trod_lt m _ _ _ hm
  obtain ⟨x0, rfl, w0⟩ := open_bpair (hval 0 57 v0 rfl rfl) h0
  have k1 := h1
  have lt1 : ∀ x ∈ p1, x.block < W.heap.size := by obtain ⟨m, hm⟩ := k1; exact DataW.trod_lt m _ _ _ hm
  obtain ⟨x1, rfl, w1, wb1⟩ := open_u64pair (hval 1 58 v1 rfl rfl) h1
  have k2 := h2
  have lt2 : ∀ x ∈ p2, x.block < W.heap.size := by obtain ⟨m, hm⟩ := k2; exact DataW.trod_lt m _ _ _ hm
  obtain ⟨a2, len2, cap2, rfl⟩ := okWide_slice Try.underlying22 (hval 2 22 v2 rfl rfl)
  obtain ⟨fuel2, hf2⟩ := h2
  obtain ⟨x2, fp2, w2, wl2, wf2, wc2, wm2⟩ := open_bytes8 (enc := enc) (P := Try.prog) Try.underlying22 Try.underlying5 (by kernel_rfl) (by simpa [Value.cells] using hf2)
  clear hA0 hval0
  refine (walk x0 x1 a2 len2 cap2 x2 fp2 W w0 w1 wb1 w2 wl2 wf2 wc2 wm2).mono fun e W' ⟨he, bel⟩ => ?_
  subst he
  exact ⟨_, rfl, _, _, _, [], _, [], hW', trodAll_mk1 (shut_bool Try.underlying4 _), (trodAll_cons_mk (Below.trod laidOut (by kernel_rfl) (of_decide_eq_true (by kernel_rfl)) k0 bel lt0) (trodAll_cons_mk (Below.trod laidOut (by kernel_rfl) (of_decide_eq_true (by kernel_rfl)) k1 bel lt1) (trodAll_cons_mk (Below.trod laidOut (by kernel_rfl) (of_decide_eq_true (by kernel_rfl)) k2 bel lt2) trodAll_mk0))), rfl, bel.frame _, fun h => by cases h⟩

theorem over : Rows.slotsRawRow.holds Try.pinned (OpenSpec.ofChange Rows.slotsRawSpec) :=
  OpenClaim.holds_of_wide 10 Try.f10 rfl rfl rfl rfl rfl rfl rfl ⟨rfl, rfl, rfl, rfl, rfl⟩ rfl rfl rfl rfl rfl (by kernel_rfl) Try.func10 (by kernel_rfl)
    (of_decide_eq_true (by kernel_rfl)) (by unfold Func.isWrapper; first | (rw [if_pos (by decide +kernel)]; kernel_rfl) | (rw [if_neg (by decide +kernel)]; exact ⟨rfl, rfl⟩))
    (fun os started H enc _ => lifted os started H enc)

theorem proved : Rows.SlotsRawSaid := over
#print axioms proved
end Go.Proofs.Ytecjhaohabjkbaa.vSlotsRaw
