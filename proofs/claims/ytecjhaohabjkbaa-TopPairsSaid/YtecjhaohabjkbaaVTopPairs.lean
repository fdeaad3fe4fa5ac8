/-
  For every keys and values: a map that is saved is loaded as it was, pair by pair: heliographtop.TopPairs answers true, and what came in reads as before. No condition.
-/
import Derived.Test.YtecjhaohabjkbaaRows
import Derived.ProofKit
import Derived.OpenShut
import Derived.ShutString
import Derived.ChangeOld
import Derived.Carry
import Derived.Test.YtecjhaohabjkbaaK9
namespace Go.Proofs.Ytecjhaohabjkbaa.vTopPairs
open Go.ChangeShapes Go.WideShapes Go.ChangeAt Go.RowKit
open Go.ChangeMaps (open_string shut_string)
set_option linter.unusedVariables false

set_option maxHeartbeats 6400000 in set_option maxRecDepth 100000 in
set_option maxRecDepth 100000 in
theorem walk (A : Option Addr) (n c : Nat) (ps0 : List (ByteArray × ByteArray)) (w : World) (hd : PairsA w A n ps0) :
    Calls Try.prog 14 #[.slice A n c] w fun e w' => e = .returned (.bool true) ∧ Below w.heap.size w w' := by
  have H0 := Lib.hid hd
  clear hd
  go_enter Try.func14, Try.ntmps14
  go_wp2_with fail
  refine (new_calls w).mono ?_
  rintro e w1 ⟨rfl, hK1, hk1⟩
  obtain ⟨mb, hmb⟩ : ∃ mb, mb = w.heap.size + 1 := ⟨_, rfl⟩
  obtain ⟨bm, hbm⟩ : ∃ bm, bm = w.heap.size := ⟨_, rfl⟩
  rw [← hmb, ← hbm] at hK1
  rw [← hmb]
  have H1 := Lib.hid (And.intro hK1 (And.intro hk1 (And.intro hmb hbm)))
  clear hK1 hk1 hmb hbm
  go_wp2_with fail
  go_loopw [4] (fun i wr => ∃ (k : Nat) (ps : PL), k ≤ 20 ∧ i = .int .i64 k ∧ KRep wr mb bm ps ∧ ps.length ≤ k ∧ Small ps ∧ Keeps w wr []) (fun i _ => 20 - (intOf i).toNat)
  case atStart => exact ⟨0, [], by omega, rfl, H1.out.1, by simp, fun p hp => by (cases hp), H1.out.2.1⟩
  case round =>
    obtain ⟨k, ps, hk20, rfl, hKR, hpl, hsm, hKe⟩ := hrel
    have HS := Lib.hid (And.intro hKR (And.intro hpl (And.intro hsm hKe)))
    clear hKR hpl hsm hKe
    have g0 : (0 : Int) ≤ (k : Int) := by omega
    have g9 : (k : Int) ≤ 20 := by omega
    by_cases hgo : k < n ∧ k < 20
    · obtain ⟨p, hp⟩ : ∃ p, ps0[k]? = some p := ⟨_, List.getElem?_eq_getElem (by rw [H0.out.1]; exact hgo.1)⟩
      obtain ⟨q, o, rfl, hq, hc0, hc1⟩ := H0.out.2 k p hp
      have c0 := (HS.out.2.2.2.cell hq (by simp)).trans hc0
      have c1 := (HS.out.2.2.2.cell hq (by simp)).trans hc1
      have c0d : wr.drew.cell? ⟨q, o + k * 2, none⟩ = some (.string p.1) := c0
      have c1d : wr.drew.cell? ⟨q, o + k * 2 + 1, none⟩ = some (.string p.2) := c1
      have g1 : (k : Int) < (n : Int) := by omega
      have g2 : (k : Int) < 20 := by omega
      have HQ := Lib.hid (And.intro hq hgo)
      clear hq hc0 hc1 hgo hp
      by_cases hv : p.2.size ≤ 60
      · have hvi : (p.2.size : Int) ≤ 60 := by omega
        have hput : Calls Try.prog 39 #[.pointer (some ⟨mb, 0, none⟩), .string p.1, .string p.2] wr.drew fun e w' => ∃ z ps', e = .returned (.int .i64 z) ∧ KRep w' mb bm ps' ∧ ps'.length ≤ k + 1 ∧ Small ps' ∧ Keeps w w' [] ∧ (w'.cell? ⟨q, o + k * 2, none⟩ = some (.string p.1) ∧ w'.cell? ⟨q, o + k * 2 + 1, none⟩ = some (.string p.2)) := by
          obtain ⟨hKR, hpl, hsm, hKe⟩ := HS.out
          have hKd : KRep wr.drew mb bm ps := hKR.nil (Keeps.refl wr []).drew
          have hKed : Keeps w wr.drew [] := hKe.drew
          by_cases hk1 : 0 < p.1.size ∧ p.1.size ≤ 64
          · refine (put_calls mb bm ps p.1 p.2 wr.drew hKd (by omega) (by omega) hk1.1 hk1.2).mono ?_
            rintro e w' ⟨rfl, h1, h2⟩
            have hbq : q ≠ bm := by have := H1.out.2.2.2; have := HQ.out.1; omega
            refine ⟨_, _, rfl, h1, by have := putP_length ps p.1.data.toList p.2.data.toList; omega, hsm.put hk1.1 hk1.2 hv, hKed.trans h2 (fun i hi hm => by have := H1.out.2.2.2; simp at hm; omega), ?_, ?_⟩
            · rw [h2.cell (by have := hKe.size; have := HQ.out.1; exact Nat.lt_of_lt_of_le this hKe.size) (by simpa using hbq)]; exact c0
            · rw [h2.cell (by have := hKe.size; have := HQ.out.1; exact Nat.lt_of_lt_of_le this hKe.size) (by simpa using hbq)]; exact c1
          · refine (put_refused mb p.1 p.2 wr.drew (by omega) (by omega)).mono ?_
            rintro e w' ⟨rfl, rfl⟩
            exact ⟨_, ps, rfl, hKd, by omega, hsm, hKed, c0, c1⟩
        have HP := Lib.hid hput
        clear hput hv
        go_wp2_with fail
        go_region_held_law (fun w' => w'.cell? ⟨q, o + k * 2, none⟩ = some (.string p.1) ∧ w'.cell? ⟨q, o + k * 2 + 1, none⟩ = some (.string p.2)) (first | exact ⟨c0d, c1d⟩ | exact h69)
          ((go_at_call 39
            refine HP.out.mono ?_
            rintro e w3 ⟨z, ps', rfl, h61, h62, h63, h64, h69⟩
            have H6 := Lib.hid (And.intro h61 (And.intro h62 (And.intro h63 h64)))
            clear h61 h62 h63 h64))
        go_wp2_with fail
        all_goals
          go_roundw
          case rel => exact ⟨k + 1, ps', by omega, by go_num, H6.out.1, H6.out.2.1, H6.out.2.2.1, H6.out.2.2.2⟩
          case measure => simp [intOf]; omega
      · have hvi : 60 < (p.2.size : Int) := by omega
        clear hv
        go_wp2_with fail
        go_roundw
        case rel => exact ⟨k + 1, ps, by omega, by go_num, HS.out.1, by have := HS.out.2.1; omega, HS.out.2.2.1, HS.out.2.2.2⟩
        case measure => simp [intOf]; omega
    · have hx : (n : Int) ≤ k ∨ ((k : Int) < n ∧ 20 ≤ (k : Int)) := by omega
      obtain ⟨L, hL⟩ : ∃ L, L = encAll ps := ⟨_, rfl⟩
      have hLn : L.length ≤ 2540 := by rw [hL]; have := encAll_length ps HS.out.2.2.1; have := HS.out.2.1; omega
      have hLw : Wf8 L := by rw [hL]; exact encAll_wf ps HS.out.2.2.1
      have HL := Lib.hid (And.intro hL (And.intro hLn hLw))
      have hpl20 : ps.length ≤ 20 := by have := HS.out.2.1; omega
      have HP := Lib.hid hpl20
      clear hgo hL hLn hLw hpl20 hk20
      rcases hx with hx | ⟨hx, hx2⟩
      all_goals
        go_wp2_with fail
        refine (dnew_ok 120 wr (by omega) (by omega)).mono ?_
        rintro e w1 ⟨b1, f1, rfl, hd1, hk1, hn1⟩
        have H2 := Lib.hid (And.intro hd1 (And.intro hk1 hn1)); clear hd1 hk1 hn1
        have hg0 : Good (List.replicate 120 Sec.zero) [] 0 := Good.new 120 (by omega) (by omega)
        have HG := Lib.hid hg0
        clear hg0
        go_wp2_with fail
        refine Calls.mono (open_ok b1 _ [] w1 f1 H2.out.1 (HG.out.fit.mono (by omega))) ?_
        rintro e w2 ⟨g2, b2, f2, rfl, hs2, hk2, hn2⟩
        have H3 := Lib.hid (show St w2 g2 b2 (List.replicate 120 Sec.zero) [] f2 ∧ Keeps wr w2 [] ∧ ∀ k ∈ f2, wr.heap.size ≤ k from ⟨hs2, H2.out.2.1.trans hk2 (by simp), fun k hk => by have := hn2 k hk; have := H2.out.2.1.size; omega⟩)
        clear hs2 hk2 hn2 H2
        go_wp2_with fail
        refine (kbytes_calls mb bm ps w2 (HS.out.1.nil H3.out.2.1) HP.out HS.out.2.2.1).mono ?_
        rintro e w3 ⟨v3, f3, rfl, ho3, hk3, hn3⟩
        rw [← HL.out.1] at ho3
        obtain ⟨A3, c3, rfl, hc3, fr3, hr3, hfr3⟩ := ho3.form
        have hs3 := H3.out.1.nil hk3
        have hbt : (bestM (halfOf (List.replicate 120 Sec.zero)) (land (List.replicate 120 Sec.zero) [])).2.2 + 1 < 18446744073709551616 := by rw [show land (List.replicate 120 Sec.zero) [] = List.replicate 120 Sec.zero from rfl, HG.out.best]; show 0 + 1 < _; omega
        have hhalf : halfOf (List.replicate 120 Sec.zero) * 64 = 3776 := by unfold halfOf; simp
        have hsv := saveM_ok g2 b2 (List.replicate 120 Sec.zero) [] f2 w3 A3 L.length c3 L fr3 hs3 (HG.out.fit.mono (by omega)) hr3 HL.out.2.2 (fun j h1 h2 => by have := hn3 j (hfr3 j h1); have := H3.out.1.lt j h2; omega) (by rw [hhalf]; have := HL.out.2.1; omega) hc3 hbt
        obtain ⟨hp1, hg1⟩ := HG.out.save HL.out.2.2 (by rw [hhalf]; have := HL.out.2.1; omega) (by omega)
        have hl1 : (saveTo (List.replicate 120 Sec.zero) [] L none).1.length = (List.replicate 120 Sec.zero).length := saveTo_length _ _ _ _
        rw [hp1] at hsv
        obtain ⟨l1, hl1e⟩ : ∃ l1, l1 = (saveTo (List.replicate 120 Sec.zero) [] L none).1 := ⟨_, rfl⟩
        rw [← hl1e] at hsv hg1
        have H4 := Lib.hid (And.intro hsv (And.intro hg1 (H3.out.2.1.trans hk3 (by simp))))
        clear hs3 hbt hhalf hsv hp1 hg1 hl1 hl1e hr3 hfr3 ho3 hk3 hn3 hc3
        go_wp2_with fail
        refine H4.out.1.mono ?_
        rintro e w5 ⟨rfl, f5, hs5, hk5, hn5⟩
        have H5 := Lib.hid (show St w5 g2 b2 l1 [] f5 ∧ Keeps wr w5 [] from ⟨hs5, H4.out.2.2.trans hk5 (fun j h1 h2 => by have := H3.out.2.2 j h2; omega)⟩)
        clear hs5 hk5 hn5
        go_wp2_with fail
        have hld := load2_calls g2 b2 l1 [] f5 w5 H5.out.1 (H4.out.2.1.fit.mono (by omega))
        rw [show land l1 [] = l1 from rfl, H4.out.2.1.best] at hld
        have HLD := Lib.hid hld
        clear hld
        refine HLD.out.mono ?_
        rintro e w6 ⟨A6, c6, f6, rfl, hr6, hc6, hk6⟩
        have hr6' : Reads w6 1 A6 L.length (bytes (encAll ps)) f6 := by rw [← HL.out.1]; exact hr6
        have hsorted := HS.out.1.sorted
        have hlk := load_kv A6 L.length c6 ps f6 w6 hr6' (by rw [HL.out.1]) hc6 trivial hsorted HS.out.2.2.1 HP.out
        have H6 := Lib.hid (And.intro hlk (H5.out.2.trans (fp1 := []) hk6 (by simp)))
        clear hr6 hr6' hc6 hk6 hlk hsorted
        go_wp2_with fail
        refine H6.out.1.mono ?_
        rintro e w7 ⟨mo, bo, rfl, hK7, hk7, -, -⟩
        have H7 := Lib.hid (show KRep w7 mo bo ps ∧ KRep w7 mb bm ps ∧ Keeps w w7 [] from ⟨hK7, HS.out.1.nil (H6.out.2.trans (fp1 := []) hk7 (by simp)), HS.out.2.2.2.trans (fp1 := []) (H6.out.2.trans (fp1 := []) hk7 (by simp)) (by simp)⟩)
        clear hK7 hk7
        obtain ⟨m, hm⟩ : ∃ m, m = ps.length := ⟨_, rfl⟩
        have hlen1 := fun wx (h : KRep wx mo bo ps) => len_calls mo bo ps wx h
        have hlen2 := fun wx (h : KRep wx mb bm ps) => len_calls mb bm ps wx h
        have hsz1 := fun wx (h : KRep wx mo bo ps) => ksize_calls mo bo ps wx h HP.out HS.out.2.2.1
        have hsz2 := fun wx (h : KRep wx mb bm ps) => ksize_calls mb bm ps wx h HP.out HS.out.2.2.1
        obtain ⟨z, hz⟩ : ∃ z, z = sizeP ps := ⟨_, rfl⟩
        rw [← hm] at hlen1 hlen2
        rw [← hz] at hsz1 hsz2
        have HC := Lib.hid (And.intro hlen1 (And.intro hlen2 (And.intro hsz1 hsz2)))
        have HM := Lib.hid hm
        clear hlen1 hlen2 hsz1 hsz2 hm hz
        go_wp2_with fail
        refine (HC.out.1 _ H7.out.1).mono ?_
        rintro e w8 ⟨rfl, rfl⟩
        go_wp2_with fail
        refine (HC.out.2.1 _ H7.out.2.1).mono ?_
        rintro e w8 ⟨rfl, rfl⟩
        go_wp2_with fail
        refine (HC.out.2.2.1 _ H7.out.1).mono ?_
        rintro e w8 ⟨rfl, hk8⟩
        have H8 := Lib.hid hk8
        clear hk8
        go_wp2_with fail
        refine (HC.out.2.2.2 _ (H7.out.2.1.nil H8.out)).mono ?_
        rintro e w9 ⟨rfl, hk9⟩
        have H9 := Lib.hid (H8.out.trans (fp1 := []) hk9 (by simp))
        clear hk9
        go_wp2_with fail
        refine (kscan_calls mb bm ps w9 (H7.out.2.1.nil H9.out) HP.out HS.out.2.2.1).mono ?_
        rintro e wa ⟨va, fa, rfl, hoa, hka, hna⟩
        obtain ⟨Aa, ca, rfl, -, -⟩ := hoa.form
        have HA := Lib.hid (And.intro hoa (H9.out.trans (fp1 := []) hka (by simp)))
        clear hoa hka hna
        go_wp2_with fail
        refine (kscan_calls mo bo ps wa (H7.out.1.nil HA.out.2) HP.out HS.out.2.2.1).mono ?_
        rintro e wb ⟨vb, fb, rfl, hob, hkb, hnb⟩
        obtain ⟨Ab, cb, rfl, -, -⟩ := hob.form
        have HBB := Lib.hid (And.intro hob (And.intro (HA.out.1.keeps hkb (by simp)) ((H7.out.2.2.trans (fp1 := []) HA.out.2 (by simp)).trans (fp1 := []) hkb (by simp))))
        clear hob hkb hnb
        rw [← HM.out] at HBB
        rw [← HM.out]
        go_wp2_with fail
        go_loopw [10] (fun i wr => ∃ j : Nat, j ≤ m ∧ i = .int .i64 j ∧ Keeps wb wr []) (fun i _ => m - (intOf i).toNat)
        case atStart => exact ⟨0, by omega, rfl, Keeps.refl _ _⟩
        case round =>
          obtain ⟨j, hjm, rfl, hKj⟩ := hrel
          have j0 : (0 : Int) ≤ (j : Int) := by omega
          have jm : (m : Int) ≤ 20 := by have := HM.out; have := HP.out; omega
          by_cases hlt : j < m
          · obtain ⟨x, hx9⟩ : ∃ x, ps[j]? = some x := ⟨_, List.getElem?_eq_getElem (by rw [← HM.out]; exact hlt)⟩
            have ho1 : Own wr.drew 76 2 (.slice Aa m ca) ps.length (ps.flatMap pairC) fa := by rw [← HM.out]; exact (HBB.out.2.1.keeps hKj (by simp)).drew
            have ho2 : Own wr.drew 76 2 (.slice Ab m cb) ps.length (ps.flatMap pairC) fb := by rw [← HM.out]; exact (HBB.out.1.keeps hKj (by simp)).drew
            obtain ⟨ga, ca', hAe, -, -, hra, -⟩ := ho1.range pairC 2 pairC_length hx9
            obtain ⟨gb, cb', hBe, -, -, hrb, -⟩ := ho2.range pairC 2 pairC_length hx9
            simp only [Value.slice.injEq] at hAe hBe
            obtain ⟨rfl, -, rfl⟩ := hAe
            obtain ⟨rfl, -, rfl⟩ := hBe
            have a0 : wr.drew.cell? ⟨ga, j * 2, none⟩ = some (.string (bstr x.1)) := hra 0 _ rfl
            have a1 : wr.drew.cell? ⟨ga, j * 2 + 1, none⟩ = some (.string (bstr x.2)) := hra 1 _ rfl
            have b0 : wr.drew.cell? ⟨gb, j * 2, none⟩ = some (.string (bstr x.1)) := hrb 0 _ rfl
            have b1' : wr.drew.cell? ⟨gb, j * 2 + 1, none⟩ = some (.string (bstr x.2)) := hrb 1 _ rfl
            have jl : (j : Int) < (m : Int) := by omega
            have HJ := Lib.hid (And.intro hKj hlt)
            clear ho1 ho2 hra hrb hKj hlt hx9
            go_wp2_with fail
            go_region_held_law (fun w' => w'.cell? ⟨ga, j * 2, none⟩ = some (.string (bstr x.1)) ∧ w'.cell? ⟨ga, j * 2 + 1, none⟩ = some (.string (bstr x.2)) ∧ w'.cell? ⟨gb, j * 2, none⟩ = some (.string (bstr x.1)) ∧ w'.cell? ⟨gb, j * 2 + 1, none⟩ = some (.string (bstr x.2))) (exact ⟨a0, a1, b0, b1'⟩) (fail)
            go_wp2_with fail
            all_goals
              go_roundw
              case rel => exact ⟨j + 1, by have := HJ.out.2; omega, by go_num, HJ.out.1.drew⟩
              case measure => have := HJ.out.2; simp [intOf]; omega
          · obtain rfl : j = m := by omega
            have HJ := Lib.hid hKj
            clear hKj hlt
            go_wp2_with fail
            go_ret
            exact ⟨rfl, (HBB.out.2.2.trans (fp1 := []) HJ.out (by simp)).below (Nat.le_refl _) (by simp)⟩

/-! ### the row (its frame is printed by gen.py; the walk is above) -/
theorem own : ownKnob Try.prog.godebug = none := by kernel_rfl
theorem laidOut : laidOutB Try.prog = true := by kernel_rfl
set_option maxRecDepth 100000 in
theorem lifted (os : Os) (started : os.Started) (H : Type) (enc : TypeId × Value → H) :
    ReturnsInHanded {} Try.checked os 14 .any (Rows.topPairsSpec.pre6 enc Try.prog Try.f14 Rows.topPairsRow.domain false) (Rows.topPairsSpec.post enc Try.prog Try.f14 false true false false) := by
  refine returnsInHanded_of_change (C := Try.checked) own started (by kernel_rfl) Try.func14
    (ChangeSpec.witness6 (enc := enc) (C := Try.checked) false ⟨#[], #[.slice none 0 0], []⟩ 8 (by kernel_rfl) (by kernel_rfl) (by kernel_rfl) (by kernel_rfl)) ?_
  intro W base args ds gs before hval0 hW hcnd _
  have hval : ∀ (j : Nat) t v, Try.f14.params[j]? = some t → args[j]? = some v → Value.okWide Try.prog W .any base t v := hval0
  have hW' := hW
  obtain ⟨p, q, hA0, hV, rfl, hfz, hnd⟩ := hW
  have hA : DataW.TrodAll enc Try.prog W 0 (fun _ => true) true Try.f14.params.toList args.toList ds p := hA0
  rw [Try.params14] at hA hval
  obtain ⟨v0, vs0, d0, ds0, p0, q0, hargs, rfl, rfl, h0, r0⟩ := trodAll_cons hA
  obtain ⟨rfl, rfl, rfl⟩ := trodAll_nil r0
  obtain rfl : args = #[v0] := by cases args; simp_all
  obtain ⟨rfl, rfl⟩ := trodVars_none hV
  have k0 := h0
  have lt0 : ∀ x ∈ p0, x.block < W.heap.size := by obtain ⟨m, hm⟩ := k0; exact DataW.trod_lt m _ _ _ hm
  obtain ⟨a0, len0, cap0, rfl⟩ := okWide_slice Try.underlying72 (hval 0 72 v0 rfl rfl)
  obtain ⟨fuel0, hf0⟩ := h0
  obtain ⟨x0, w0⟩ := TopPairs_open (by simpa [Value.cells] using hf0)
  clear hA0 hval0
  refine (walk a0 len0 cap0 x0 W w0).mono fun e W' ⟨he, bel⟩ => ?_
  subst he
  exact ⟨_, rfl, _, _, _, [], _, [], hW', trodAll_mk1 (shut_bool Try.underlying4 _), (trodAll_cons_mk (Below.trod laidOut (by kernel_rfl) (of_decide_eq_true (by kernel_rfl)) k0 bel lt0) trodAll_mk0), rfl, bel.frame _, fun h => by cases h⟩

theorem over : Rows.topPairsRow.holds Try.pinned (OpenSpec.ofChange Rows.topPairsSpec) :=
  OpenClaim.holds_of_wide 14 Try.f14 rfl rfl rfl rfl rfl rfl rfl ⟨rfl, rfl, rfl, rfl, rfl⟩ rfl rfl rfl rfl rfl (by kernel_rfl) Try.func14 (by kernel_rfl)
    (of_decide_eq_true (by kernel_rfl)) (by unfold Func.isWrapper; first | (rw [if_pos (by decide +kernel)]; kernel_rfl) | (rw [if_neg (by decide +kernel)]; exact ⟨rfl, rfl⟩))
    (fun os started H enc _ => lifted os started H enc)

theorem proved : Rows.TopPairsSaid := over
#print axioms proved
end Go.Proofs.Ytecjhaohabjkbaa.vTopPairs
