/-
  For every deeds and more of them on a Fork, what becomes of the Fork changes nothing: heliographlaw07.DevForks answers true, and both lists read as before. No condition.
-/
import Derived.Test.YtopeipaeefohlaaRows
import Derived.ProofKit
import Derived.OpenShut
import Derived.ShutString
import Derived.ChangeOld
import Derived.Carry
import Derived.Test.YtopeipaeefohlaaD15
namespace Go.Proofs.Ytopeipaeefohlaa.vDevForks
open Go.ChangeShapes Go.WideShapes Go.ChangeAt Go.RowKit
open Go.ChangeMaps (open_string shut_string)
set_option linter.unusedVariables false

set_option maxHeartbeats 2000000 in
theorem walk (A : Option Addr) (n c : Nat) (ds : List DeedD) (B : Option Addr) (m c2 : Nat) (es : List DeedD) (w : World) (hd : DDeeds w A n ds) (he : DDeeds w B m es) :
    Calls Try.prog 8 #[.slice A n c, .slice B m c2] w fun e w' => e = .returned (.bool true) ∧ Below w.heap.size w w' := by
  have H0 := Lib.hid (play_calls 5 (by omega) A n c ds w hd)
  have HE := Lib.hid he
  clear hd he
  go_enter Try.func8, Try.ntmps8
  go_wp2_with fail
  refine H0.out.mono ?_
  rintro e w1 ⟨bd, br, rfl, hF⟩
  have H1 := Lib.hid hF; clear hF H0
  go_wp2_with fail
  refine (dlive_calls w1).mono ?_
  rintro e w2 ⟨rfl, hk2⟩
  obtain ⟨l, loose, fd, fr, hB, hl6, hm, hK, hN⟩ := H1.out.nil hk2
  have H2 := Lib.hid (And.intro hB (And.intro hK (And.intro hm hl6))); clear hB hK hk2 hN H1 hl6 hm
  go_wp2_with fail
  refine (fork_ok bd l _ loose fd w2 H2.out.1.d H2.out.1.small (by rw [land_length]; exact H2.out.1.small) (by have := H2.out.2.2.1; omega)).mono ?_
  rintro e w3 ⟨bf, ff, rfl, hf3, hk3, hn3⟩
  have H3 := Lib.hid (And.intro hf3 (And.intro hk3 hn3)); clear hf3 hk3 hn3
  go_wp2_with fail
  refine (rfork_ok br l loose fr w3 (H2.out.1.r.nil H3.out.2.1) H2.out.1.small (by have := H2.out.2.2.1; omega)).mono ?_
  rintro e w4 ⟨bg, fg, rfl, hg4, hk4, hn4⟩
  have hF : DFresh w2 bf bg l.length 60 w4 := by
    obtain ⟨hf3, hk3, hn3⟩ := H3.out
    refine ⟨l, loose, ff, fg, ⟨hf3.nil hk4, hg4, H2.out.1.wi, H2.out.1.small, fun k h1 h2 => ?_⟩, rfl, H2.out.2.2.1, hk3.trans hk4 (by simp), fun k hm => ?_⟩
    · have := hf3.lt k h1; have := hn4 k h2; omega
    · have := hk3.size
      rcases List.mem_append.1 hm with h | h
      · exact hn3 k h
      · have := hn4 k h; omega
  have H4 := Lib.hid hF; clear hF hg4 hk4 hn4 H3
  go_wp2_with fail
  go_loopw [10] (fun i wr => ∃ k : Nat, k ≤ m ∧ k ≤ 20 ∧ i = .int .i64 k ∧ DFresh w2 bf bg l.length (60 + k) wr) (fun i _ => m - (intOf i).toNat)
  case atStart => exact ⟨0, by omega, by omega, rfl, H4.out⟩
  case round =>
    obtain ⟨k, hk, hk20, rfl, hF⟩ := hrel
    have HF := Lib.hid hF; clear hF
    have hend : k ≤ 20 := hk20
    have HEND := Lib.hid hend
    clear hend
    by_cases hgo : k < m ∧ (k : Int) < 20
    · obtain ⟨hlt, h20⟩ := hgo
      obtain ⟨l', loose', fd', fr', hB, hl, hm, hK, hN⟩ := HF.out
      obtain ⟨b, o, d, rfl, hb, ⟨hsl, fS, hS0⟩, a0, a1, a2, a3⟩ := HE.out.at_ hlt
      have hKw : Keeps w wr [] := H2.out.2.1.trans hK (by simp)
      have hS := hS0.keeps hKw (by simp)
      have hSl := hS0.lt
      have c0 := (hKw.cell hb (by simp)).trans a0
      have c1 := (hKw.cell (p := ⟨b, o + k * 4 + 1, none⟩) hb (by simp)).trans a1
      have c2 := (hKw.cell (p := ⟨b, o + k * 4 + 2, none⟩) hb (by simp)).trans a2
      have c3 := (hKw.cell (p := ⟨b, o + k * 4 + 3, none⟩) hb (by simp)).trans a3
      have g1 : (0 : Int) ≤ (k : Int) := by omega
      have g2 : (k : Int) < (m : Int) := by omega
      have HC := Lib.hid (do_calls bf bg l' loose' fd' fr' d fS wr hB hS hsl (fun i h1 h2 => by have := hSl i h1; have := hN i h2; have := H2.out.2.1.size; omega) (by omega))
      have HB := Lib.hid (And.intro hB (And.intro hl (And.intro hm (And.intro hK hN)))); clear hB hl hm hK hN hS hS0 hSl a0 a1 a2 a3 hsl hKw hk20
      go_wp2_with fail
      refine HC.out.mono ?_
      intro e w5 hpost
      obtain ⟨rfl, hF5⟩ := DFresh.step HB.out.2.1 HB.out.2.2.1 HB.out.2.2.2.1 HB.out.2.2.2.2 hpost
      have H5 := Lib.hid hF5; clear hF5 hpost HC
      go_wp2_with fail
      go_roundw
      case rel => exact ⟨k + 1, by omega, by omega, by go_num, H5.out⟩
      case measure => simp [intOf]; omega
    · obtain ⟨l', loose', fd', fr', hB, hl, hm, hK, hN⟩ := HF.out
      have hB0 : DBoth wr bd br l loose fd fr := H2.out.1.nil hK
      have HZ := Lib.hid (And.intro hB (And.intro hB0 (And.intro hK (And.intro hm H2.out.2.2.1))))
      clear hB hB0 hK hm hN hl
      by_cases hlt : k < m
      · have hc20 : ((k : Int) < 20) = False := by simp; omega
        clear hgo hk20 hk
        go_wp2_with fail
        refine (same_calls bd br l loose fd fr wr HZ.out.2.1 (by have := HZ.out.2.2.2.2; omega)).mono ?_
        rintro e w6 ⟨rfl, hk6⟩
        have H6 := Lib.hid hk6; clear hk6
        go_wp2_with fail
        refine (same_calls bf bg l' loose' fd' fr' w6 (HZ.out.1.nil H6.out) (by have := HZ.out.2.2.2.1; have := HEND.out; omega)).mono ?_
        rintro e w7 ⟨rfl, hk7⟩
        have H7 := Lib.hid (((H2.out.2.1.trans HZ.out.2.2.1 (by simp)).trans H6.out (by simp)).trans hk7 (by simp)); clear hk7
        go_wp2_with fail
        go_ret
        exact ⟨rfl, H7.out.below (Nat.le_refl _) (by simp)⟩
      · clear hgo hk20 hk
        go_wp2_with fail
        refine (same_calls bd br l loose fd fr wr HZ.out.2.1 (by have := HZ.out.2.2.2.2; omega)).mono ?_
        rintro e w6 ⟨rfl, hk6⟩
        have H6 := Lib.hid hk6; clear hk6
        go_wp2_with fail
        refine (same_calls bf bg l' loose' fd' fr' w6 (HZ.out.1.nil H6.out) (by have := HZ.out.2.2.2.1; have := HEND.out; omega)).mono ?_
        rintro e w7 ⟨rfl, hk7⟩
        have H7 := Lib.hid (((H2.out.2.1.trans HZ.out.2.2.1 (by simp)).trans H6.out (by simp)).trans hk7 (by simp)); clear hk7
        go_wp2_with fail
        go_ret
        exact ⟨rfl, H7.out.below (Nat.le_refl _) (by simp)⟩

/-! ### the row (its frame is printed by gen.py; the walk is above) -/
theorem own : ownKnob Try.prog.godebug = none := by kernel_rfl
theorem laidOut : laidOutB Try.prog = true := by kernel_rfl
set_option maxRecDepth 100000 in
theorem lifted (os : Os) (started : os.Started) (H : Type) (enc : TypeId × Value → H) :
    ReturnsInHanded {} Try.checked os 8 .any (Rows.devForksSpec.pre6 enc Try.prog Try.f8 Rows.devForksRow.domain false) (Rows.devForksSpec.post enc Try.prog Try.f8 false true false false) := by
  refine returnsInHanded_of_change (C := Try.checked) own started (by kernel_rfl) Try.func8
    (ChangeSpec.witness6 (enc := enc) (C := Try.checked) false ⟨#[], #[.slice none 0 0, .slice none 0 0], []⟩ 8 (by kernel_rfl) (by kernel_rfl) (by kernel_rfl) (by kernel_rfl)) ?_
  intro W base args ds gs before hval0 hW hcnd _
  have hval : ∀ (j : Nat) t v, Try.f8.params[j]? = some t → args[j]? = some v → Value.okWide Try.prog W .any base t v := hval0
  have hW' := hW
  obtain ⟨p, q, hA0, hV, rfl, hfz, hnd⟩ := hW
  have hA : DataW.TrodAll enc Try.prog W 0 (fun _ => true) true Try.f8.params.toList args.toList ds p := hA0
  rw [Try.params8] at hA hval
  obtain ⟨v0, vs0, d0, ds0, p0, q0, hargs, rfl, rfl, h0, r0⟩ := trodAll_cons hA
  obtain ⟨v1, vs1, d1, ds1, p1, q1, rfl, rfl, rfl, h1, r1⟩ := trodAll_cons r0
  obtain ⟨rfl, rfl, rfl⟩ := trodAll_nil r1
  obtain rfl : args = #[v0, v1] := by cases args; simp_all
  obtain ⟨rfl, rfl⟩ := trodVars_none hV
  have k0 := h0
  have lt0 : ∀ x ∈ p0, x.block < W.heap.size := by obtain ⟨m, hm⟩ := k0; exact DataW.trod_lt m _ _ _ hm
  obtain ⟨a0, len0, cap0, rfl⟩ := okWide_slice Try.underlying36 (hval 0 36 v0 rfl rfl)
  obtain ⟨fuel0, hf0⟩ := h0
  obtain ⟨x0, w0⟩ := open_ddeeds (by simpa [Value.cells] using hf0)
  have k1 := h1
  have lt1 : ∀ x ∈ p1, x.block < W.heap.size := by obtain ⟨m, hm⟩ := k1; exact DataW.trod_lt m _ _ _ hm
  obtain ⟨a1, len1, cap1, rfl⟩ := okWide_slice Try.underlying36 (hval 1 36 v1 rfl rfl)
  obtain ⟨fuel1, hf1⟩ := h1
  obtain ⟨x1, w1⟩ := open_ddeeds (by simpa [Value.cells] using hf1)
  clear hA0 hval0
  refine (walk a0 len0 cap0 x0 a1 len1 cap1 x1 W w0 w1).mono fun e W' ⟨he, bel⟩ => ?_
  subst he
  exact ⟨_, rfl, _, _, _, [], _, [], hW', trodAll_mk1 (shut_bool Try.underlying4 _), (trodAll_cons_mk (Below.trod laidOut (by kernel_rfl) (of_decide_eq_true (by kernel_rfl)) k0 bel lt0) (trodAll_cons_mk (Below.trod laidOut (by kernel_rfl) (of_decide_eq_true (by kernel_rfl)) k1 bel lt1) trodAll_mk0)), rfl, bel.frame _, fun h => by cases h⟩

theorem over : Rows.devForksRow.holds Try.pinned (OpenSpec.ofChange Rows.devForksSpec) :=
  OpenClaim.holds_of_wide 8 Try.f8 rfl rfl rfl rfl rfl rfl rfl ⟨rfl, rfl, rfl, rfl, rfl⟩ rfl rfl rfl rfl rfl (by kernel_rfl) Try.func8 (by kernel_rfl)
    (of_decide_eq_true (by kernel_rfl)) (by unfold Func.isWrapper; first | (rw [if_pos (by decide +kernel)]; kernel_rfl) | (rw [if_neg (by decide +kernel)]; exact ⟨rfl, rfl⟩))
    (fun os started H enc _ => lifted os started H enc)

theorem proved : Rows.DevForksSaid := over
#print axioms proved
end Go.Proofs.Ytopeipaeefohlaa.vDevForks
