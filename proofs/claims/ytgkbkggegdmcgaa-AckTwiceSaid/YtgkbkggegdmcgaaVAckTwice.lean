/-
  For every list of deeds and every count, a count that is heard again changes nothing more: heliographlaw10.AckTwice answers true, and both arguments read as before. No condition.
-/
import Derived.Test.YtgkbkggegdmcgaaRows
import Derived.ProofKit
import Derived.OpenShut
import Derived.ShutString
import Derived.ChangeOld
import Derived.Carry
import Derived.Test.YtgkbkggegdmcgaaOpen
namespace Go.Proofs.Ytgkbkggegdmcgaa.vAckTwice
open Go.ChangeShapes Go.WideShapes Go.ChangeAt Go.RowKit
open Go.ChangeMaps (open_string shut_string)
set_option linter.unusedVariables false

set_option maxHeartbeats 1600000 in
theorem walk (A : Option Addr) (n c : Nat) (ds : List DeedV) (h : Int) (w : World) (hd : Deeds w A n ds) (hw : (Lit.int .u32 h).wf = true) :
    Calls Try.prog 5 #[.slice A n c, .int .u32 h] w fun e w' => e = .returned (.bool true) ∧ Below w.heap.size w w' := by
  go_enter Try.func5, Try.ntmps5
  go_wp2_with fail
  refine (play_calls A n c ds w hd).mono ?_
  rintro e w1 ⟨bq, br, rfl, acked, got, ss, fq, fr, ⟨hq, -, -, hf⟩, hK, hN⟩
  have hN' : ∀ k ∈ fq, w.heap.size ≤ k := fun k hk => hN k (by simp [hk])
  obtain ⟨S, hS⟩ : ∃ S, S = (acked + ss.length) % 4294967296 := ⟨_, rfl⟩
  rw [← hS] at hq
  have H := Lib.hid (And.intro hK hN'); clear hK hN hN' hS
  have Hf := Lib.hid hf; clear hf
  go_wp2_with fail
  refine (live_calls w1).mono ?_
  rintro e w2 ⟨rfl, hk2⟩
  have hq2 := hq.keeps hk2 (by simp)
  have H2 := Lib.hid (H.out.1.trans hk2 (by simp)); clear hk2 hq
  obtain ⟨L, hL, hLlt⟩ : ∃ L : Nat, (S - h) % 4294967296 = (L : Int) ∧ L < 4294967296 := ⟨((S - h) % 4294967296).toNat, by omega, by omega⟩
  by_cases hle : L ≤ ss.length
  · have hR := resume_ok bq S got ss fq h L w2 hq2 hL hle Hf.out
    have HL := Lib.hid (And.intro hL hle); clear hL hle hLlt
    have HR := Lib.hid hR; clear hR
    go_wp2_with fail
    refine HR.out.mono ?_
    rintro e w3 ⟨fq3, v3, fo3, rfl, hq3, ho3, hd3, hk3, hn3⟩
    obtain ⟨ss', hss⟩ : ∃ x, x = ss.drop (ss.length - L) := ⟨_, rfl⟩
    have hlen : ss'.length = L := by rw [hss, List.length_drop]; have := HL.out.2; omega
    rw [← hss] at hq3 ho3
    have hl16 : ss'.length ≤ 16 := by have := HL.out.2; have := Hf.out; omega
    have hK3 : Keeps w w3 [] := H2.out.trans hk3 (fun i hi hm => by have := H.out.2 i hm; omega)
    have hN3 : ∀ k ∈ fq3, w.heap.size ≤ k := fun k hk => by rcases hn3 k hk with h1 | h1; · exact H.out.2 k h1
                                                            · have := H2.out.size; omega
    have hR2 := resume_ok bq S got ss' fq3 h ss'.length w3 hq3 (by rw [hlen]; exact HL.out.1) (Nat.le_refl _) hl16
    rw [Nat.sub_self] at hR2
    rw [hlen] at ho3
    obtain ⟨A3, c3, rfl, -, fr3, hr3, hfr3⟩ := ho3.form
    have H3 := Lib.hid (And.intro hK3 (And.intro hN3 (And.intro hR2 (And.intro hr3 (fun k hm => hd3 k (hfr3 k hm))))))
    have Hl := Lib.hid (And.intro hlen hl16)
    clear hR2 hK3 hN3 hk3 hn3 hd3 hfr3 ho3 hss hlen hl16 hr3
    go_wp2_with fail
    refine H3.out.2.2.1.mono ?_
    rintro e w4 ⟨fq4, v4, fo4, rfl, hq4, ho4, hd4, hk4, hn4⟩
    rw [List.drop_zero] at hq4 ho4
    have hK4 : Keeps w w4 [] := H3.out.1.trans hk4 (fun i hi hm => by have := H3.out.2.1 i hm; omega)
    have hN4 : ∀ k ∈ fq4, w.heap.size ≤ k := fun k hk => by rcases hn4 k hk with h1 | h1; · exact H3.out.2.1 k h1
                                                            · have := H3.out.1.size; omega
    have hA := ack_ok bq S got ss' fq4 h L w4 hq4 HL.out.1 (by have := Hl.out.1; omega) Hl.out.2
    rw [show ss'.length - L = 0 by have := Hl.out.1; omega] at hA
    rw [Hl.out.1] at ho4
    obtain ⟨A4, c4, rfl, -, fr4, hr4, hfr4⟩ := ho4.form
    have hr3' : Reads w4 1 A3 L (strs ss') fr3 := H3.out.2.2.2.1.keeps hk4 (fun k hm => (H3.out.2.2.2.2 k hm).2)
    have H4 := Lib.hid (And.intro hK4 (And.intro hN4 (And.intro hA (And.intro hr4 (And.intro (fun k hm => hd4 k (hfr4 k hm)) hr3')))))
    have Hd3 := Lib.hid (fun k hm => (H3.out.2.2.2.2 k hm).2)
    have hlt3 : ∀ k ∈ fr3, k < w3.heap.size := H3.out.2.2.2.1.lt
    have Hd4 : Hid (∀ k ∈ fr3, k ∉ fq4) := fun k hm hf => by
      rcases hn4 k hf with h1 | h1
      · exact (H3.out.2.2.2.2 k hm).2 h1
      · have := hlt3 k hm; omega
    clear hA hK4 hN4 hk4 hn4 hd4 hfr4 ho4 hr4 hr3' hlt3
    go_wp2_with fail
    refine H4.out.2.2.1.mono ?_
    rintro e w5 ⟨fq5, A5, c5, fo5, rfl, hq5, hr5, hd5, hk5, hn5⟩
    rw [List.drop_zero] at hq5
    have hK5 : Keeps w w5 [] := H4.out.1.trans hk5 (fun i hi hm => by have := H4.out.2.1 i hm; omega)
    have hrA : Reads w5 1 A3 L (strs ss') fr3 := H4.out.2.2.2.2.2.keeps hk5 Hd4.out
    have hrB : Reads w5 1 A4 L (strs ss') fr4 := H4.out.2.2.2.1.keeps hk5 (fun k hm => (H4.out.2.2.2.2.1 k hm).2)
    have hL16 : L ≤ 1000000 := by have := Hl.out; omega
    have H5 := Lib.hid (And.intro hK5 (And.intro hrA hrB))
    clear hK5 hrA hrB hk5 hn5 hd5 hr5
    go_wp2_with fail
    refine (same_calls A3 A4 L L c3 c4 ss' ss' fr3 fr4 w5 H5.out.2.1 H5.out.2.2 hL16 hL16).mono ?_
    rintro e w6 ⟨rfl, q6, rfl⟩
    go_wp2_with fail
    refine (waiting_calls bq S got ss' fq5 _ (hq5.keeps ((Keeps.refl w5 []).drewN q6) (by simp)) Hl.out.2).mono ?_
    rintro e w7 ⟨v7, fv7, rfl, ho7, hk7, hf7⟩
    rw [Hl.out.1] at ho7
    obtain ⟨A7, c7, rfl, -, fr7, hr7, -⟩ := ho7.form
    have hrA7 : Reads w7 1 A3 L (strs ss') fr3 := (H5.out.2.1.drewN q6).keeps hk7 (by simp)
    have H7 := Lib.hid (And.intro (((H5.out.1.drewN q6).trans hk7 (by simp))) (And.intro hr7 hrA7)); clear hk7 hf7 ho7 hr7 hrA7
    go_wp2_with fail
    refine (same_calls A7 A3 L L c7 c3 ss' ss' fr7 fr3 w7 H7.out.2.1 H7.out.2.2 hL16 hL16).mono ?_
    rintro e w8 ⟨rfl, q8, rfl⟩
    go_wp2_with fail
    go_ret
    exact ⟨by simp, (H7.out.1.drewN q8).below (Nat.le_refl _) (by simp)⟩
  · have hR := resume_range bq S got ss fq h L w2 hq2 hL (by omega) hLlt
    have hA := ack_range bq S got ss fq h L w2 hq2 hL (by omega) hLlt
    have HR := Lib.hid (And.intro hR hA); clear hR hA hL hle hLlt
    go_wp2_with fail
    refine HR.out.1.mono ?_
    rintro e w3 ⟨rfl, rfl⟩
    go_wp2_with fail
    refine HR.out.1.mono ?_
    rintro e w3 ⟨rfl, rfl⟩
    go_wp2_with fail
    refine HR.out.2.mono ?_
    rintro e w3 ⟨rfl, rfl⟩
    go_wp2_with fail
    go_ret
    exact ⟨by simp, H2.out.below (Nat.le_refl _) (by simp)⟩

/-! ### the row (its frame is printed by gen.py; the walk is above) -/
theorem own : ownKnob Try.prog.godebug = none := by kernel_rfl
theorem laidOut : laidOutB Try.prog = true := by kernel_rfl
set_option maxRecDepth 100000 in
theorem lifted (os : Os) (started : os.Started) (H : Type) (enc : TypeId × Value → H) :
    ReturnsInHanded {} Try.checked os 5 .any (Rows.ackTwiceSpec.pre6 enc Try.prog Try.f5 Rows.ackTwiceRow.domain false) (Rows.ackTwiceSpec.post enc Try.prog Try.f5 false true false false) := by
  refine returnsInHanded_of_change (C := Try.checked) own started (by kernel_rfl) Try.func5
    (ChangeSpec.witness6 (enc := enc) (C := Try.checked) false ⟨#[], #[.slice none 0 0, .int .u32 0], []⟩ 8 (by kernel_rfl) (by kernel_rfl) (by kernel_rfl) (by kernel_rfl)) ?_
  intro W base args ds gs before hval0 hW hcnd _
  have hval : ∀ (j : Nat) t v, Try.f5.params[j]? = some t → args[j]? = some v → Value.okWide Try.prog W .any base t v := hval0
  have hW' := hW
  obtain ⟨p, q, hA0, hV, rfl, hfz, hnd⟩ := hW
  have hA : DataW.TrodAll enc Try.prog W 0 (fun _ => true) true Try.f5.params.toList args.toList ds p := hA0
  rw [Try.params5] at hA hval
  obtain ⟨v0, vs0, d0, ds0, p0, q0, hargs, rfl, rfl, h0, r0⟩ := trodAll_cons hA
  obtain ⟨v1, vs1, d1, ds1, p1, q1, rfl, rfl, rfl, h1, r1⟩ := trodAll_cons r0
  obtain ⟨rfl, rfl, rfl⟩ := trodAll_nil r1
  obtain rfl : args = #[v0, v1] := by cases args; simp_all
  obtain ⟨rfl, rfl⟩ := trodVars_none hV
  have k0 := h0
  have lt0 : ∀ x ∈ p0, x.block < W.heap.size := by obtain ⟨m, hm⟩ := k0; exact DataW.trod_lt m _ _ _ hm
  obtain ⟨a0, len0, cap0, rfl⟩ := okWide_slice Try.underlying36 (hval 0 36 v0 rfl rfl)
  obtain ⟨fuel0, hf0⟩ := h0
  obtain ⟨x0, w0⟩ := open_deeds (by simpa [Value.cells] using hf0)
  have k1 := h1
  have lt1 : ∀ x ∈ p1, x.block < W.heap.size := by obtain ⟨m, hm⟩ := k1; exact DataW.trod_lt m _ _ _ hm
  obtain ⟨x1, rfl, rfl, rfl, w1⟩ := open_int Try.underlying26 (hval 1 26 v1 rfl rfl) h1
  clear hA0 hval0
  refine (walk a0 len0 cap0 x0 x1 W w0 w1).mono fun e W' ⟨he, bel⟩ => ?_
  subst he
  exact ⟨_, rfl, _, _, _, [], _, [], hW', trodAll_mk1 (shut_bool Try.underlying4 _), (trodAll_cons_mk (Below.trod laidOut (by kernel_rfl) (of_decide_eq_true (by kernel_rfl)) k0 bel lt0) (trodAll_cons_mk (Below.trod laidOut (by kernel_rfl) (of_decide_eq_true (by kernel_rfl)) k1 bel lt1) trodAll_mk0)), rfl, bel.frame _, fun h => by cases h⟩

theorem over : Rows.ackTwiceRow.holds Try.pinned (OpenSpec.ofChange Rows.ackTwiceSpec) :=
  OpenClaim.holds_of_wide 5 Try.f5 rfl rfl rfl rfl rfl rfl rfl ⟨rfl, rfl, rfl, rfl, rfl⟩ rfl rfl rfl rfl rfl (by kernel_rfl) Try.func5 (by kernel_rfl)
    (of_decide_eq_true (by kernel_rfl)) (by unfold Func.isWrapper; first | (rw [if_pos (by decide +kernel)]; kernel_rfl) | (rw [if_neg (by decide +kernel)]; exact ⟨rfl, rfl⟩))
    (fun os started H enc _ => lifted os started H enc)

theorem proved : Rows.AckTwiceSaid := over
#print axioms proved
end Go.Proofs.Ytgkbkggegdmcgaa.vAckTwice
