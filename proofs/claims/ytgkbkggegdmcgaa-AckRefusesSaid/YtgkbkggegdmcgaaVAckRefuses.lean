/-
  For every list of deeds and every count, a count above what was sent or below what was acknowledged is refused and changes nothing: heliographlaw10.AckRefuses answers true, and both arguments read as before. No condition.
-/
import Derived.Test.YtgkbkggegdmcgaaRows
import Derived.ProofKit
import Derived.OpenShut
import Derived.ShutString
import Derived.ChangeOld
import Derived.Carry
import Derived.Test.YtgkbkggegdmcgaaOpen
namespace Go.Proofs.Ytgkbkggegdmcgaa.vAckRefuses
open Go.ChangeShapes Go.WideShapes Go.ChangeAt Go.RowKit
open Go.ChangeMaps (open_string shut_string)
set_option linter.unusedVariables false

theorem nums (S h : Int) (m : Nat) (hm : m ≤ 16) :
    (∃ k r : Nat, m = k + r ∧ (S - h) % 4294967296 = (r : Int) ∧ (h - (S - m) % 4294967296) % 4294967296 = (k : Int)) ∨
    (∃ L : Nat, (S - h) % 4294967296 = (L : Int) ∧ L < 4294967296 ∧ m < L ∧ (m : Int) < (h - (S - m) % 4294967296) % 4294967296) := by
  by_cases hle : ((S - h) % 4294967296).toNat ≤ m
  · exact .inl ⟨m - ((S - h) % 4294967296).toNat, ((S - h) % 4294967296).toNat, by omega, by omega, by omega⟩
  · exact .inr ⟨((S - h) % 4294967296).toNat, by omega, by omega, by omega, by omega⟩

set_option maxHeartbeats 1600000 in
theorem walk (A : Option Addr) (n c : Nat) (ds : List DeedV) (h : Int) (w : World) (hd : Deeds w A n ds) (hw : (Lit.int .u32 h).wf = true) :
    Calls Try.prog 8 #[.slice A n c, .int .u32 h] w fun e w' => e = .returned (.bool true) ∧ Below w.heap.size w w' := by
  go_enter Try.func8, Try.ntmps8
  go_wp2_with fail
  refine (play_calls A n c ds w hd).mono ?_
  rintro e w1 ⟨bq, br, rfl, acked, got, ss, fq, fr, hB, hK, hN⟩
  have H := Lib.hid (And.intro hK hN); clear hK hN
  go_wp2_with fail
  refine (live_calls w1).mono ?_
  rintro e w2 ⟨rfl, hk2⟩
  have hB2 := hB.nil hk2
  have H2 := Lib.hid (H.out.1.trans hk2 (by simp)); clear hk2 hB
  go_wp2_with fail
  refine (waiting_calls bq _ got ss fq w2 hB2.q hB2.few).mono ?_
  rintro e w3 ⟨v3, f3, rfl, ho3, hk3, -⟩
  obtain ⟨A3, c3, rfl, -⟩ := ho3.form
  have hB3 := hB2.nil hk3
  have H3 := Lib.hid (H2.out.trans hk3 (by simp)); clear hk3 hB2 ho3
  have h16 : (ss.length : Int) ≤ 16 := by have := hB3.few; omega
  obtain ⟨S, hS⟩ : ∃ S, S = (acked + ss.length) % 4294967296 := ⟨_, rfl⟩
  have hq3 := hB3.q
  rw [← hS] at hq3
  have HS := Lib.hid hS; clear hS
  go_wp2_with fail
  refine (sent_calls bq S got ss fq w3 hq3).mono ?_
  rintro e w4 ⟨rfl, rfl⟩
  go_wp2_with fail
  refine (fork_calls bq S got ss fq w3 hq3 hB3.few).mono ?_
  rintro e w4 ⟨gq, hq, rfl, hf4, hk4, hn4⟩
  have hB4 := hB3.nil hk4
  have hq4 := hq3.keeps hk4 (by simp)
  have hap : ∀ k ∈ hq, k ∉ fq ∧ k ∉ fr := fun k hm => by
    have h1 := hn4 k hm
    exact ⟨fun h2 => by have := hB3.q.lt k h2; omega, fun h2 => by have := hB3.r.lt k h2; omega⟩
  have hnew : ∀ k ∈ hq, w.heap.size ≤ k := fun k hm => by have := hn4 k hm; have := H3.out.size; omega
  have H4 := Lib.hid (And.intro (H3.out.trans hk4 (by simp)) (And.intro hap hnew)); clear hk4 hn4 hap hnew hB3 hq3
  rcases nums S h ss.length hB4.few with ⟨k, r, hm, hL, hc⟩ | ⟨L, hL, hLlt, hgt, hc⟩
  · have hA := ack_ok bq S got ss fq h r w4 hq4 hL (by omega) hB4.few
    have hkr : k + r ≤ 16 := by have := hB4.few; omega
    rw [show ss.length - r = k by omega] at hA
    have HA := Lib.hid (And.intro hA (And.intro hL (And.intro hm hB4.few))); clear hA hL hm
    have Hc := Lib.hid hc; clear hc
    go_wp2_with fail
    refine HA.out.1.mono ?_
    rintro e w5 ⟨fq5, A5, c5, fo5, rfl, hq5, hr5, hd5, hk5, hn5⟩
    have hf5 := hf4.keeps hk5 (fun k h1 => (H4.out.2.1 k h1).1)
    have hR := resume_ok gq S got ss hq h r w5 hf5 HA.out.2.1 (by have := HA.out.2.2.1; omega) HA.out.2.2.2
    rw [show ss.length - r = k by have := HA.out.2.2.1; omega] at hR
    have HR := Lib.hid (And.intro hR (And.intro hd5 (And.intro hk5 hn5))); clear hR hd5 hk5 hn5
    go_wp2_with fail
    refine HR.out.1.mono ?_
    rintro e w6 ⟨hq6, v6, fo6, rfl, hf6, ho6, hd6, hk6, hn6⟩
    have hlr : (ss.drop k).length = r := by rw [List.length_drop]; have := HA.out.2.2.1; omega
    rw [hlr] at ho6
    obtain ⟨A6, c6, rfl, -, fr6, hr6, hfr6⟩ := ho6.form
    have hd6' : ∀ j ∈ fr6, w5.heap.size ≤ j ∧ j ∉ hq6 := fun j hj => hd6 j (hfr6 j hj)
    have hq6k := hq5.keeps hk6 (fun j hj hm => by
      have h1 := H4.out.2.1 j hm
      rcases HR.out.2.2.2 j hj with h2 | h2
      · exact h1.1 h2
      · have := hf4.lt j hm; omega)
    have H6 := Lib.hid (And.intro hd6' (And.intro hk6 (And.intro hn6 (And.intro hlr (And.intro hf6 (And.intro hq6k hr6)))))); clear hd6 hd6' hk6 hn6 hfr6 ho6 hlr hf6 hq6k hr6 hq5 hr5 hf5
    have hc := Hc.out
    have hm := HA.out.2.2.1
    have hb : ((r : Int) == (ss.length : Int) - (k : Int)) = true := by simp; omega
    have hkm : (k : Int) ≤ (ss.length : Int) := by omega
    clear hm
    go_wp2_with fail
    clear hc hb hkm
    refine (waiting_calls gq S got _ hq6 w6 H6.out.2.2.2.2.1 (by rw [H6.out.2.2.2.1]; omega)).mono ?_
    rintro e w7 ⟨v7, f7, rfl, ho7, hk7, -⟩
    rw [H6.out.2.2.2.1] at ho7
    obtain ⟨A7, c7, rfl, -, fr7, hr7, -⟩ := ho7.form
    have H7 := Lib.hid (And.intro hr7 (And.intro (H6.out.2.2.2.2.2.2.keeps hk7 (by simp)) (And.intro hk7 (H6.out.2.2.2.2.2.1.keeps hk7 (by simp))))); clear hr7 hk7 ho7
    go_wp2_with fail
    refine (same_calls A6 A7 r r c6 c7 (ss.drop k) (ss.drop k) fr6 fr7 w7 H7.out.2.1 H7.out.1 (by omega) (by omega)).mono ?_
    rintro e w8 ⟨rfl, q8, rfl⟩
    go_wp2_with fail
    refine (waiting_calls bq S got _ fq5 _ (H7.out.2.2.2.keeps ((Keeps.refl w7 []).drewN q8) (by simp)) (by rw [H6.out.2.2.2.1]; omega)).mono ?_
    rintro e w9 ⟨v9, f9, rfl, ho9, hk9, -⟩
    rw [H6.out.2.2.2.1] at ho9
    obtain ⟨A9, c9, rfl, -, fr9, hr9, -⟩ := ho9.form
    have H9 := Lib.hid (And.intro hr9 (And.intro ((H7.out.2.1.drewN q8).keeps hk9 (by simp)) hk9)); clear hr9 hk9 ho9
    go_wp2_with fail
    refine (same_calls A9 A6 r r c9 c6 (ss.drop k) (ss.drop k) fr9 fr6 w9 H9.out.1 H9.out.2.1 (by omega) (by omega)).mono ?_
    rintro e w10 ⟨rfl, q10, rfl⟩
    go_wp2_with fail
    go_ret
    refine ⟨by simp, Keeps.below (fp := []) ?_ (Nat.le_refl _) (by simp)⟩
    have k5 : Keeps w w5 [] := H4.out.1.trans HR.out.2.2.1 (fun i hi hm => by have := H.out.2 i (by simp [hm]); omega)
    have k6 : Keeps w w6 [] := k5.trans H6.out.2.1 (fun i hi hm => by have := H4.out.2.2 i hm; omega)
    exact ((((k6.trans H7.out.2.2.1 (by simp)).drewN q8).trans H9.out.2.2 (by simp))).drewN q10
  · have hA := ack_range bq S got ss fq h L w4 hq4 hL hgt hLlt
    have hR := resume_range gq S got ss hq h L w4 hf4 hL hgt hLlt
    have hBf : Both w4 gq br acked got ss hq fr := ⟨by have := HS.out; rw [← this]; exact hf4, hB4.r, fun k h1 => (H4.out.2.1 k h1).2, hB4.few⟩
    have HA := Lib.hid (And.intro hA (And.intro hR hBf)); clear hA hR hL hgt hLlt hBf
    go_wp2_with fail
    refine HA.out.1.mono ?_
    rintro e w5 ⟨rfl, rfl⟩
    go_wp2_with fail
    refine HA.out.2.1.mono ?_
    rintro e w5 ⟨rfl, rfl⟩
    go_wp2_with fail
    refine (same2_calls bq br acked got ss fq fr w4 hB4).mono ?_
    rintro e w6 ⟨rfl, hk6⟩
    go_wp2_with fail
    refine (same2_calls gq br acked got ss hq fr w6 (HA.out.2.2.nil hk6)).mono ?_
    rintro e w7 ⟨rfl, hk7⟩
    go_wp2_with fail
    go_ret
    exact ⟨rfl, ((H4.out.1.trans hk6 (by simp)).trans hk7 (by simp)).below (Nat.le_refl _) (by simp)⟩

/-! ### the row (its frame is printed by gen.py; the walk is above) -/
theorem own : ownKnob Try.prog.godebug = none := by kernel_rfl
theorem laidOut : laidOutB Try.prog = true := by kernel_rfl
set_option maxRecDepth 100000 in
theorem lifted (os : Os) (started : os.Started) (H : Type) (enc : TypeId × Value → H) :
    ReturnsInHanded {} Try.checked os 8 .any (Rows.ackRefusesSpec.pre6 enc Try.prog Try.f8 Rows.ackRefusesRow.domain false) (Rows.ackRefusesSpec.post enc Try.prog Try.f8 false true false false) := by
  refine returnsInHanded_of_change (C := Try.checked) own started (by kernel_rfl) Try.func8
    (ChangeSpec.witness6 (enc := enc) (C := Try.checked) false ⟨#[], #[.slice none 0 0, .int .u32 0], []⟩ 8 (by kernel_rfl) (by kernel_rfl) (by kernel_rfl) (by kernel_rfl)) ?_
  intro W base args ds gs before hval0 hW hcnd _
  have hval : ∀ (j : Nat) t v, Try.f8.params[j]? = some t → args[j]? = some v → Value.okWide Try.prog W .any base t v := hval0
  have hW' := hW
  obtain ⟨p, q, hA0, hV, rfl, hfz, hnd⟩ := hW
  have hA : DataW.TrodAll enc Try.prog W 0 (fun _ => true) true Try.f8.params.toList args.toList ds p := hA0
  rw [Try.params8] at hA hval
  obtain ⟨v0, vs0, d0, ds0, p0, q0, hargs, rfl, rfl, h0, r0⟩ := trodAll_cons hA
  obtain ⟨v1, vs1, d1, ds1, p1, q1, rfl, rfl, rfl, h1, r1⟩ := trodAll_cons r0
  obtain ⟨rfl, rfl, rfl⟩ := trodAll_nil r1
  obtain rfl : args = #[v0, v1] := by cases args; simp_all
  obtain ⟨rfl, rfl⟩ := trodVars_none hV
  have k0 := h0
  have lt0 : ∀ x ∈ p0, x.block < W.heap.size := by obtain ⟨m, hm⟩ := k0; exact DataW.trod_lt m _ _ _ hm
  obtain ⟨a0, len0, cap0, rfl⟩ := okWide_slice Try.underlying36 (hval 0 36 v0 rfl rfl)
  obtain ⟨fuel0, hf0⟩ := h0
  obtain ⟨x0, w0⟩ := open_deeds (by simpa [Value.cells] using hf0)
  have k1 := h1
  have lt1 : ∀ x ∈ p1, x.block < W.heap.size := by obtain ⟨m, hm⟩ := k1; exact DataW.trod_lt m _ _ _ hm
  obtain ⟨x1, rfl, rfl, rfl, w1⟩ := open_int Try.underlying26 (hval 1 26 v1 rfl rfl) h1
  clear hA0 hval0
  refine (walk a0 len0 cap0 x0 x1 W w0 w1).mono fun e W' ⟨he, bel⟩ => ?_
  subst he
  exact ⟨_, rfl, _, _, _, [], _, [], hW', trodAll_mk1 (shut_bool Try.underlying4 _), (trodAll_cons_mk (Below.trod laidOut (by kernel_rfl) (of_decide_eq_true (by kernel_rfl)) k0 bel lt0) (trodAll_cons_mk (Below.trod laidOut (by kernel_rfl) (of_decide_eq_true (by kernel_rfl)) k1 bel lt1) trodAll_mk0)), rfl, bel.frame _, fun h => by cases h⟩

theorem over : Rows.ackRefusesRow.holds Try.pinned (OpenSpec.ofChange Rows.ackRefusesSpec) :=
  OpenClaim.holds_of_wide 8 Try.f8 rfl rfl rfl rfl rfl rfl rfl ⟨rfl, rfl, rfl, rfl, rfl⟩ rfl rfl rfl rfl rfl (by kernel_rfl) Try.func8 (by kernel_rfl)
    (of_decide_eq_true (by kernel_rfl)) (by unfold Func.isWrapper; first | (rw [if_pos (by decide +kernel)]; kernel_rfl) | (rw [if_neg (by decide +kernel)]; exact ⟨rfl, rfl⟩))
    (fun os started H enc _ => lifted os started H enc)

theorem proved : Rows.AckRefusesSaid := over
#print axioms proved
end Go.Proofs.Ytgkbkggegdmcgaa.vAckRefuses
