/-
  For every list of deeds and every text no more than MaxQueue wait: heliographlaw10.AckFew answers true, and both arguments read as before. No condition.
-/
import Derived.Test.YtgkbkggegdmcgaaRows
import Derived.ProofKit
import Derived.OpenShut
import Derived.ShutString
import Derived.ChangeOld
import Derived.Carry
import Derived.Test.YtgkbkggegdmcgaaOpen
namespace Go.Proofs.Ytgkbkggegdmcgaa.vAckFew
open Go.ChangeShapes Go.WideShapes Go.ChangeAt Go.RowKit
open Go.ChangeMaps (open_string shut_string)
set_option linter.unusedVariables false

set_option maxHeartbeats 800000 in
theorem walk (A : Option Addr) (n c : Nat) (ds : List DeedV) (s : ByteArray) (w : World) (hd : Deeds w A n ds) (hs : s.size ≤ maxLen) :
    Calls Try.prog 4 #[.slice A n c, .string s] w fun e w' => e = .returned (.bool true) ∧ Below w.heap.size w w' := by
  go_enter Try.func4, Try.ntmps4
  go_wp2_with fail
  refine (play_calls A n c ds w hd).mono ?_
  rintro e w1 ⟨bq, br, rfl, acked, got, ss, fq, fr, ⟨hq, -, -, hf⟩, hK, hN⟩
  have hN' : ∀ k ∈ fq, w.heap.size ≤ k := fun k hk => hN k (by simp [hk])
  obtain ⟨S, hS⟩ : ∃ S, S = (acked + ss.length) % 4294967296 := ⟨_, rfl⟩
  rw [← hS] at hq
  have H := Lib.hid (And.intro hK hN'); clear hK hN hN' hS
  have Hf := Lib.hid hf; clear hf
  go_wp2_with fail
  refine (live_calls w1).mono ?_
  rintro e w2 ⟨rfl, hk2⟩
  have hq2 := hq.keeps hk2 (by simp)
  have H2 := Lib.hid (H.out.1.trans hk2 (by simp)); clear hk2 hq
  go_wp2_with fail
  refine (waiting_calls bq S got ss fq w2 hq2 Hf.out).mono ?_
  rintro e w3 ⟨v3, f3, rfl, ho3, hk3, -⟩
  obtain ⟨A3, c3, rfl, -⟩ := ho3.form
  have hq3 := hq2.keeps hk3 (by simp)
  have H3 := Lib.hid (H2.out.trans hk3 (by simp)); clear hk3 hq2 ho3
  go_wp2_with fail
  refine (sent_calls bq S got ss fq w3 hq3).mono ?_
  rintro e w4 ⟨rfl, rfl⟩
  by_cases hfull : ss.length = 16
  · have h16 : ((ss.length : Int) == 16) = true := by simp; omega
    go_wp2_with fail
    refine (send_full bq S got ss fq s w3 hq3 hfull).mono ?_
    rintro e w4 ⟨rfl, rfl⟩
    go_wp2_with fail
    refine (sent_calls bq S got ss fq w3 hq3).mono ?_
    rintro e w4 ⟨rfl, rfl⟩
    go_wp2_with fail
    refine (waiting_calls bq S got ss fq w3 hq3 Hf.out).mono ?_
    rintro e w5 ⟨v5, f5, rfl, ho5, hk5, -⟩
    obtain ⟨A5, c5, rfl, -⟩ := ho5.form
    have H5 := Lib.hid (H3.out.trans hk5 (by simp)); clear hk5 ho5
    go_wp2_with fail
    go_ret
    exact ⟨by simp, H5.out.below (Nat.le_refl _) (by simp)⟩
  · have h16 : ((ss.length : Int) == 16) = false := by simp; omega
    have hroom : ss.length < 16 := by have := Hf.out; omega
    have hroomI : (ss.length : Int) < 16 := by omega
    clear hfull
    go_wp2_with fail
    refine (send_room bq S got ss fq s w3 hq3 hroom).mono ?_
    rintro e w4 ⟨fq4, rfl, hq4, hk4, hn4⟩
    have hK4 : Keeps w w4 [] := H3.out.trans hk4 (fun i hi hm => by have := H.out.2 i hm; omega)
    have hsz := H3.out.size
    have hN4 : ∀ k ∈ fq4, w.heap.size ≤ k := fun k hk => by rcases hn4 k hk with h | h; · exact H.out.2 k h
                                                            · omega
    have H4 := Lib.hid (And.intro hK4 hN4); clear hk4 hn4 hK4 hN4 hq3 hsz
    go_wp2_with fail
    refine (sent_calls bq _ got _ fq4 w4 hq4).mono ?_
    rintro e w5 ⟨rfl, rfl⟩
    go_wp2_with fail
    refine (waiting_calls bq _ got _ fq4 w4 hq4 (by simp; omega)).mono ?_
    rintro e w5 ⟨v5, f5, rfl, ho5, hk5, -⟩
    obtain ⟨A5, c5, rfl, -, fr5, hr5, -⟩ := ho5.form
    obtain ⟨b1, o1, u1, rfl, -, -, hx1, hc1⟩ := hr5.cellAt (k := ss.length) (by simp)
    obtain rfl : u1 = .string s := by simpa [strs] using hx1.symm
    have g1 : (ss.length : Int) < (ss.length : Int) + 1 := by omega
    have H5 := Lib.hid (H4.out.1.trans hk5 (by simp)); clear hk5 ho5 hr5 hx1
    go_wp2_with fail
    go_ret
    exact ⟨by simp, H5.out.below (Nat.le_refl _) (by simp)⟩

/-! ### the row (its frame is printed by gen.py; the walk is above) -/
theorem own : ownKnob Try.prog.godebug = none := by kernel_rfl
theorem laidOut : laidOutB Try.prog = true := by kernel_rfl
set_option maxRecDepth 100000 in
theorem lifted (os : Os) (started : os.Started) (H : Type) (enc : TypeId × Value → H) :
    ReturnsInHanded {} Try.checked os 4 .any (Rows.ackFewSpec.pre6 enc Try.prog Try.f4 Rows.ackFewRow.domain false) (Rows.ackFewSpec.post enc Try.prog Try.f4 false true false false) := by
  refine returnsInHanded_of_change (C := Try.checked) own started (by kernel_rfl) Try.func4
    (ChangeSpec.witness6 (enc := enc) (C := Try.checked) false ⟨#[], #[.slice none 0 0, .string ⟨#[]⟩], []⟩ 8 (by kernel_rfl) (by kernel_rfl) (by kernel_rfl) (by kernel_rfl)) ?_
  intro W base args ds gs before hval0 hW hcnd _
  have hval : ∀ (j : Nat) t v, Try.f4.params[j]? = some t → args[j]? = some v → Value.okWide Try.prog W .any base t v := hval0
  have hW' := hW
  obtain ⟨p, q, hA0, hV, rfl, hfz, hnd⟩ := hW
  have hA : DataW.TrodAll enc Try.prog W 0 (fun _ => true) true Try.f4.params.toList args.toList ds p := hA0
  rw [Try.params4] at hA hval
  obtain ⟨v0, vs0, d0, ds0, p0, q0, hargs, rfl, rfl, h0, r0⟩ := trodAll_cons hA
  obtain ⟨v1, vs1, d1, ds1, p1, q1, rfl, rfl, rfl, h1, r1⟩ := trodAll_cons r0
  obtain ⟨rfl, rfl, rfl⟩ := trodAll_nil r1
  obtain rfl : args = #[v0, v1] := by cases args; simp_all
  obtain ⟨rfl, rfl⟩ := trodVars_none hV
  have k0 := h0
  have lt0 : ∀ x ∈ p0, x.block < W.heap.size := by obtain ⟨m, hm⟩ := k0; exact DataW.trod_lt m _ _ _ hm
  obtain ⟨a0, len0, cap0, rfl⟩ := okWide_slice Try.underlying36 (hval 0 36 v0 rfl rfl)
  obtain ⟨fuel0, hf0⟩ := h0
  obtain ⟨x0, w0⟩ := open_deeds (by simpa [Value.cells] using hf0)
  have k1 := h1
  have lt1 : ∀ x ∈ p1, x.block < W.heap.size := by obtain ⟨m, hm⟩ := k1; exact DataW.trod_lt m _ _ _ hm
  obtain ⟨x1, rfl, rfl, rfl, w1⟩ := open_string Try.underlying9 (hval 1 9 v1 rfl rfl) h1
  clear hA0 hval0
  refine (walk a0 len0 cap0 x0 x1 W w0 w1).mono fun e W' ⟨he, bel⟩ => ?_
  subst he
  exact ⟨_, rfl, _, _, _, [], _, [], hW', trodAll_mk1 (shut_bool Try.underlying4 _), (trodAll_cons_mk (Below.trod laidOut (by kernel_rfl) (of_decide_eq_true (by kernel_rfl)) k0 bel lt0) (trodAll_cons_mk (Below.trod laidOut (by kernel_rfl) (of_decide_eq_true (by kernel_rfl)) k1 bel lt1) trodAll_mk0)), rfl, bel.frame _, fun h => by cases h⟩

theorem over : Rows.ackFewRow.holds Try.pinned (OpenSpec.ofChange Rows.ackFewSpec) :=
  OpenClaim.holds_of_wide 4 Try.f4 rfl rfl rfl rfl rfl rfl rfl ⟨rfl, rfl, rfl, rfl, rfl⟩ rfl rfl rfl rfl rfl (by kernel_rfl) Try.func4 (by kernel_rfl)
    (of_decide_eq_true (by kernel_rfl)) (by unfold Func.isWrapper; first | (rw [if_pos (by decide +kernel)]; kernel_rfl) | (rw [if_neg (by decide +kernel)]; exact ⟨rfl, rfl⟩))
    (fun os started H enc _ => lifted os started H enc)

theorem proved : Rows.AckFewSaid := over
#print axioms proved
end Go.Proofs.Ytgkbkggegdmcgaa.vAckFew
