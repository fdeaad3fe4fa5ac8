/-
  For every name and secret: what is sent in base 64 comes as it was, and needs no entities: heliographtop.TopSecrets answers true. The row lists two of the library's tables; the call does not read them; the card ties them.
-/
import Derived.Test.YtbfcgiodpcchnaaDoorCards
import Derived.Test.YtbfcgiodpcchnaaDoorTie
import Derived.Test.YtbfcgiodpcchnaaDoorS9
import Derived.ProofKit
import Derived.OpenShut
import Derived.ShutString
import Derived.ChangeOld
import Derived.Carry
import Derived.LaidMore
import Derived.Lay
import Derived.SevenTiedAt
import Derived.Stop.Joined
namespace Go.Proofs.YtbfcgiodpcchnaaDoor.vTopSecrets
open Go.ChangeShapes Go.WideShapes Go.ChangeAt Go.RowKit
open Go.ChangeMaps (open_string shut_string)
set_option linter.unusedVariables false

instance (i c : Nat) : Decidable (nameC i c) := by unfold nameC; infer_instance
instance (s : ByteArray) : Decidable (isName s) := by unfold isName; infer_instance
theorem a_name : isName ⟨#[97]⟩ := by decide

theorem b64_plain (t : ByteArray) : ∀ i, i < (b64 t).size → plainC (byteAt (b64 t) i) := fun i hi => by
  rw [b64_size] at hi
  rw [b64_at t i hi]
  have := encC_facts t i
  unfold plainC
  omega
theorem b64_ascii (t : ByteArray) : ∀ i, i < (b64 t).size → 32 < byteAt (b64 t) i ∧ byteAt (b64 t) i < 127 := fun i hi => by
  rw [b64_size] at hi
  rw [b64_at t i hi]
  have := encC_facts t i
  omega

set_option maxHeartbeats 3200000 in
set_option maxRecDepth 100000 in
theorem walk (x0 x1 : ByteArray) (w : World) :
    Calls Tryd.prog 3 #[.string x0, .string x1] w fun e w' => e = .returned (.bool true) ∧ Below w.heap.size w w' := by
  by_cases hb : x0.size ≤ 300 ∧ x1.size ≤ 300
  · have hb0 : (x0.size : Int) ≤ 300 := by omega
    have hb1 : (x1.size : Int) ≤ 300 := by omega
    have hb2 : x0.size ≤ 300 := by omega
    have hb3 : x1.size ≤ 300 := by omega
    clear hb
    go_enter Tryd.func3, Tryd.ntmps3
    go_wp2_with fail
    obtain ⟨t, ht⟩ : ∃ t, t = ({ data := #[0] } ++ x0 ++ { data := #[0] } ++ x1 : ByteArray) := ⟨_, rfl⟩
    have hts : t.size ≤ 1000 ∧ 0 < t.size := by
      have : t.size = 1 + x0.size + 1 + x1.size := by rw [ht, ByteArray.size_append, ByteArray.size_append, ByteArray.size_append]; rfl
      omega
    rw [← ht]
    have hB := fun w => base64_calls t w hts.1 hts.2
    have hU := fun w => unbase64_calls t w hts.1 hts.2
    have hlen : (b64 t).size ≤ 10000 := by rw [b64_size]; unfold lenB; omega
    have hE := fun w => escape_calls (b64 t) w (b64_plain t) (by omega)
    have hN := fun w => unescape_calls (b64 t) w (b64_plain t) hlen
    have hC := fun w => chars_calls (b64 t) w (b64_ascii t) hlen
    obtain ⟨s, hs⟩ : ∃ s, s = b64 t := ⟨_, rfl⟩
    rw [← hs] at hU hE hN hC
    simp only [← hs] at hB
    have H := Lib.hid (And.intro hB (And.intro hU (And.intro hE (And.intro hN hC))))
    clear hB hU hE hN hC hlen hts ht hs
    refine (H.out.1 _).mono ?_
    rintro e w1 ⟨rfl, hk1⟩
    have HK1 := Lib.hid hk1; clear hk1
    go_wp2_with fail
    refine (H.out.2.2.1 _).mono ?_
    rintro e w2 ⟨rfl, hk2⟩
    have HK2 := Lib.hid (HK1.out.trans hk2 (by simp)); clear hk2
    go_wp2_with fail
    refine (H.out.2.2.2.1 _).mono ?_
    rintro e w3 ⟨rfl, hk3⟩
    have HK3 := Lib.hid (HK2.out.trans hk3 (by simp)); clear hk3
    go_wp2_with fail
    refine (H.out.2.1 _).mono ?_
    rintro e w4 ⟨rfl, hk4⟩
    have HK4 := Lib.hid (HK3.out.trans hk4 (by simp)); clear hk4
    go_wp2_with fail
    refine (H.out.2.2.1 _).mono ?_
    rintro e w5 ⟨rfl, hk5⟩
    have HK5 := Lib.hid (HK4.out.trans hk5 (by simp)); clear hk5
    go_wp2_with fail
    refine (H.out.2.2.2.2 _).mono ?_
    rintro e w6 ⟨rfl, hk6⟩
    have HK6 := Lib.hid (HK5.out.trans hk6 (by simp)); clear hk6
    go_wp2_with fail
    go_ret
    exact ⟨rfl, HK6.out.below (Nat.le_refl _) (by simp)⟩
  · have HN := Lib.hid (name_calls ⟨#[97]⟩ w a_name)
    have hbi : 300 < (x0.size : Int) ∨ 300 < (x1.size : Int) := by omega
    clear hb
    rcases hbi with hbi | hbi
    · go_enter Tryd.func3, Tryd.ntmps3
      go_wp2_with fail
      refine HN.out.mono ?_
      rintro e w1 ⟨rfl, rfl⟩
      go_wp2_with fail
      go_ret
      exact ⟨rfl, Below.refl _ _⟩
    · go_enter Tryd.func3, Tryd.ntmps3
      go_wp2_with fail
      all_goals
        refine HN.out.mono ?_
        rintro e w1 ⟨rfl, rfl⟩
        go_wp2_with fail
        go_ret
        exact ⟨rfl, Below.refl _ _⟩

/-! ### the row and the card -/
theorem own : ownKnob Tryd.prog.godebug = none := by kernel_rfl
theorem laidOut : laidOutB Tryd.prog = true := by kernel_rfl

set_option maxRecDepth 100000 in
theorem lifted (os : Os) (started : os.Started) (H : Type) (enc : TypeId × Value → H) :
    ReturnsInHanded {} Tryd.checked os 3 .any (fun w args => (Rows.topSecretsSpec.pre enc Tryd.prog Tryd.f3 Rows.topSecretsRow.domain false w args ∧ laidMetH Tryd.prog Rows.topSecretsRow.laid w) ∧ sizedMet enc Tryd.prog Tryd.f3 (OpenSpec.ofChange Rows.topSecretsSpec) false w args)
      (Rows.topSecretsSpec.post enc Tryd.prog Tryd.f3 false true false false) := by
  refine returnsInHanded_of_change_and (C := Tryd.checked) (X := fun w _ => laidMetH Tryd.prog Rows.topSecretsRow.laid w) (fun _ _ _ hh h => h.of_heap hh) own started (by kernel_rfl) Tryd.func3
    (ChangeSpec.witness_shaped (enc := enc) (C := Tryd.checked) (os := os) (X := fun w _ => laidMetH Tryd.prog Rows.topSecretsRow.laid w) false (World.laidAll Tryd.prog os Rows.topSecretsRow.laid) #[.string ⟨#[]⟩, .string ⟨#[]⟩] 8 (World.laidAll_os _ _ _)
      (World.shaped_of_ZipB (by kernel_rfl) (by kernel_rfl)) (by kernel_rfl) (by kernel_rfl) (by kernel_rfl)
      (by rw [MakeChecks.laidMetH_plain _ _ _ (by kernel_rfl)]; exact laidMet_laidAll _ (by kernel_rfl) (by kernel_rfl))) ?_
  intro W base args ds gs before hval0 hW hcnd _ _ _
  have hval : ∀ (j : Nat) t v, Tryd.f3.params[j]? = some t → args[j]? = some v → Value.okWide Tryd.prog W .any base t v := hval0
  have hW' := hW
  obtain ⟨p, q, hA0, hV, rfl, hfz, hnd⟩ := hW
  have hA : DataW.TrodAll enc Tryd.prog W 0 (fun _ => true) true Tryd.f3.params.toList args.toList ds p := hA0
  rw [Tryd.params3] at hA hval
  obtain ⟨v0, vs0, d0, ds0, p0, q0, hargs, rfl, rfl, h0, r0⟩ := trodAll_cons hA
  obtain ⟨v1, vs1, d1, ds1, p1, q1, rfl, rfl, rfl, h1, r1⟩ := trodAll_cons r0
  obtain ⟨rfl, rfl, rfl⟩ := trodAll_nil r1
  obtain rfl : args = #[v0, v1] := by cases args; simp_all
  obtain ⟨rfl, rfl⟩ := trodVars_none hV
  have k0 := h0
  have lt0 : ∀ x ∈ p0, x.block < W.heap.size := by obtain ⟨m, hm⟩ := k0; exact DataW.trod_lt m _ _ _ hm
  obtain ⟨x0, rfl, rfl, rfl, w0⟩ := open_string Tryd.underlying9 (hval 0 9 v0 rfl rfl) h0
  have k1 := h1
  have lt1 : ∀ x ∈ p1, x.block < W.heap.size := by obtain ⟨m, hm⟩ := k1; exact DataW.trod_lt m _ _ _ hm
  obtain ⟨x1, rfl, rfl, rfl, w1⟩ := open_string Tryd.underlying9 (hval 1 9 v1 rfl rfl) h1
  clear hA0 hval0
  refine (walk x0 x1 W).mono fun e W' ⟨he, bel⟩ => ?_
  subst he
  exact ⟨_, rfl, _, _, _, [], _, [], hW', trodAll_mk1 (shut_bool Tryd.underlying4 _), (trodAll_cons_mk (Below.trod laidOut (by kernel_rfl) (of_decide_eq_true (by kernel_rfl)) k0 bel lt0) (trodAll_cons_mk (Below.trod laidOut (by kernel_rfl) (of_decide_eq_true (by kernel_rfl)) k1 bel lt1) trodAll_mk0)), rfl, bel.frame _, fun h => by cases h⟩

theorem over : Rows.TopSecretsSaid :=
  OpenClaim.holds_of_wide 3 Tryd.f3 rfl rfl rfl rfl rfl rfl rfl ⟨rfl, rfl, rfl, rfl, rfl⟩ rfl rfl rfl rfl rfl (by kernel_rfl) Tryd.func3 (by kernel_rfl)
    (of_decide_eq_true (by kernel_rfl)) (by unfold Func.isWrapper; first | (rw [if_pos (by decide +kernel)]; kernel_rfl) | (rw [if_neg (by decide +kernel)]; exact ⟨rfl, rfl⟩))
    (fun os started H enc _ => lifted os started H enc)

theorem proved : Rows.TopSecretsCardSaid :=
  Claim7.holds_tied_plain_at .later [] [.data, .pinned] true (true, "2fe8ce168fc61fadea4ed6787caf726161c2e7ce86881f1ff36ccf23a1a55da9") false over (fun _ h => by cases h) (by kernel_rfl) (fun _ h => by cases h) topSecrets_row_tie rfl ⟨rfl, rfl⟩ (by kernel_rfl) rfl
    (fun f fn hf hfn => by
      obtain rfl : f = 3 := Option.some.inj ((show Tryd.prog.funcNamed "heliograph/heliographtop.TopSecrets" = some 3 by kernel_rfl).symm.trans hf) |>.symm
      obtain rfl : fn = Tryd.f3 := (Option.some.inj (Tryd.func3.symm.trans hfn)).symm
      exact ⟨by kernel_rfl, fun j t ht => by
        rw [Tryd.params3] at ht
        have hm : t ∈ [9, 9] := by simpa using Array.mem_of_getElem? ht
        have hall : ([9, 9].all fun u => !Tryd.prog.wantsStandIn u) = true := by kernel_rfl
        exact (show Tryd.prog.wantsStandIn t = false by simpa using List.all_eq_true.1 hall t hm)⟩)
    (by kernel_rfl)
#print axioms proved

end Go.Proofs.YtbfcgiodpcchnaaDoor.vTopSecrets
