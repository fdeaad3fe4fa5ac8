/-
  For every number of rounds and every text counts go round: heliographlaw10.AckRound answers true, and both arguments read as before. No condition.
-/
import Derived.Test.YtgkbkggegdmcgaaRows
import Derived.ProofKit
import Derived.OpenShut
import Derived.ShutString
import Derived.ChangeOld
import Derived.Carry
import Derived.Test.YtgkbkggegdmcgaaOpen
namespace Go.Proofs.Ytgkbkggegdmcgaa.vAckRound
open Go.ChangeShapes Go.WideShapes Go.ChangeAt Go.RowKit
open Go.ChangeMaps (open_string shut_string)
set_option linter.unusedVariables false

/-- between two rounds: i were sent, got and acknowledged. -/
def Inv (w : World) (b : Nat) (i : Nat) (wr : World) : Prop := ∃ fq, QRep wr b i i [] fq ∧ Keeps w wr [] ∧ ∀ k ∈ fq, w.heap.size ≤ k

set_option maxHeartbeats 1600000 in
theorem walk (n : Int) (s : ByteArray) (w : World) (hw : (Lit.int .u16 n).wf = true) (hs : s.size ≤ maxLen) :
    Calls Try.prog 6 #[.int .u16 n, .string s] w fun e w' => e = .returned (.bool true) ∧ Below w.heap.size w w' := by
  obtain ⟨h0, h1⟩ := bounds_u16 hw
  go_enter Try.func6, Try.ntmps6
  go_wp2_with fail
  refine (new_calls w).mono ?_
  rintro e w1 ⟨f1, rfl, hq1, hk1, hn1⟩
  obtain ⟨b, hb⟩ : ∃ b, b = w.heap.size := ⟨_, rfl⟩
  rw [← hb] at hq1 ⊢
  have hI : Inv w b 0 w1 := ⟨f1, by simpa using hq1, hk1, fun k hk => by have := hn1 k hk; simpa using this⟩
  clear hb hq1 hk1 hn1
  have HI := Lib.hid hI; clear hI
  go_wp2_with fail
  go_loopw [6] (fun i wr => ∃ k : Nat, (k : Int) ≤ n % 200 ∧ i = .int .i64 k ∧ Inv w b k wr) (fun i _ => 200 - (intOf i).toNat)
  case atStart => exact ⟨0, by omega, rfl, HI.out⟩
  case round =>
    obtain ⟨k, hk, rfl, hI⟩ := hrel
    have HK := Lib.hid hI; clear hI
    by_cases hlt : (k : Int) < n % 200
    · obtain ⟨fq, hq, hK, hN⟩ := HK.out
      have H := Lib.hid (And.intro hK hN); clear hK hN
      have hk200 : (k : Int) < 200 := by omega
      go_wp2_with fail
      refine (send_room b k k [] fq s wr hq (by simp)).mono ?_
      rintro e w2 ⟨fq2, rfl, hq2, hk2, hn2⟩
      have hq2' : QRep w2 b ((k : Int) + 1) k [s] fq2 := by
        have : ((k : Int) + 1) % 4294967296 = (k : Int) + 1 := by omega
        rw [this] at hq2
        simpa using hq2
      have hK2 : Keeps w w2 [] := H.out.1.trans hk2 (fun i hi hm => by have := H.out.2 i hm; omega)
      have hN2 : ∀ k ∈ fq2, w.heap.size ≤ k := fun k hk => by rcases hn2 k hk with h1 | h1; · exact H.out.2 k h1
                                                              · have := H.out.1.size; omega
      have H2 := Lib.hid (And.intro hK2 hN2); clear hk2 hn2 hq2 hq hK2 hN2
      go_wp2_with fail
      refine (got_calls b _ k [s] fq2 w2 hq2').mono ?_
      rintro e w3 ⟨fq3, rfl, hq3, hk3, hn3⟩
      have hq3' : QRep w3 b ((k : Int) + 1) ((k : Int) + 1) [s] fq3 := by
        have : ((k : Int) + 1) % 4294967296 = (k : Int) + 1 := by omega
        rwa [this] at hq3
      have hK3 : Keeps w w3 [] := H2.out.1.trans hk3 (fun i hi hm => by have := H2.out.2 i hm; omega)
      have hN3 : ∀ k ∈ fq3, w.heap.size ≤ k := fun k hk => by rcases hn3 k hk with h1 | h1; · exact H2.out.2 k h1
                                                              · have := H2.out.1.size; omega
      have hA := ack_ok b _ _ [s] fq3 ((k : Int) + 1) 0 w3 hq3' (by omega) (by simp) (by simp)
      have H3 := Lib.hid (And.intro hK3 (And.intro hN3 hA)); clear hk3 hn3 hq3 hq2' hK3 hN3 hA
      go_wp2_with fail
      refine H3.out.2.2.mono ?_
      rintro e w4 ⟨fq4, A4, c4, fo4, rfl, hq4, hr4, hd4, hk4, hn4⟩
      have hr4' : Reads w4 1 A4 1 (strs [s]) fo4 := by simpa using hr4
      have hq4' : QRep w4 b ((k : Int) + 1) ((k : Int) + 1) [] fq4 := by simpa using hq4
      have hK4 : Keeps w w4 [] := H3.out.1.trans hk4 (fun i hi hm => by have := H3.out.2.1 i hm; omega)
      have hN4 : ∀ k ∈ fq4, w.heap.size ≤ k := fun k hk => by rcases hn4 k hk with h1 | h1; · exact H3.out.2.1 k h1
                                                              · have := H3.out.1.size; omega
      obtain ⟨b1, o1, u1, rfl, -, -, hx1, hc1⟩ := hr4'.cellAt (k := 0) (by omega)
      obtain rfl : u1 = .string s := by simpa [strs] using hx1.symm
      have hc1' : w4.cell? ⟨b1, o1, none⟩ = some (.string s) := by simpa using hc1
      have H4 := Lib.hid (And.intro hq4' (And.intro hK4 hN4)); clear hr4 hr4' hq4 hq4' hK4 hN4 hx1 hc1 hk4 hn4 hd4
      go_wp2_with fail
      go_roundw
      case rel => exact ⟨k + 1, by omega, by go_num, fq4, by simpa using H4.out.1, H4.out.2.1, H4.out.2.2⟩
      case measure => simp [intOf]; omega
    · have hkn : n % 200 ≤ (k : Int) := by omega
      obtain ⟨fq, hq, hK, hN⟩ := HK.out
      have hkn' : n % 200 = (k : Int) := by omega
      have H := Lib.hid (And.intro hK (And.intro hN hkn')); clear hK hN hkn'
      go_wp2_with fail
      refine (live_calls wr).mono ?_
      rintro e w2 ⟨rfl, hk2⟩
      have hq2 := hq.keeps hk2 (by simp)
      have H2 := Lib.hid (H.out.1.trans hk2 (by simp)); clear hk2 hq
      go_wp2_with fail
      refine (sent_calls b _ _ [] fq w2 hq2).mono ?_
      rintro e w3 ⟨rfl, rfl⟩
      go_wp2_with fail
      refine (handled_calls b _ _ [] fq w2 hq2).mono ?_
      rintro e w3 ⟨rfl, rfl⟩
      go_wp2_with fail
      refine (waiting_calls b _ _ [] fq w2 hq2 (by simp)).mono ?_
      rintro e w3 ⟨v3, fv3, rfl, ho3, hk3, -⟩
      obtain ⟨A3, c3, rfl, -⟩ := ho3.form
      have H3 := Lib.hid (H2.out.trans hk3 (by simp)); clear hk3 ho3
      go_wp2_with fail
      go_ret
      refine ⟨?_, H3.out.below (Nat.le_refl _) (by simp)⟩
      simp

/-! ### the row (its frame is printed by gen.py; the walk is above) -/
theorem own : ownKnob Try.prog.godebug = none := by kernel_rfl
theorem laidOut : laidOutB Try.prog = true := by kernel_rfl
set_option maxRecDepth 100000 in
theorem lifted (os : Os) (started : os.Started) (H : Type) (enc : TypeId × Value → H) :
    ReturnsInHanded {} Try.checked os 6 .any (Rows.ackRoundSpec.pre6 enc Try.prog Try.f6 Rows.ackRoundRow.domain false) (Rows.ackRoundSpec.post enc Try.prog Try.f6 false true false false) := by
  refine returnsInHanded_of_change (C := Try.checked) own started (by kernel_rfl) Try.func6
    (ChangeSpec.witness6 (enc := enc) (C := Try.checked) false ⟨#[], #[.int .u16 0, .string ⟨#[]⟩], []⟩ 8 (by kernel_rfl) (by kernel_rfl) (by kernel_rfl) (by kernel_rfl)) ?_
  intro W base args ds gs before hval0 hW hcnd _
  have hval : ∀ (j : Nat) t v, Try.f6.params[j]? = some t → args[j]? = some v → Value.okWide Try.prog W .any base t v := hval0
  have hW' := hW
  obtain ⟨p, q, hA0, hV, rfl, hfz, hnd⟩ := hW
  have hA : DataW.TrodAll enc Try.prog W 0 (fun _ => true) true Try.f6.params.toList args.toList ds p := hA0
  rw [Try.params6] at hA hval
  obtain ⟨v0, vs0, d0, ds0, p0, q0, hargs, rfl, rfl, h0, r0⟩ := trodAll_cons hA
  obtain ⟨v1, vs1, d1, ds1, p1, q1, rfl, rfl, rfl, h1, r1⟩ := trodAll_cons r0
  obtain ⟨rfl, rfl, rfl⟩ := trodAll_nil r1
  obtain rfl : args = #[v0, v1] := by cases args; simp_all
  obtain ⟨rfl, rfl⟩ := trodVars_none hV
  have k0 := h0
  have lt0 : ∀ x ∈ p0, x.block < W.heap.size := by obtain ⟨m, hm⟩ := k0; exact DataW.trod_lt m _ _ _ hm
  obtain ⟨x0, rfl, rfl, rfl, w0⟩ := open_int Try.underlying42 (hval 0 42 v0 rfl rfl) h0
  have k1 := h1
  have lt1 : ∀ x ∈ p1, x.block < W.heap.size := by obtain ⟨m, hm⟩ := k1; exact DataW.trod_lt m _ _ _ hm
  obtain ⟨x1, rfl, rfl, rfl, w1⟩ := open_string Try.underlying9 (hval 1 9 v1 rfl rfl) h1
  clear hA0 hval0
  refine (walk x0 x1 W w0 w1).mono fun e W' ⟨he, bel⟩ => ?_
  subst he
  exact ⟨_, rfl, _, _, _, [], _, [], hW', trodAll_mk1 (shut_bool Try.underlying4 _), (trodAll_cons_mk (Below.trod laidOut (by kernel_rfl) (of_decide_eq_true (by kernel_rfl)) k0 bel lt0) (trodAll_cons_mk (Below.trod laidOut (by kernel_rfl) (of_decide_eq_true (by kernel_rfl)) k1 bel lt1) trodAll_mk0)), rfl, bel.frame _, fun h => by cases h⟩

theorem over : Rows.ackRoundRow.holds Try.pinned (OpenSpec.ofChange Rows.ackRoundSpec) :=
  OpenClaim.holds_of_wide 6 Try.f6 rfl rfl rfl rfl rfl rfl rfl ⟨rfl, rfl, rfl, rfl, rfl⟩ rfl rfl rfl rfl rfl (by kernel_rfl) Try.func6 (by kernel_rfl)
    (of_decide_eq_true (by kernel_rfl)) (by unfold Func.isWrapper; first | (rw [if_pos (by decide +kernel)]; kernel_rfl) | (rw [if_neg (by decide +kernel)]; exact ⟨rfl, rfl⟩))
    (fun os started H enc _ => lifted os started H enc)

theorem proved : Rows.AckRoundSaid := over
#print axioms proved
end Go.Proofs.Ytgkbkggegdmcgaa.vAckRound
