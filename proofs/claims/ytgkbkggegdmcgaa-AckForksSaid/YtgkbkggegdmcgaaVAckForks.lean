/-
  For every two lists of deeds what becomes of a Fork changes nothing: heliographlaw10.AckForks answers true, and both arguments read as before. No condition.
-/
import Derived.Test.YtgkbkggegdmcgaaRows
import Derived.ProofKit
import Derived.OpenShut
import Derived.ShutString
import Derived.ChangeOld
import Derived.Carry
import Derived.Test.YtgkbkggegdmcgaaOpen
namespace Go.Proofs.Ytgkbkggegdmcgaa.vAckForks
open Go.ChangeShapes Go.WideShapes Go.ChangeAt Go.RowKit
open Go.ChangeMaps (open_string shut_string)
set_option linter.unusedVariables false

/-- between two rounds: the first ones as they were, the forks whatever. -/
def Inv (w : World) (B bq br : Nat) (acked got : Int) (ss : List ByteArray) (fq fr : List Nat) (gq gr : Nat) (wr : World) : Prop :=
  Both wr bq br acked got ss fq fr ∧ (∀ k ∈ fq ++ fr, k < B) ∧ Keeps w wr [] ∧ B ≤ wr.heap.size ∧ w.heap.size ≤ B ∧ ∃ acked' got' ss' hq hr, Both wr gq gr acked' got' ss' hq hr ∧ ∀ k ∈ hq ++ hr, B ≤ k

set_option maxHeartbeats 1600000 in
theorem walk (A : Option Addr) (n c : Nat) (ds : List DeedV) (B : Option Addr) (m d : Nat) (more : List DeedV) (w : World) (hd : Deeds w A n ds) (hm : Deeds w B m more) :
    Calls Try.prog 9 #[.slice A n c, .slice B m d] w fun e w' => e = .returned (.bool true) ∧ Below w.heap.size w w' := by
  go_enter Try.func9, Try.ntmps9
  go_wp2_with fail
  refine (play_calls A n c ds w hd).mono ?_
  rintro e w1 ⟨bq, br, rfl, acked, got, ss, fq, fr, hB, hK, hN⟩
  have H := Lib.hid (And.intro hK hN); clear hK hN
  go_wp2_with fail
  refine (live_calls w1).mono ?_
  rintro e w2 ⟨rfl, hk2⟩
  have hB2 := hB.nil hk2
  have H2 := Lib.hid (H.out.1.trans hk2 (by simp)); clear hk2 hB
  go_wp2_with fail
  refine (fork_calls bq _ got ss fq w2 hB2.q hB2.few).mono ?_
  rintro e w3 ⟨gq, hq, rfl, hq3, hk3, hn3⟩
  have hB3 := hB2.nil hk3
  have hlow : ∀ k ∈ fq ++ fr, k < w2.heap.size := fun k hm => by
    rcases List.mem_append.1 hm with hm | hm
    · exact hB2.q.lt k hm
    · exact hB2.r.lt k hm
  have H3 := Lib.hid (And.intro (H2.out.trans hk3 (by simp)) (And.intro hn3 (And.intro hk3.size hlow))); clear hk3 hn3 hB2 hlow
  go_wp2_with fail
  refine (rfork_calls br acked got ss fr w3 hB3.r hB3.few).mono ?_
  rintro e w4 ⟨gr, hr, rfl, hr4, hk4, hn4⟩
  have hB4 := hB3.nil hk4
  have hq4 := hq3.keeps hk4 (by simp)
  have hlq := hq3.lt
  have hC : Both w4 gq gr acked got ss hq hr := ⟨hq4, hr4, fun k h1 h2 => by have := hlq k h1; have := hn4 k h2; omega, hB4.few⟩
  have hI : Inv w w2.heap.size bq br acked got ss fq fr gq gr w4 := by
    refine ⟨hB4, H3.out.2.2.2, H3.out.1.trans hk4 (by simp), Nat.le_trans H3.out.2.2.1 hk4.size, H2.out.size, acked, got, ss, hq, hr, hC, fun k hm => ?_⟩
    rcases List.mem_append.1 hm with hm | hm
    · exact H3.out.2.1 k hm
    · have := hn4 k hm
      have := H3.out.2.2.1
      omega
  obtain ⟨B2, hB2⟩ : ∃ x, x = w2.heap.size := ⟨_, rfl⟩
  rw [← hB2] at hI
  have HI := Lib.hid hI
  clear hI hB2 hB4 hq4 hlq hC hr4 hk4 hn4 hB3 hq3 H3 H2
  go_wp2_with fail
  go_loopw [10] (fun i wr => ∃ k : Nat, k ≤ m ∧ i = .int .i64 k ∧ Inv w B2 bq br acked got ss fq fr gq gr wr) (fun i _ => m - (intOf i).toNat)
  case atStart => exact ⟨0, by omega, rfl, HI.out⟩
  case round =>
    obtain ⟨k, hk, rfl, hI⟩ := hrel
    have HJ := Lib.hid hI; clear hI
    by_cases hgo : k < m ∧ (k : Int) < 20
    · obtain ⟨hlt, h20⟩ := hgo
      obtain ⟨hB, hlow, hK, hsz, hsz0, acked', got', ss', hq, hr, hF, hhigh⟩ := HJ.out
      obtain ⟨b, o, x, rfl, hb, c0, c1, c2, c3⟩ := (hm.keeps hK).at_ hlt
      have g1 : (0 : Int) ≤ (k : Int) := by omega
      have g2 : (k : Int) < (m : Int) := by omega
      have HB := Lib.hid (And.intro hB (And.intro hlow (And.intro (show Keeps w wr [] from hK) (And.intro hsz (And.intro hsz0 (And.intro hF hhigh))))))
      clear hB hlow hsz hsz0 hF hhigh
      have HK := Lib.hid hK
      go_wp2_with fail
      refine (do_calls gq gr acked' got' ss' hq hr x.kind x.s x.h x.on wr HB.out.2.2.2.2.2.1).mono ?_
      rintro e w5 ⟨a5, g5, s5, hq5, hr5, rfl, hB5, hK5, hN5⟩
      have H5 := Lib.hid (And.intro hB5 (And.intro hK5 hN5)); clear hB5 hK5 hN5
      go_wp2_with fail
      go_roundw
      case rel =>
        obtain ⟨hB, hlow, hK, hsz, hsz0, hF, hhigh⟩ := HB.out
        obtain ⟨hB5, hK5, hN5⟩ := H5.out
        have hap : ∀ k ∈ fq ++ fr, k ∉ hq ++ hr := fun k h1 h2 => by have := hlow k h1; have := hhigh k h2; omega
        refine ⟨k + 1, by omega, by go_num, hB.keeps hK5 (fun k h1 => hap k (by simp [h1])) (fun k h1 => hap k (by simp [h1])), hlow, hK.trans hK5 (fun i hi h1 => by have := hhigh i h1; omega), Nat.le_trans hsz hK5.size, hsz0, a5, g5, s5, hq5, hr5, hB5, fun k h1 => ?_⟩
        rcases hN5 k h1 with h2 | h2
        · exact hhigh k h2
        · omega
      case measure => simp [intOf]; omega
    · have hend : Inv w B2 bq br acked got ss fq fr gq gr wr := HJ.out
      obtain ⟨hB, hlow, hK, hsz, hsz0, acked', got', ss', hq, hr, hF, hhigh⟩ := hend
      have HB := Lib.hid (And.intro hB (And.intro hK hF)); clear hB hlow hK hsz hsz0 hF hhigh
      by_cases hlt : k < m
      all_goals
        first
          | have h20 : (20 : Int) ≤ (k : Int) := by omega
          | (obtain rfl : k = m := by omega)
        clear hgo
        go_wp2_with fail
        refine (same2_calls bq br acked got ss fq fr wr HB.out.1).mono ?_
        rintro e w6 ⟨rfl, hk6⟩
        go_wp2_with fail
        refine (same2_calls gq gr acked' got' ss' hq hr w6 (HB.out.2.2.nil hk6)).mono ?_
        rintro e w7 ⟨rfl, hk7⟩
        go_wp2_with fail
        go_ret
        exact ⟨rfl, ((HB.out.2.1.trans hk6 (by simp)).trans hk7 (by simp)).below (Nat.le_refl _) (by simp)⟩

/-! ### the row (its frame is printed by gen.py; the walk is above) -/
theorem own : ownKnob Try.prog.godebug = none := by kernel_rfl
theorem laidOut : laidOutB Try.prog = true := by kernel_rfl
set_option maxRecDepth 100000 in
theorem lifted (os : Os) (started : os.Started) (H : Type) (enc : TypeId × Value → H) :
    ReturnsInHanded {} Try.checked os 9 .any (Rows.ackForksSpec.pre6 enc Try.prog Try.f9 Rows.ackForksRow.domain false) (Rows.ackForksSpec.post enc Try.prog Try.f9 false true false false) := by
  refine returnsInHanded_of_change (C := Try.checked) own started (by kernel_rfl) Try.func9
    (ChangeSpec.witness6 (enc := enc) (C := Try.checked) false ⟨#[], #[.slice none 0 0, .slice none 0 0], []⟩ 8 (by kernel_rfl) (by kernel_rfl) (by kernel_rfl) (by kernel_rfl)) ?_
  intro W base args ds gs before hval0 hW hcnd _
  have hval : ∀ (j : Nat) t v, Try.f9.params[j]? = some t → args[j]? = some v → Value.okWide Try.prog W .any base t v := hval0
  have hW' := hW
  obtain ⟨p, q, hA0, hV, rfl, hfz, hnd⟩ := hW
  have hA : DataW.TrodAll enc Try.prog W 0 (fun _ => true) true Try.f9.params.toList args.toList ds p := hA0
  rw [Try.params9] at hA hval
  obtain ⟨v0, vs0, d0, ds0, p0, q0, hargs, rfl, rfl, h0, r0⟩ := trodAll_cons hA
  obtain ⟨v1, vs1, d1, ds1, p1, q1, rfl, rfl, rfl, h1, r1⟩ := trodAll_cons r0
  obtain ⟨rfl, rfl, rfl⟩ := trodAll_nil r1
  obtain rfl : args = #[v0, v1] := by cases args; simp_all
  obtain ⟨rfl, rfl⟩ := trodVars_none hV
  have k0 := h0
  have lt0 : ∀ x ∈ p0, x.block < W.heap.size := by obtain ⟨m, hm⟩ := k0; exact DataW.trod_lt m _ _ _ hm
  obtain ⟨a0, len0, cap0, rfl⟩ := okWide_slice Try.underlying36 (hval 0 36 v0 rfl rfl)
  obtain ⟨fuel0, hf0⟩ := h0
  obtain ⟨x0, w0⟩ := open_deeds (by simpa [Value.cells] using hf0)
  have k1 := h1
  have lt1 : ∀ x ∈ p1, x.block < W.heap.size := by obtain ⟨m, hm⟩ := k1; exact DataW.trod_lt m _ _ _ hm
  obtain ⟨a1, len1, cap1, rfl⟩ := okWide_slice Try.underlying36 (hval 1 36 v1 rfl rfl)
  obtain ⟨fuel1, hf1⟩ := h1
  obtain ⟨x1, w1⟩ := open_deeds (by simpa [Value.cells] using hf1)
  clear hA0 hval0
  refine (walk a0 len0 cap0 x0 a1 len1 cap1 x1 W w0 w1).mono fun e W' ⟨he, bel⟩ => ?_
  subst he
  exact ⟨_, rfl, _, _, _, [], _, [], hW', trodAll_mk1 (shut_bool Try.underlying4 _), (trodAll_cons_mk (Below.trod laidOut (by kernel_rfl) (of_decide_eq_true (by kernel_rfl)) k0 bel lt0) (trodAll_cons_mk (Below.trod laidOut (by kernel_rfl) (of_decide_eq_true (by kernel_rfl)) k1 bel lt1) trodAll_mk0)), rfl, bel.frame _, fun h => by cases h⟩

theorem over : Rows.ackForksRow.holds Try.pinned (OpenSpec.ofChange Rows.ackForksSpec) :=
  OpenClaim.holds_of_wide 9 Try.f9 rfl rfl rfl rfl rfl rfl rfl ⟨rfl, rfl, rfl, rfl, rfl⟩ rfl rfl rfl rfl rfl (by kernel_rfl) Try.func9 (by kernel_rfl)
    (of_decide_eq_true (by kernel_rfl)) (by unfold Func.isWrapper; first | (rw [if_pos (by decide +kernel)]; kernel_rfl) | (rw [if_neg (by decide +kernel)]; exact ⟨rfl, rfl⟩))
    (fun os started H enc _ => lifted os started H enc)

theorem proved : Rows.AckForksSaid := over
#print axioms proved
end Go.Proofs.Ytgkbkggegdmcgaa.vAckForks
