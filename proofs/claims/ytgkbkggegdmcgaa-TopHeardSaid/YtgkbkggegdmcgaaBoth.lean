/-
  The queue and the reference side by side; heliographlaw10.same.
-/
import Derived.Test.YtgkbkggegdmcgaaLive
namespace Go.Proofs.Ytgkbkggegdmcgaa
open Go.RowKit
set_option linter.unusedVariables false

/-- The queue at bq and the reference at br hold the same; they share no block. -/
structure Both (w : World) (bq br : Nat) (acked got : Int) (ss : List ByteArray) (fq fr : List Nat) : Prop where
  q : QRep w bq ((acked + ss.length) % 4294967296) got ss fq
  r : RRep w br acked got ss fr
  apart : ∀ k ∈ fq, k ∉ fr
  few : ss.length ≤ 16

theorem Both.keeps {w w' : World} {bq br : Nat} {acked got : Int} {ss : List ByteArray} {fq fr fp : List Nat} (h : Both w bq br acked got ss fq fr) (hk : Keeps w w' fp) (hq : ∀ k ∈ fq, k ∉ fp) (hr : ∀ k ∈ fr, k ∉ fp) :
    Both w' bq br acked got ss fq fr := ⟨h.q.keeps hk hq, h.r.keeps hk hr, h.apart, h.few⟩
theorem Both.nil {w w' : World} {bq br : Nat} {acked got : Int} {ss : List ByteArray} {fq fr : List Nat} (h : Both w bq br acked got ss fq fr) (hk : Keeps w w' []) : Both w' bq br acked got ss fq fr :=
  h.keeps hk (by simp) (by simp)

/-- what a call leaves that answers true and turns nothing that was there. -/
def Yes (w : World) (e : Ending) (w' : World) : Prop := e = .returned (.bool true) ∧ Keeps w w' []

set_option maxHeartbeats 800000 in
theorem same2_calls (bq br : Nat) (acked got : Int) (ss : List ByteArray) (fq fr : List Nat) (w : World) (hb : Both w bq br acked got ss fq fr) :
    Calls Try.prog 23 #[.pointer (some ⟨bq, 0, none⟩), .pointer (some ⟨br, 0, none⟩)] w (Yes w) := by
  have Hf := Lib.hid hb.few
  go_enter Try.func23, Try.ntmps23
  go_wp2_with fail
  refine (handled_calls bq _ got ss fq w hb.q).mono ?_
  rintro e w1 ⟨rfl, rfl⟩
  go_wp2_with fail
  refine (rhandled_calls br acked got ss fr w hb.r).mono ?_
  rintro e w1 ⟨rfl, rfl⟩
  go_wp2_with fail
  refine (sent_calls bq _ got ss fq w hb.q).mono ?_
  rintro e w1 ⟨rfl, rfl⟩
  go_wp2_with fail
  refine (rsent_calls br acked got ss fr w hb.r Hf.out).mono ?_
  rintro e w1 ⟨rfl, q, rfl⟩
  go_wp2_with fail
  refine (waiting_calls bq _ got ss fq _ (hb.q.keeps ((Keeps.refl w []).drewN q) (by simp)) Hf.out).mono ?_
  rintro e w1 ⟨v1, fv1, rfl, ho1, hk1, hf1⟩
  obtain ⟨A1, c1, rfl, -, fr1, hr1, -⟩ := ho1.form
  have hk1' := hk1.ofDrewN
  have H1 := Lib.hid (And.intro hk1' (And.intro ho1 hr1)); clear hk1 hk1' ho1 hf1 hr1
  go_wp2_with fail
  refine (rwaiting_calls br acked got ss fr w1 (hb.r.keeps H1.out.1 (by simp)) Hf.out).mono ?_
  rintro e w2 ⟨v2, fv2, rfl, ho2, hk2, hf2⟩
  obtain ⟨A2, c2, rfl, -, fr2, hr2, -⟩ := ho2.form
  have H2 := Lib.hid (And.intro hk2 hr2); clear hk2 ho2 hf2 hr2
  go_wp2_with fail
  refine (same_calls A1 A2 _ _ c1 c2 ss ss fr1 fr2 w2 (H1.out.2.2.keeps H2.out.1 (by simp)) H2.out.2 (by have := Hf.out; omega) (by have := Hf.out; omega)).mono ?_
  rintro e w3 ⟨rfl, q2, rfl⟩
  go_wp2_with fail
  go_ret
  exact ⟨by simp, (H1.out.1.trans H2.out.1 (by simp)).drewN _⟩

end Go.Proofs.Ytgkbkggegdmcgaa
