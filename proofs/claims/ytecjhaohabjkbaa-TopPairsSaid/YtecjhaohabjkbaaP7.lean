/-
  CONTRACTS: heliographref08.Store: the, Load, Turn, Room.
-/
import Derived.Test.YtecjhaohabjkbaaP6
import Derived.Test.YtecjhaohabjkbaaPM
namespace Go.Proofs.Ytecjhaohabjkbaa
open Go.RowKit
set_option linter.unusedVariables false

/-- the store's state, in order. -/
structure RGood (w : World) (g bd : Nat) (l : List Sec) (pend : List Wr) (fp : List Nat) : Prop where
  st : RSt w g bd l pend fp
  fit : Fit 100000 l pend
theorem RGood.nil {w w' : World} {g bd : Nat} {l : List Sec} {pend : List Wr} {fp : List Nat} (h : RGood w g bd l pend fp) (hk : Keeps w w' []) : RGood w' g bd l pend fp := ⟨h.st.nil hk, h.fit⟩

/-- what the leaves. -/
def RTheLeft (w : World) (half : Nat) (now : List Sec) (e : Ending) (w' : World) : Prop :=
  ∃ (a : Int) (A : Option Addr) (c : Nat) (fr : List Nat), e = .returned (.tuple #[.int .i64 a, .slice A (bestM half now).2.1.length c, .int .u64 (bestM half now).2.2]) ∧ Reads w' 1 A (bestM half now).2.1.length (bytes (bestM half now).2.1) fr ∧
    (∀ j ∈ fr, w.heap.size ≤ j) ∧ Keeps w w' [] ∧ (bestM half now).2.1.length ≤ c ∧ (if (bestM half now).2.2 = 0 then a = -1 else a = (bestM half now).1)
theorem holdM_nil (half : Nat) (now : List Sec) (k : Nat) (h : (holdM half now k).2 = 0) : (holdM half now k).1 = [] := by
  unfold holdM at h ⊢
  split
  · rfl
  · rename_i h0
    split
    · rename_i h1
      rw [if_neg h0, if_pos h1] at h
      exact absurd (.inl h) h0
    · rfl

section
variable (g bd : Nat) (l : List Sec) (pend : List Wr) (fp : List Nat) (w : World)
set_option maxHeartbeats 800000 in set_option maxRecDepth 100000 in
set_option maxRecDepth 100000 in
theorem rthe_calls (hs : RGood w g bd l pend fp) :
    Calls Try.prog 71 #[.pointer (some ⟨g, 0, none⟩)] w (RTheLeft w (halfOf l) (land l pend)) := by
  have h0 := rslot_calls g bd l pend fp w 0 (halfOf l) (land l pend) hs.st rfl hs.fit.four hs.fit.len hs.fit.few hs.fit.now rfl (by omega)
  have h1 := fun (w1 : World) (hk : Keeps w w1 []) => rslot_calls g bd l pend fp w1 1 (halfOf l) (land l pend) (hs.st.nil hk) rfl hs.fit.four hs.fit.len hs.fit.few hs.fit.now rfl (by omega)
  obtain ⟨half, hh⟩ : ∃ h, h = halfOf l := ⟨_, rfl⟩
  obtain ⟨now, hnow⟩ : ∃ h, h = land l pend := ⟨_, rfl⟩
  rw [← hh, ← hnow] at h0 ⊢
  simp only [← hh, ← hnow] at h1
  have H := Lib.hid (And.intro h0 h1)
  clear h0 h1 hh hnow hs
  go_enter Try.func71, Try.ntmps71
  go_wp2_with fail
  refine Calls.mono H.out.1 ?_
  rintro e w1 ⟨A0, c0, fr0, rfl, hr0, hf0, hk0, hc0⟩
  have H0 := Lib.hid (And.intro hr0 (And.intro hf0 (And.intro hk0 hc0)))
  clear hr0 hf0 hk0 hc0
  go_wp2_with fail
  refine Calls.mono (H.out.2 w1 H0.out.2.2.1) ?_
  rintro e w2 ⟨A1, c1, fr1, rfl, hr1, hf1, hk1, hc1⟩
  have H1 := Lib.hid (And.intro hr1 (And.intro hf1 (And.intro hk1 hc1)))
  clear hr1 hf1 hk1 hc1
  have hK := H0.out.2.2.1.trans H1.out.2.2.1 (by simp)
  obtain ⟨T, hT⟩ : ∃ T, T = (holdM half now 0).2 := ⟨_, rfl⟩
  obtain ⟨U, hU⟩ : ∃ U, U = (holdM half now 1).2 := ⟨_, rfl⟩
  have hs1 := H0.out.2.2.1.size
  have HTU := Lib.hid (And.intro hT (And.intro hU (And.intro hK hs1)))
  rw [← hT, ← hU]
  clear hT hU hK hs1
  by_cases hz : T = 0 ∧ U = 0
  · obtain ⟨rfl, rfl⟩ := hz
    go_wp2_with fail
    go_ret3
    obtain ⟨hT, hU, hK, hs1⟩ := HTU.out
    have e : bestM half now = (0, holdM half now 0) := by unfold bestM; rw [if_neg (by omega)]
    have e2 := holdM_nil half now 0 hT.symm
    exact ⟨-1, none, 0, [], by rw [e, e2, ← hT]; rfl, by rw [e, e2]; exact Reads.zero _ _ _, by simp, hK, by rw [e, e2]; simp, by rw [e, ← hT]; simp⟩
  · have hz1 : 0 < T → ((T : Int) == 0) = false := fun h => by simp; omega
    have hz2 : 0 < U → ((U : Int) == 0) = false := fun h => by simp; omega
    by_cases hlt : T < U
    · have e : bestM half now = (1, holdM half now 1) := by unfold bestM; rw [if_pos (by rw [← HTU.out.1, ← HTU.out.2.1]; exact hlt)]
      have hb1 : decide (T < U) = true := by simpa using hlt
      have hb2 := hz2 (by omega)
      have HE := Lib.hid e
      clear e hz1 hz2
      by_cases hT0 : T = 0
      · subst hT0
        have hlt3 : ((0 : Nat) : Int) < (U : Int) := by omega
        clear hz hlt
        go_wp2_with fail
        go_ret3
        obtain ⟨hT, hU, hK, hs1⟩ := HTU.out
        refine ⟨1, A1, c1, fr1, by rw [HE.out, hU]; rfl, by rw [HE.out]; exact H1.out.1, fun j hj => Nat.le_trans hs1 (H1.out.2.1 j hj), hK, by rw [HE.out]; exact H1.out.2.2.2, ?_⟩
        rw [HE.out, ← hU, if_neg (by omega)]; rfl
      · have hb3 : ((T : Int) == 0) = false := by simp; omega
        clear hz hlt hT0
        go_wp2_with fail
        go_ret3
        obtain ⟨hT, hU, hK, hs1⟩ := HTU.out
        have hl2 : 0 < U := by simp at hb2; omega
        refine ⟨1, A1, c1, fr1, by rw [HE.out, hU]; rfl, by rw [HE.out]; exact H1.out.1, fun j hj => Nat.le_trans hs1 (H1.out.2.1 j hj), hK, by rw [HE.out]; exact H1.out.2.2.2, ?_⟩
        rw [HE.out, ← hU, if_neg (by omega)]; rfl
    · have e : bestM half now = (0, holdM half now 0) := by unfold bestM; rw [if_neg (by rw [← HTU.out.1, ← HTU.out.2.1]; exact hlt)]
      have hb1 : decide (T < U) = false := by simpa using hlt
      have hT0 : 0 < T := by omega
      have hb2 := hz1 hT0
      have HE := Lib.hid (And.intro e hT0)
      clear e hz1 hz2 hT0 hz hlt
      go_wp2_with fail
      go_ret3
      obtain ⟨hT, hU, hK, hs1⟩ := HTU.out
      refine ⟨0, A0, c0, fr0, by rw [HE.out.1, hT]; rfl, by rw [HE.out.1]; exact H0.out.1.keeps H1.out.2.2.1 (by simp), H0.out.2.1, hK, by rw [HE.out.1]; exact H0.out.2.2.2, ?_⟩
      rw [HE.out.1, ← hT, if_neg (by have := HE.out.2; omega)]; rfl

/-- what Load leaves: the bytes. -/
def LoadLeft (w : World) (bs : List Int) (e : Ending) (w' : World) : Prop :=
  ∃ (A : Option Addr) (c : Nat) (fr : List Nat), e = .returned (.slice A bs.length c) ∧ Reads w' 1 A bs.length (bytes bs) fr ∧ (∀ j ∈ fr, w.heap.size ≤ j) ∧ Keeps w w' []
theorem rload_calls (hs : RGood w g bd l pend fp) :
    Calls Try.prog 56 #[.pointer (some ⟨g, 0, none⟩)] w (LoadLeft w (bestM (halfOf l) (land l pend)).2.1) := by
  have H := Lib.hid (rthe_calls g bd l pend fp w hs)
  clear hs
  go_enter Try.func56, Try.ntmps56
  go_wp2_with fail
  refine Calls.mono H.out ?_
  rintro e w1 ⟨a, A, c, fr, rfl, hr, hf, hk, hc, ha⟩
  have HK := Lib.hid (And.intro hr (And.intro hf hk))
  clear hr hf hk hc ha
  go_wp2_with fail
  go_ret
  exact ⟨A, c, fr, rfl, HK.out.1, HK.out.2.1, HK.out.2.2⟩
theorem rturn_calls (hs : RGood w g bd l pend fp) :
    Calls Try.prog 57 #[.pointer (some ⟨g, 0, none⟩)] w fun e w' => e = .returned (.int .u64 (bestM (halfOf l) (land l pend)).2.2) ∧ Keeps w w' [] := by
  have H := Lib.hid (rthe_calls g bd l pend fp w hs)
  clear hs
  go_enter Try.func57, Try.ntmps57
  go_wp2_with fail
  refine Calls.mono H.out ?_
  rintro e w1 ⟨a, A, c, fr, rfl, hr, hf, hk, hc, ha⟩
  have HK := Lib.hid (And.intro hr (And.intro hf hk))
  clear hr hf hk hc ha
  go_wp2_with fail
  go_ret
  exact ⟨rfl, HK.out.2.2⟩
theorem rroom_calls (hs : RGood w g bd l pend fp) :
    Calls Try.prog 58 #[.pointer (some ⟨g, 0, none⟩)] w fun e w' => e = .returned (.int .i64 (halfOf l * 64 : Nat)) ∧ w = w' := by
  have h1 := rhalf_calls g bd l pend fp w hs.st hs.fit.four hs.fit.len
  obtain ⟨h, hh⟩ : ∃ h, h = halfOf l := ⟨_, rfl⟩
  have hl : h ≤ 2047 := by have := hs.fit.len; rw [hh]; unfold halfOf; omega
  have h1 : Calls Try.prog 72 #[.pointer (some ⟨g, 0, none⟩)] w fun e w' => e = .returned (.int .i64 (h : Nat)) ∧ w = w' := by rw [hh]; exact h1
  rw [← hh]
  have H := Lib.hid h1
  clear hs h1 hh
  go_enter Try.func58, Try.ntmps58
  go_wp2_with fail
  refine Calls.mono H.out ?_
  rintro e w1 ⟨rfl, rfl⟩
  go_wp2_with fail
  go_ret
  exact ⟨by simp, rfl⟩
end

end Go.Proofs.Ytecjhaohabjkbaa
