/-
  CONTRACTS: slots.Store: may, Save, Torn, Fork.
-/
import Derived.Test.YtecjhaohabjkbaaP11
namespace Go.Proofs.Ytecjhaohabjkbaa
open Go.RowKit
set_option linter.unusedVariables false

section
variable (g bd : Nat) (l : List Sec) (pend : List Wr) (fp : List Nat) (w : World)
set_option maxHeartbeats 800000 in set_option maxRecDepth 100000 in
set_option maxRecDepth 100000 in
theorem smay_full (A : Option Addr) (n c : Nat) (hs : St w g bd l pend fp) (hf : Fit 100000 l pend) (hn : n ≤ maxLen) (h : halfOf l * 64 < n) :
    Calls Try.prog 47 #[.pointer (some ⟨g, 0, none⟩), .slice A n c] w fun e w' => e = .returned (.int .i64 4) ∧ w = w' := by
  have hroom := room_calls g bd l pend fp w hs hf
  obtain ⟨R, hR⟩ : ∃ R, R = halfOf l * 64 := ⟨_, rfl⟩
  rw [← hR] at hroom h
  have hb : decide (R < n) = true := by simpa using h
  have H := Lib.hid hroom
  clear hs hf hroom hR h hn
  go_enter Try.func47, Try.ntmps47
  go_wp2_with fail
  refine Calls.mono H.out ?_
  rintro e w1 ⟨rfl, rfl⟩
  go_wp2_with fail
  go_ret
  exact ⟨rfl, rfl⟩
set_option maxHeartbeats 800000 in set_option maxRecDepth 100000 in
set_option maxRecDepth 100000 in
theorem smay_ok (A : Option Addr) (n c : Nat) (hs : St w g bd l pend fp) (hf : Fit 100000 l pend) (hn : n ≤ halfOf l * 64) (ht : (bestM (halfOf l) (land l pend)).2.2 + 1 < 18446744073709551616) :
    Calls Try.prog 47 #[.pointer (some ⟨g, 0, none⟩), .slice A n c] w fun e w' => e = .returned (.int .i64 0) ∧ Keeps w w' [] := by
  have hroom := room_calls g bd l pend fp w hs hf
  have hturn := turn_calls g bd l pend fp w hs hf
  obtain ⟨R, hR⟩ : ∃ R, R = halfOf l * 64 := ⟨_, rfl⟩
  obtain ⟨T, hT⟩ : ∃ T, T = (bestM (halfOf l) (land l pend)).2.2 := ⟨_, rfl⟩
  rw [← hR] at hroom hn
  rw [← hT] at hturn ht
  have hb : decide (R < n) = false := by simp; omega
  have hb2 : ((T : Int) == 18446744073709551615) = false := by simp; omega
  have hRl : R ≤ 131008 := by have := hf.len; rw [hR]; unfold halfOf; omega
  have hnl : n ≤ 131008 := by omega
  have H := Lib.hid (And.intro hroom hturn)
  clear hs hf hroom hturn hR hT hn ht
  go_enter Try.func47, Try.ntmps47
  go_wp2_with fail
  refine Calls.mono H.out.1 ?_
  rintro e w1 ⟨rfl, rfl⟩
  go_wp2_with fail
  refine Calls.mono H.out.2 ?_
  rintro e w2 ⟨rfl, hk2⟩
  have HK := Lib.hid hk2
  clear hk2
  go_wp2_with fail
  go_ret
  exact ⟨rfl, HK.out⟩

set_option maxHeartbeats 800000 in set_option maxRecDepth 100000 in
set_option maxRecDepth 100000 in
theorem saveM_full (A : Option Addr) (n c : Nat) (hs : St w g bd l pend fp) (hf : Fit 100000 l pend) (hn : n ≤ maxLen) (h : halfOf l * 64 < n) :
    Calls Try.prog 17 #[.pointer (some ⟨g, 0, none⟩), .slice A n c] w fun e w' => e = .returned (.int .i64 4) ∧ w = w' := by
  have H := Lib.hid (smay_full g bd l pend fp w A n c hs hf hn h)
  clear hs hf hn h
  go_enter Try.func17, Try.ntmps17
  go_wp2_with fail
  refine Calls.mono H.out ?_
  rintro e w1 ⟨rfl, rfl⟩
  go_wp2_with fail
  go_ret
  exact ⟨rfl, rfl⟩
theorem nch_le_self (n : Nat) : nch n ≤ n := by unfold nch; omega
set_option maxHeartbeats 800000 in set_option maxRecDepth 100000 in
set_option maxRecDepth 100000 in
theorem saveM_ok (A : Option Addr) (n c : Nat) (bs : List Int) (fr : List Nat) (hs : St w g bd l pend fp) (hf : Fit 50000 l pend) (hr : Reads w 1 A n (bytes bs) fr) (hwf : Wf8 bs) (hdis : ∀ k ∈ fr, k ∉ fp)
    (hn : n ≤ halfOf l * 64) (hc : n ≤ c) (ht : (bestM (halfOf l) (land l pend)).2.2 + 1 < 18446744073709551616) :
    Calls Try.prog 17 #[.pointer (some ⟨g, 0, none⟩), .slice A n c] w fun e w' => e = .returned (.int .i64 0) ∧ SS w fp g bd (saveTo l pend bs none).1 (saveTo l pend bs none).2 w' := by
  have hlen : bs.length = n := by have := hr.1; rw [bytes_length, Nat.mul_one] at this; exact this
  have hnl : n ≤ 131008 := by have := hf.len; unfold halfOf at hn; omega
  have hmay := smay_ok g bd l pend fp w A n c hs (hf.mono (by omega)) hn ht
  have hsave := fun (w' : World) (hk : Keeps w w' []) => save_calls g bd l pend fp w' A n c bs fr (n + 1) (by omega) (hs.nil hk) hf (hr.keeps hk (by simp)) hwf hdis hn hc ht
  have hfit := hf.saved hwf (by rw [hlen]; exact hn) (some (n + 1))
  have hend : (land (saveTo l pend bs (some (n + 1))).1 (saveTo l pend bs (some (n + 1))).2, ([] : List Wr)) = saveTo l pend bs none := by
    unfold saveTo
    simp only
    rw [if_neg (by rw [dataW_length, hlen]; have := nch_le_self n; omega)]
  have hl2 : (saveTo l pend bs (some (n + 1))).1.length = l.length := saveTo_length _ _ _ _
  obtain ⟨L2, hL2⟩ : ∃ x, x = (saveTo l pend bs (some (n + 1))).1 := ⟨_, rfl⟩
  obtain ⟨P2, hP2⟩ : ∃ x, x = (saveTo l pend bs (some (n + 1))).2 := ⟨_, rfl⟩
  rw [← hL2, ← hP2] at hfit hend
  rw [← hL2] at hl2
  simp only [← hL2, ← hP2] at hsave
  have H := Lib.hid (And.intro hmay (And.intro hsave (And.intro hfit (And.intro hend hl2))))
  clear hs hf hr hwf hdis hn hc ht hlen hmay hsave hfit hend hl2 hL2 hP2
  go_enter Try.func17, Try.ntmps17
  go_wp2_with fail
  refine Calls.mono H.out.1 ?_
  rintro e w1 ⟨rfl, hk1⟩
  have HK := Lib.hid hk1
  clear hk1
  go_wp2_with fail
  refine Calls.mono (H.out.2.1 w1 HK.out) ?_
  rintro e w2 ⟨⟨d, rfl⟩, hS2⟩
  obtain ⟨fd, hrr, hfd, c0, c1, back⟩ := hS2.dev
  have hfit := H.out.2.2.1
  have hsy := sync_ok bd L2 (land L2 P2) P2 fd w2 hrr hfit.len (Nat.le_trans hfit.few (by omega)) (fun x hx => (hfit.pw x hx).2)
  have HSY := Lib.hid (And.intro hsy back)
  clear hS2 hrr hfd back hsy hfit c1
  go_wp2_with fail
  refine Calls.mono HSY.out.1 ?_
  intro e w3 hst
  obtain ⟨rfl, hS3⟩ := HSY.out.2 _ e w3 (land L2 P2) [] (by rw [land_length]) hst
  have H3 := Lib.hid hS3
  clear hS3 hst c0
  go_wp2_with fail
  go_ret
  refine ⟨rfl, SS.first HK.out ?_⟩
  rw [← H.out.2.2.2.1]
  exact H3.out

set_option maxHeartbeats 800000 in set_option maxRecDepth 100000 in
set_option maxRecDepth 100000 in
theorem torn_full (A B : Option Addr) (n c m d : Nat) (W : Int) (hs : St w g bd l pend fp) (hf : Fit 100000 l pend) (hn : n ≤ maxLen) (h : halfOf l * 64 < n) :
    Calls Try.prog 28 #[.pointer (some ⟨g, 0, none⟩), .slice A n c, .int .i64 W, .slice B m d] w fun e w' => e = .returned (.int .i64 4) ∧ w = w' := by
  have H := Lib.hid (smay_full g bd l pend fp w A n c hs hf hn h)
  clear hs hf hn h
  go_enter Try.func28, Try.ntmps28
  go_wp2_with fail
  refine Calls.mono H.out ?_
  rintro e w1 ⟨rfl, rfl⟩
  go_wp2_with fail
  go_ret
  exact ⟨rfl, rfl⟩
set_option maxHeartbeats 800000 in set_option maxRecDepth 100000 in
set_option maxRecDepth 100000 in
theorem torn_range (A B : Option Addr) (n c m d : Nat) (W : Int) (hs : St w g bd l pend fp) (hf : Fit 100000 l pend) (hn : n ≤ halfOf l * 64) (ht : (bestM (halfOf l) (land l pend)).2.2 + 1 < 18446744073709551616) (hW : W < 0) :
    Calls Try.prog 28 #[.pointer (some ⟨g, 0, none⟩), .slice A n c, .int .i64 W, .slice B m d] w fun e w' => e = .returned (.int .i64 2) ∧ Keeps w w' [] := by
  have H := Lib.hid (smay_ok g bd l pend fp w A n c hs hf hn ht)
  clear hs hf hn ht
  go_enter Try.func28, Try.ntmps28
  go_wp2_with fail
  refine Calls.mono H.out ?_
  rintro e w1 ⟨rfl, hk⟩
  have HK := Lib.hid hk
  clear hk
  go_wp2_with fail
  go_ret
  exact ⟨rfl, HK.out⟩
set_option maxHeartbeats 800000 in set_option maxRecDepth 100000 in
set_option maxRecDepth 100000 in
theorem torn_ok (A B : Option Addr) (n c d : Nat) (bs : List Int) (fr : List Nat) (sv : List Bool) (fs : List Nat) (W : Nat) (hWm : W ≤ 9223372036854775807) (hs : St w g bd l pend fp) (hf : Fit 50000 l pend) (hr : Reads w 1 A n (bytes bs) fr) (hwf : Wf8 bs) (hdis : ∀ k ∈ fr, k ∉ fp)
    (hS : Reads w 1 B sv.length (bools sv) fs) (hsl : sv.length ≤ maxLen) (hds : ∀ k ∈ fs, k ∉ fp) (hlow : ∀ k ∈ fs, k < w.heap.size)
    (hn : n ≤ halfOf l * 64) (hc : n ≤ c) (ht : (bestM (halfOf l) (land l pend)).2.2 + 1 < 18446744073709551616) :
    Calls Try.prog 28 #[.pointer (some ⟨g, 0, none⟩), .slice A n c, .int .i64 W, .slice B sv.length d] w fun e w' => e = .returned (.int .i64 0) ∧
      SS w fp g bd (land (saveTo l pend bs (some W)).1 (surv (saveTo l pend bs (some W)).2 sv)) [] w' := by
  have hlen : bs.length = n := by have := hr.1; rw [bytes_length, Nat.mul_one] at this; exact this
  have hmay := smay_ok g bd l pend fp w A n c hs (hf.mono (by omega)) hn ht
  have hsave := fun (w' : World) (hk : Keeps w w' []) => save_calls g bd l pend fp w' A n c bs fr W hWm (hs.nil hk) hf (hr.keeps hk (by simp)) hwf hdis hn hc ht
  have hfit := hf.saved hwf (by rw [hlen]; exact hn) (some W)
  have hl2 : (saveTo l pend bs (some W)).1.length = l.length := saveTo_length _ _ _ _
  have hW0 : (0 : Int) ≤ (W : Int) := by omega
  obtain ⟨L2, hL2⟩ : ∃ x, x = (saveTo l pend bs (some W)).1 := ⟨_, rfl⟩
  obtain ⟨P2, hP2⟩ : ∃ x, x = (saveTo l pend bs (some W)).2 := ⟨_, rfl⟩
  rw [← hL2, ← hP2] at hfit ⊢
  rw [← hL2] at hl2
  simp only [← hL2, ← hP2] at hsave
  have H := Lib.hid (And.intro hmay (And.intro hsave (And.intro hfit (And.intro hS (And.intro hds (And.intro hlow hsl))))))
  clear hs hf hr hwf hdis hn hc ht hlen hmay hsave hfit hl2 hL2 hP2 hS hds hlow hsl hWm
  go_enter Try.func28, Try.ntmps28
  go_wp2_with fail
  refine Calls.mono H.out.1 ?_
  rintro e w1 ⟨rfl, hk1⟩
  have HK := Lib.hid hk1
  clear hk1
  go_wp2_with fail
  refine Calls.mono (H.out.2.1 w1 HK.out) ?_
  rintro e w2 ⟨⟨dn, rfl⟩, hS2⟩
  obtain ⟨fd, hrr, hfd, c0, c1, back⟩ := hS2.dev
  have hsv : Reads w2 1 B sv.length (bools sv) fs := by
    obtain ⟨fp', h1, h2, h3⟩ := hS2
    exact (H.out.2.2.2.1.keeps HK.out (by simp)).keeps h2 H.out.2.2.2.2.1
  have hfit := H.out.2.2.1
  have hcr := crash_ok B d sv fs bd L2 (land L2 P2) P2 fd w2 hrr hsv H.out.2.2.2.2.2.2 (fun k hk hm => by
    have h1 := H.out.2.2.2.2.1 k hk
    have h2 := H.out.2.2.2.2.2.1 k hk
    have h3 := HK.out.size
    rcases hfd k hm with h | h
    · exact h1 h
    · omega) hfit.len (Nat.le_trans hfit.few (by omega)) (fun x hx => (hfit.pw x hx).2)
  have HSY := Lib.hid (And.intro hcr back)
  clear hS2 hrr hfd back hcr hfit c1 hsv
  go_wp2_with fail
  refine Calls.mono HSY.out.1 ?_
  intro e w3 hst
  obtain ⟨rfl, hS3⟩ := HSY.out.2 _ e w3 (land L2 (surv P2 sv)) [] (by rw [land_length]) hst
  have H3 := Lib.hid hS3
  clear hS3 hst c0
  go_wp2_with fail
  go_ret
  exact ⟨rfl, SS.first HK.out H3.out⟩
set_option maxHeartbeats 800000 in set_option maxRecDepth 100000 in
set_option maxRecDepth 100000 in
theorem sfork_ok (hs : St w g bd l pend fp) (hf : Fit 100000 l pend) :
    Calls Try.prog 30 #[.pointer (some ⟨g, 0, none⟩)] w (Opened w l pend) := by
  obtain ⟨fd, hb, hd, hg, rfl⟩ := hs
  have hfk := fork_ok bd l (land l pend) pend fd w.drew (hd.nil ((Keeps.refl w []).drew)) hf.len (by rw [land_length]; exact hf.len) hf.few
  have H := Lib.hid (And.intro hfk hb)
  clear hfk
  have c0 : w.cell? ⟨g, 0, none⟩ = some (.pointer (some ⟨bd, 0, none⟩)) := hb.cell 0
  have c1 : w.cell? ⟨g, 1, none⟩ = some (.int .i64 (halfOf l)) := hb.cell 1
  clear hb hd hg hf
  go_enter Try.func30, Try.ntmps30
  go_wp2_with fail
  go_region_held3 (fun w' => w'.cell? ⟨g, 0, none⟩ = some (.pointer (some ⟨bd, 0, none⟩)) ∧ w'.cell? ⟨g, 1, none⟩ = some (.int .i64 (halfOf l))) (go_keep)
    ((go_at_call 46
      refine Calls.mono H.out.1 ?_
      rintro e w1 ⟨b1, f1, rfl, hr1, hk1, hn1⟩
      have hb1 := H.out.2.drew.keeps hk1 (by simp)
      have d0 : w1.cell? ⟨g, 0, none⟩ = some (.pointer (some ⟨bd, 0, none⟩)) := hb1.cell 0
      have d1 : w1.cell? ⟨g, 1, none⟩ = some (.int .i64 (halfOf l)) := hb1.cell 1
      have H1 := Lib.hid (And.intro hr1 (And.intro hk1 hn1))
      clear hr1 hk1 hn1 hb1))
  all_goals
    clear c0 c1 d0 d1
    go_wp2_with fail
    go_ret
    exact opened_mk H1.out.1 H1.out.2.1.ofDrew H1.out.2.2
end

end Go.Proofs.Ytecjhaohabjkbaa
