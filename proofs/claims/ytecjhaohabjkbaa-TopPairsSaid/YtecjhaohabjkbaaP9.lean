/-
  CONTRACTS: heliographref08.Store: Save, Torn, Device, Open.
-/
import Derived.Test.YtecjhaohabjkbaaP8
namespace Go.Proofs.Ytecjhaohabjkbaa
open Go.RowKit
set_option linter.unusedVariables false

section
variable (g bd : Nat) (l : List Sec) (pend : List Wr) (fp : List Nat) (w : World)
set_option maxHeartbeats 800000 in set_option maxRecDepth 100000 in
set_option maxRecDepth 100000 in
/-- no room, or no turn left. -/
theorem rsaveM_full (A : Option Addr) (n c : Nat) (hs : RSt w g bd l pend fp) (hf : Fit 50000 l pend) (hn : n ≤ 1000000) (h : halfOf l * 64 < n) :
    Calls Try.prog 36 #[.pointer (some ⟨g, 0, none⟩), .slice A n c] w fun e w' => e = .returned (.int .i64 4) ∧ Keeps w w' [] := by
  have hroom := rroom_calls g bd l pend fp w ⟨hs, hf.mono (by omega)⟩
  obtain ⟨R, hR⟩ : ∃ R, R = halfOf l * 64 := ⟨_, rfl⟩
  rw [← hR] at hroom h
  have hb : decide (R < n) = true := by simpa using h
  have H := Lib.hid hroom
  clear hs hf hroom hR h
  go_enter Try.func36, Try.ntmps36
  go_wp2_with fail
  refine Calls.mono H.out ?_
  rintro e w1 ⟨rfl, rfl⟩
  go_wp2_with fail
  go_ret
  exact ⟨rfl, Keeps.refl _ _⟩
set_option maxHeartbeats 800000 in set_option maxRecDepth 100000 in
set_option maxRecDepth 100000 in
theorem rsaveM_ok (A : Option Addr) (n c : Nat) (bs : List Int) (fr : List Nat) (hs : RSt w g bd l pend fp) (hf : Fit 50000 l pend) (hr : Reads w 1 A n (bytes bs) fr) (hwf : Wf8 bs) (hdis : ∀ k ∈ fr, k ∉ fp)
    (hn : n ≤ halfOf l * 64) (ht : (bestM (halfOf l) (land l pend)).2.2 + 1 < 18446744073709551616) :
    Calls Try.prog 36 #[.pointer (some ⟨g, 0, none⟩), .slice A n c] w fun e w' => e = .returned (.int .i64 0) ∧ RSS w fp g bd (saveTo l pend bs none).1 (saveTo l pend bs none).2 w' := by
  have hroom := rroom_calls g bd l pend fp w ⟨hs, hf.mono (by omega)⟩
  have hturn := rturn_calls g bd l pend fp w ⟨hs, hf.mono (by omega)⟩
  have hsave := fun (w' : World) (hk : Keeps w w' []) => rsave_calls g bd l pend fp w' A n c bs fr false 0 (hs.nil hk) hf (hr.keeps hk (by simp)) hwf hdis hn ht
  obtain ⟨R, hR⟩ : ∃ R, R = halfOf l * 64 := ⟨_, rfl⟩
  obtain ⟨T, hT⟩ : ∃ T, T = (bestM (halfOf l) (land l pend)).2.2 := ⟨_, rfl⟩
  rw [← hR] at hroom hn
  rw [← hT] at hturn ht
  have hb : decide (R < n) = false := by simp; omega
  have hb2 : ((T : Int) == 18446744073709551615) = false := by simp; omega
  have hRl : R ≤ 131008 := by have := hf.len; rw [hR]; unfold halfOf; omega
  have hnl : n ≤ 131008 := by omega
  have H := Lib.hid (And.intro hroom (And.intro hturn hsave))
  clear hs hf hroom hturn hsave hR hT hn ht hr hdis hwf
  go_enter Try.func36, Try.ntmps36
  go_wp2_with fail
  refine Calls.mono H.out.1 ?_
  rintro e w1 ⟨rfl, rfl⟩
  go_wp2_with fail
  refine Calls.mono H.out.2.1 ?_
  rintro e w2 ⟨rfl, hk2⟩
  have HK := Lib.hid hk2
  clear hk2
  go_wp2_with fail
  refine Calls.mono (H.out.2.2 w2 HK.out) ?_
  rintro e w3 ⟨rfl, hS⟩
  have HS := Lib.hid hS
  clear hS
  go_wp2_with fail
  go_ret
  obtain ⟨fp', h1, h2, h3⟩ := HS.out
  have hsz := HK.out.size
  exact ⟨rfl, fp', h1, (HK.out.mono (fp1 := fp) (by simp)).trans h2 (fun _ _ h => h), fun k hk => by
    rcases h3 k hk with h | h
    · exact .inl h
    · right; omega⟩

set_option maxHeartbeats 800000 in set_option maxRecDepth 100000 in
set_option maxRecDepth 100000 in
theorem rtorn_full (A B : Option Addr) (n c m d : Nat) (W : Int) (hs : RSt w g bd l pend fp) (hf : Fit 50000 l pend) (hn : n ≤ 1000000) (h : halfOf l * 64 < n) :
    Calls Try.prog 59 #[.pointer (some ⟨g, 0, none⟩), .slice A n c, .int .i64 W, .slice B m d] w fun e w' => e = .returned (.int .i64 4) ∧ Keeps w w' [] := by
  have hroom := rroom_calls g bd l pend fp w ⟨hs, hf.mono (by omega)⟩
  obtain ⟨R, hR⟩ : ∃ R, R = halfOf l * 64 := ⟨_, rfl⟩
  rw [← hR] at hroom h
  have hb : decide (R < n) = true := by simpa using h
  have H := Lib.hid hroom
  clear hs hf hroom hR h
  go_enter Try.func59, Try.ntmps59
  go_wp2_with fail
  refine Calls.mono H.out ?_
  rintro e w1 ⟨rfl, rfl⟩
  go_wp2_with fail
  go_ret
  exact ⟨rfl, Keeps.refl _ _⟩
set_option maxHeartbeats 800000 in set_option maxRecDepth 100000 in
set_option maxRecDepth 100000 in
theorem rtorn_range (A B : Option Addr) (n c m d : Nat) (W : Int) (hs : RSt w g bd l pend fp) (hf : Fit 50000 l pend) (hn : n ≤ halfOf l * 64) (ht : (bestM (halfOf l) (land l pend)).2.2 + 1 < 18446744073709551616) (hW : W < 0) :
    Calls Try.prog 59 #[.pointer (some ⟨g, 0, none⟩), .slice A n c, .int .i64 W, .slice B m d] w fun e w' => e = .returned (.int .i64 2) ∧ Keeps w w' [] := by
  have hroom := rroom_calls g bd l pend fp w ⟨hs, hf.mono (by omega)⟩
  have hturn := rturn_calls g bd l pend fp w ⟨hs, hf.mono (by omega)⟩
  obtain ⟨R, hR⟩ : ∃ R, R = halfOf l * 64 := ⟨_, rfl⟩
  obtain ⟨T, hT⟩ : ∃ T, T = (bestM (halfOf l) (land l pend)).2.2 := ⟨_, rfl⟩
  rw [← hR] at hroom hn
  rw [← hT] at hturn ht
  have hb : decide (R < n) = false := by simp; omega
  have hb2 : ((T : Int) == 18446744073709551615) = false := by simp; omega
  have hRl : R ≤ 131008 := by have := hf.len; rw [hR]; unfold halfOf; omega
  have hnl : n ≤ 131008 := by omega
  have H := Lib.hid (And.intro hroom hturn)
  clear hs hf hroom hturn hR hT hn ht
  go_enter Try.func59, Try.ntmps59
  go_wp2_with fail
  refine Calls.mono H.out.1 ?_
  rintro e w1 ⟨rfl, rfl⟩
  go_wp2_with fail
  refine Calls.mono H.out.2 ?_
  rintro e w2 ⟨rfl, hk2⟩
  have HK := Lib.hid hk2
  clear hk2
  go_wp2_with fail
  go_ret
  exact ⟨rfl, HK.out⟩
set_option maxHeartbeats 800000 in set_option maxRecDepth 100000 in
set_option maxRecDepth 100000 in
theorem rtorn_ok (A B : Option Addr) (n c d : Nat) (bs : List Int) (fr : List Nat) (sv : List Bool) (fs : List Nat) (W : Nat) (hs : RSt w g bd l pend fp) (hf : Fit 50000 l pend) (hr : Reads w 1 A n (bytes bs) fr) (hwf : Wf8 bs) (hdis : ∀ k ∈ fr, k ∉ fp)
    (hS : Reads w 1 B sv.length (bools sv) fs) (hds : ∀ k ∈ fs, k ∉ fp)
    (hn : n ≤ halfOf l * 64) (ht : (bestM (halfOf l) (land l pend)).2.2 + 1 < 18446744073709551616) :
    Calls Try.prog 59 #[.pointer (some ⟨g, 0, none⟩), .slice A n c, .int .i64 W, .slice B sv.length d] w fun e w' => e = .returned (.int .i64 0) ∧
      RSS w fp g bd (land (saveTo l pend bs (some W)).1 (surv (saveTo l pend bs (some W)).2 sv)) [] w' := by
  have hroom := rroom_calls g bd l pend fp w ⟨hs, hf.mono (by omega)⟩
  have hturn := rturn_calls g bd l pend fp w ⟨hs, hf.mono (by omega)⟩
  have hsave := fun (w' : World) (hk : Keeps w w' []) => rsave_calls g bd l pend fp w' A n c bs fr true W (hs.nil hk) hf (hr.keeps hk (by simp)) hwf hdis hn ht
  have hlen : bs.length = n := by have := hr.1; rw [bytes_length, Nat.mul_one] at this; exact this
  have hfit := hf.saved hwf (by rw [hlen]; exact hn) (some W)
  obtain ⟨R, hR⟩ : ∃ R, R = halfOf l * 64 := ⟨_, rfl⟩
  obtain ⟨T, hT⟩ : ∃ T, T = (bestM (halfOf l) (land l pend)).2.2 := ⟨_, rfl⟩
  rw [← hR] at hroom hn
  rw [← hT] at hturn ht
  have hb : decide (R < n) = false := by simp; omega
  have hb2 : ((T : Int) == 18446744073709551615) = false := by simp; omega
  have hRl : R ≤ 131008 := by have := hf.len; rw [hR]; unfold halfOf; omega
  have hnl : n ≤ 131008 := by omega
  have hW0 : (0 : Int) ≤ (W : Int) := by omega
  obtain ⟨L2, hL2⟩ : ∃ x, x = (saveTo l pend bs (some W)).1 := ⟨_, rfl⟩
  obtain ⟨P2, hP2⟩ : ∃ x, x = (saveTo l pend bs (some W)).2 := ⟨_, rfl⟩
  have hsave : ∀ (w' : World), Keeps w w' [] → Calls Try.prog 62 #[.pointer (some ⟨g, 0, none⟩), .slice A n c, .bool true, .int .i64 W] w' fun e w'' => e = .returned (.tuple #[]) ∧ RSS w' fp g bd L2 P2 w'' := by
    intro w' hk; rw [hL2, hP2]; exact hsave w' hk
  rw [← hL2, ← hP2] at hfit ⊢
  have H := Lib.hid (And.intro hroom (And.intro hturn (And.intro hsave (And.intro hfit (And.intro hS hds)))))
  clear hs hf hroom hturn hsave hR hT hn ht hr hdis hwf hlen hfit hL2 hP2 hS hds
  go_enter Try.func59, Try.ntmps59
  go_wp2_with fail
  refine Calls.mono H.out.1 ?_
  rintro e w1 ⟨rfl, rfl⟩
  go_wp2_with fail
  refine Calls.mono H.out.2.1 ?_
  rintro e w2 ⟨rfl, hk2⟩
  have HK := Lib.hid hk2
  clear hk2
  go_wp2_with fail
  refine Calls.mono (H.out.2.2.1 w2 HK.out) ?_
  rintro e w3 ⟨rfl, hS3⟩
  obtain ⟨fd, hrr, hfd, c0, back⟩ := hS3.dev
  have hsv3 : Reads w3 1 B sv.length (bools sv) fs := by
    obtain ⟨fp', h1, h2, h3⟩ := hS3
    exact (H.out.2.2.2.2.1.keeps HK.out (by simp)).keeps h2 H.out.2.2.2.2.2
  have hfit := H.out.2.2.2.1
  have hcr := rcrash_ok B d sv fs bd L2 P2 fd w3 hrr hsv3 hfit.len (Nat.le_trans hfit.few (by omega)) (fun x hx => (hfit.pw x hx).2)
  have HC := Lib.hid (And.intro hcr back)
  clear hrr hfd back hcr hsv3 hfit hS3
  go_wp2_with fail
  refine Calls.mono HC.out.1 ?_
  intro e w4 hst
  obtain ⟨rfl, hS4⟩ := HC.out.2 _ _ _ _ _ hst
  have HS := Lib.hid hS4
  clear hS4 hst c0
  go_wp2_with fail
  go_ret
  obtain ⟨fp', h1, h2, h3⟩ := HS.out
  have hsz := HK.out.size
  exact ⟨rfl, fp', h1, (HK.out.mono (fp1 := fp) (by simp)).trans h2 (fun _ _ h => h), fun k hk => by
    rcases h3 k hk with h | h
    · exact .inl h
    · right; omega⟩

/-- what Open leaves: a store on a new device that holds the same. -/
def ROpened (w : World) (l : List Sec) (pend : List Wr) (e : Ending) (w' : World) : Prop :=
  ∃ g bd fp, e = .returned (.pointer (some ⟨g, 0, none⟩)) ∧ RSt w' g bd l pend fp ∧ Keeps w w' [] ∧ ∀ k ∈ fp, w.heap.size ≤ k
set_option maxHeartbeats 800000 in set_option maxRecDepth 100000 in
set_option maxRecDepth 100000 in
theorem ropen_ok (fd : List Nat) (hd : RRep w bd l pend fd) (hf : Fit 100000 l pend) :
    Calls Try.prog 35 #[.pointer (some ⟨bd, 0, none⟩)] w (ROpened w l pend) := by
  have hsz := rsize_calls bd l pend fd w hd
  have hfk := rfork_ok bd l pend fd w hd hf.len hf.few
  obtain ⟨L, hL⟩ : ∃ L, L = l.length := ⟨_, rfl⟩
  rw [← hL] at hsz
  have h4 : (4 : Int) ≤ (L : Int) := by have := hf.four; omega
  have H := Lib.hid (And.intro hsz hfk)
  clear hd hf hsz hfk hL
  go_enter Try.func35, Try.ntmps35
  go_wp2_with fail
  refine Calls.mono H.out.1 ?_
  rintro e w1 ⟨rfl, rfl⟩
  go_wp2_with fail
  refine Calls.mono H.out.2 ?_
  rintro e w1 ⟨b1, f1, rfl, hr1, hk1, hn1⟩
  have H1 := Lib.hid (And.intro hr1 (And.intro hk1 hn1))
  clear hr1 hk1 hn1
  go_wp2_with fail
  go_ret
  obtain ⟨hr1, hk1, hn1⟩ := H1.out
  refine ⟨w1.heap.size, b1, w1.heap.size :: f1, rfl, ⟨f1, Blk.new w1 _ _, hr1.nil ((Keeps.refl w1 []).alloc _), fun hm => by have := hr1.lt _ hm; omega, rfl⟩, hk1.alloc _, fun k hk => ?_⟩
  rcases List.mem_cons.1 hk with rfl | hk
  · exact hk1.size
  · exact hn1 k hk
theorem rdevice_ok (hs : RSt w g bd l pend fp) (hf : Fit 100000 l pend) :
    Calls Try.prog 53 #[.pointer (some ⟨g, 0, none⟩)] w (RForked w l pend) := by
  obtain ⟨fd, hb, hr, hg, rfl⟩ := hs
  have c0 : w.cell? ⟨g, 0, none⟩ = some (.pointer (some ⟨bd, 0, none⟩)) := hb.cell 0
  have H := Lib.hid (rfork_ok bd l pend fd w hr hf.len hf.few)
  clear hb hr hg hf
  go_enter Try.func53, Try.ntmps53
  go_wp2_with fail
  refine Calls.mono H.out ?_
  rintro e w1 ⟨b1, f1, rfl, h1⟩
  have H1 := Lib.hid h1
  clear h1
  go_wp2_with fail
  go_ret
  exact ⟨b1, f1, rfl, H1.out⟩
end

end Go.Proofs.Ytecjhaohabjkbaa
