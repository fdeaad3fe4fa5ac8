/-
  For every number, every list of deeds and one that is torn: behind a torn Save Load are the bytes that were there, or those that were to be saved: heliographlaw08.SlotsTorn answers true, and what came in reads as before. No condition.
-/
import Derived.Test.YtecjhaohabjkbaaRows
import Derived.ProofKit
import Derived.OpenShut
import Derived.ShutString
import Derived.ChangeOld
import Derived.Carry
import Derived.Test.YtecjhaohabjkbaaP18
import Derived.Test.YtecjhaohabjkbaaSkip
namespace Go.Proofs.Ytecjhaohabjkbaa.vSlotsTorn
open Go.ChangeShapes Go.WideShapes Go.ChangeAt Go.RowKit
open Go.ChangeMaps (open_string shut_string)
set_option linter.unusedVariables false

set_option maxHeartbeats 3200000 in set_option maxRecDepth 100000 in
set_option maxRecDepth 100000 in
theorem walk (x : Int) (A : Option Addr) (n c : Nat) (ds : List SDeed) (d : SDeed) (w : World) (hx : (Lit.int .u8 x).wf = true) (hd : SDeeds w A n ds) (hg : d.good w) :
    Calls Try.prog 6 #[.int .u8 x, .slice A n c, d.val] w fun e w' => e = .returned (.bool true) ∧ Below w.heap.size w w' := by
  obtain ⟨z, rfl, hz⟩ := u8_nat hx
  clear hx
  obtain ⟨m, hm⟩ : ∃ m, m = z % 16 + 4 := ⟨_, rfl⟩
  have hbox := Blk.new w 50 d.cells.toArray
  have hk0 : Keeps w (w.alloc (.cells d.cells.toArray 50)) [] := (Keeps.refl w []).alloc _
  obtain ⟨fB, hB⟩ := hg.reads
  obtain ⟨fS, hS⟩ := hg.reads2
  have H0 := Lib.hid (And.intro (pplay_calls z hz A n c ds _ (hd.keeps hk0)) (And.intro hbox (And.intro (hg.keeps hk0) (And.intro hk0 (And.intro (hB.keeps hk0 (by simp)) (And.intro (hS.keeps hk0 (by simp)) (And.intro hB.lt hS.lt)))))))
  rw [← hm] at H0
  clear hd hm hbox hk0 hg hz hB hS
  obtain ⟨kind, B, b, cB, W, S, sv, cS⟩ := d
  simp only [SDeed.val, SDeed.cells] at H0 ⊢
  obtain ⟨w0, hw0⟩ : ∃ w0, w0 = w.alloc (.cells [Value.int .i64 kind, .slice B b.length cB, .int .i64 W, .slice S sv.length cS].toArray 50) := ⟨_, rfl⟩
  rw [← hw0] at H0
  go_enter Try.func6, Try.ntmps6
  go_wp2_with fail
  have hw0' : w.alloc (.cells #[Value.int .i64 kind, .slice B b.length cB, .int .i64 W, .slice S sv.length cS] 50) = w0 := hw0.symm
  rw [hw0']
  clear hw0 hw0'
  refine H0.out.1.mono ?_
  rintro e w1 ⟨gs, bs, gr, br, rfl, hF⟩
  have H1 := Lib.hid hF; clear hF
  go_wp2_with fail
  refine (live_calls w1).mono ?_
  rintro e w2 ⟨rfl, hk2⟩
  obtain ⟨l, cb, ct, fs, fr, hB, hl, hct, hK, hN⟩ := H1.out.nil hk2
  have H2 := Lib.hid (show St w2 gs bs l [] fs ∧ Good l cb ct ∧ Keeps w0 w2 [] ∧ ct ≤ 20 ∧ (∀ k ∈ fs, w0.heap.size ≤ k) from ⟨hB.s, hB.good, hK, hct, fun k hk => hN k (by simp [hk])⟩)
  clear hB hK hk2 hN H1 hct hl
  have hld : ∀ wx (l' : List Sec) (cb' : List Int) (ct' : Nat) f', St wx gs bs l' [] f' → Good l' cb' ct' → Calls Try.prog 20 #[.pointer (some ⟨gs, 0, none⟩)] wx (LoadLeft wx cb') := fun wx l' cb' ct' f' hs hg => by
    have := load_calls gs bs l' [] f' wx hs (hg.fit.mono (by omega))
    rw [show land l' [] = l' from rfl, hg.best] at this
    exact this
  have htn : ∀ wx (l' : List Sec) (cb' : List Int) (ct' : Nat) f', St wx gs bs l' [] f' → Good l' cb' ct' → Calls Try.prog 21 #[.pointer (some ⟨gs, 0, none⟩)] wx (fun e w' => e = .returned (.int .u64 ct') ∧ Keeps wx w' []) := fun wx l' cb' ct' f' hs hg => by
    have := turn_calls gs bs l' [] f' wx hs (hg.fit.mono (by omega))
    rw [show land l' [] = l' from rfl, hg.best] at this
    exact this
  have hrm : ∀ wx (l' : List Sec) (cb' : List Int) (ct' : Nat) f', St wx gs bs l' [] f' → Good l' cb' ct' → Calls Try.prog 27 #[.pointer (some ⟨gs, 0, none⟩)] wx (fun e w' => e = .returned (.int .i64 (halfOf l' * 64 : Nat)) ∧ wx = w') := fun wx l' cb' ct' f' hs hg => room_calls gs bs l' [] f' wx hs (hg.fit.mono (by omega))
  have hbx : ∀ wx, Keeps w0 wx [] → wx.cell? ⟨w.heap.size, 1, none⟩ = some (.slice B b.length cB) ∧ wx.cell? ⟨w.heap.size, 2, none⟩ = some (.int .i64 W) ∧ wx.cell? ⟨w.heap.size, 3, none⟩ = some (.slice S sv.length cS) := fun wx hk => by
    have hb := H0.out.2.1.keeps hk (by simp)
    exact ⟨hb.cell 1, hb.cell 2, hb.cell 3⟩
  have HC := Lib.hid (And.intro hld (And.intro htn (And.intro hrm hbx)))
  clear hld htn hrm hbx
  go_wp2_with fail
  go_region_held_law (fun w' => True) (trivial)
    (first
      | (go_at_call 20
         refine Calls.mono (HC.out.1 _ l cb ct fs (H2.out.1.nil (Keeps.refl w2 []).drew) H2.out.2.1) ?_
         rintro e w3 ⟨A3, c3, f3, rfl, hr3, hf3, hk3⟩
         have kx3 := str_reads w3 A3 cb.length c3 cb f3 hr3
         have H3 := Lib.hid (show St w3 gs bs l [] fs ∧ Keeps w0 w3 [] ∧ Reads w3 1 A3 cb.length (bytes cb) f3 from ⟨(H2.out.1.nil (Keeps.refl w2 []).drew).nil hk3, (H2.out.2.2.1.trans (fp1 := []) (Keeps.refl w2 []).drew (by simp)).trans (fp1 := []) hk3 (by simp), hr3⟩)
         clear hr3 hf3 hk3)
      | (go_at_call 21
         refine Calls.mono (HC.out.2.1 _ l cb ct fs H3.out.1 H2.out.2.1) ?_
         rintro e w4 ⟨rfl, hk4⟩
         have kx4 := str_reads w4 A3 cb.length c3 cb f3 (H3.out.2.2.keeps hk4 (by simp))
         have H4 := Lib.hid (show St w4 gs bs l [] fs ∧ Keeps w0 w4 [] from ⟨H3.out.1.nil hk4, H3.out.2.1.trans (fp1 := []) hk4 (by simp)⟩)
         clear hk4))
  all_goals
    obtain ⟨c1, c2, c3⟩ := HC.out.2.2.2 _ H4.out.2
    obtain ⟨R, hR⟩ : ∃ R, R = halfOf l * 64 := ⟨_, rfl⟩
    obtain ⟨hgood, -, hrB, hrS, hltB, hltS⟩ := H0.out.2.2
    have hrB4 := hrB.keeps H4.out.2 (by simp)
    have hrS4 := hrS.keeps H4.out.2 (by simp)
    have hdB : ∀ k ∈ fB, k ∉ fs := fun k h1 h2 => by
      have := hltB k h1
      have := H2.out.2.2.2.2 k h2
      have := H0.out.2.2.2.1.size
      omega
    have hdS : ∀ k ∈ fS, k ∉ fs := fun k h1 h2 => by
      have := hltS k h1
      have := H2.out.2.2.2.2 k h2
      have := H0.out.2.2.2.1.size
      omega
    have hct := H2.out.2.2.2.1
    have hwf : Wf8 b := hgood.wf
    have hcap : b.length ≤ cB := hgood.cap
    have hcapm : cB ≤ maxLen := hgood.capm
    have hWm : W ≤ 9223372036854775807 := hgood.low
    have hsl : sv.length ≤ maxLen := hgood.few
    have hbt : (bestM (halfOf l) (land l [])).2.2 + 1 < 18446744073709551616 := by rw [show land l [] = l from rfl, H2.out.2.1.best]; show ct + 1 < _; omega
    by_cases hfull : R < b.length
    · have hsv := torn_full gs bs l [] fs w4 B S b.length cB sv.length cS W H4.out.1 (H2.out.2.1.fit.mono (by omega)) (by omega) (by omega)
      have hRb : (R : Int) < (b.length : Int) := by omega
      have hRd : decide (R < b.length) = true := by simp; omega
      have HS := Lib.hid (And.intro hsv hR)
      clear hsv hgood hrB hrS hltB hltS hrB4 hrS4 hdB hdS hct hwf hcap hcapm hWm hsl hbt hfull hR kx3 kx4
      go_wp2_with fail
      refine HS.out.1.mono ?_
      rintro e w5 ⟨rfl, rfl⟩
      go_wp2_with fail
      refine Calls.mono (HC.out.1 _ l cb ct fs H4.out.1 H2.out.2.1) ?_
      rintro e w6 ⟨A6, c6, f6, rfl, hr6, hf6, hk6⟩
      have kx6 := str_reads w6 A6 cb.length c6 cb f6 hr6
      have H6 := Lib.hid (show St w6 gs bs l [] fs ∧ Keeps w0 w6 [] from ⟨H4.out.1.nil hk6, H4.out.2.trans (fp1 := []) hk6 (by simp)⟩)
      clear hr6 hf6 hk6 c1 c2 c3
      obtain ⟨c1, c2, c3⟩ := HC.out.2.2.2 _ H6.out.2
      go_wp2_with fail
      refine wp_region_held_drew (S := fun w' => w'.cell? ⟨w.heap.size, 1, none⟩ = some (.slice B b.length cB) ∧ w'.cell? ⟨w.heap.size, 2, none⟩ = some (.int .i64 W)) (by kernel_rfl) (by go_keep) (fun hHeld => ?_)
      first
        | (refine wpAnyH_take (i := 0) (oi := ?_) (v := ?_) (hi := ?_) (hs := ?_) (hf := ?_) (hr := ?_) (hQ := ?_) (hy := ?_) (hS := ?_) (h := ?_)
           rotate_left 2
           · (simp only [List.getElem?_toArray, List.getElem?_cons_zero]; rfl)
           · kernel_rfl
           · kernel_rfl
           · kernel_rfl
           · exact fun _ _ _ h => h
           · (refine Or.inl ⟨by rfl, ?_⟩; intro wz hSw; (try dsimp only at hSw); go_simp; (try with_reducible rfl))
           · assumption
           (try simp only [Act.put, List.setIfInBounds_toArray, List.set_cons_zero, List.set_cons_succ]))
        | (refine held_skip (i := 0) (oi := ?_) (hi := ?_) (hs := ?_) (hf := ?_) (hr := ?_) (hQ := ?_) (hw := ?_) (hS := ?_) (h := ?_)
           rotate_left 1
           · (simp only [List.getElem?_toArray, List.getElem?_cons_zero]; rfl)
           · kernel_rfl
           · kernel_rfl
           · kernel_rfl
           · exact fun _ _ _ h => h
           · rfl
           · assumption
           (try simp only [Act.put, List.setIfInBounds_toArray, List.set_cons_zero, List.set_cons_succ]))
        | fail
      first
        | (refine wpAnyH_take (i := 1) (oi := ?_) (v := ?_) (hi := ?_) (hs := ?_) (hf := ?_) (hr := ?_) (hQ := ?_) (hy := ?_) (hS := ?_) (h := ?_)
           rotate_left 2
           · (simp only [List.getElem?_toArray, List.getElem?_cons_succ, List.getElem?_cons_zero]; rfl)
           · kernel_rfl
           · kernel_rfl
           · kernel_rfl
           · exact fun _ _ _ h => h
           · (refine Or.inl ⟨by rfl, ?_⟩; intro wz hSw; (try dsimp only at hSw); go_simp; (try with_reducible rfl))
           · assumption
           (try simp only [Act.put, List.setIfInBounds_toArray, List.set_cons_zero, List.set_cons_succ]))
        | (refine held_skip (i := 1) (oi := ?_) (hi := ?_) (hs := ?_) (hf := ?_) (hr := ?_) (hQ := ?_) (hw := ?_) (hS := ?_) (h := ?_)
           rotate_left 1
           · (simp only [List.getElem?_toArray, List.getElem?_cons_succ, List.getElem?_cons_zero]; rfl)
           · kernel_rfl
           · kernel_rfl
           · kernel_rfl
           · exact fun _ _ _ h => h
           · rfl
           · assumption
           (try simp only [Act.put, List.setIfInBounds_toArray, List.set_cons_zero, List.set_cons_succ]))
        | fail
      first
        | (refine wpAnyH_take (i := 2) (oi := ?_) (v := ?_) (hi := ?_) (hs := ?_) (hf := ?_) (hr := ?_) (hQ := ?_) (hy := ?_) (hS := ?_) (h := ?_)
           rotate_left 2
           · (simp only [List.getElem?_toArray, List.getElem?_cons_succ, List.getElem?_cons_zero]; rfl)
           · kernel_rfl
           · kernel_rfl
           · kernel_rfl
           · exact fun _ _ _ h => h
           · (refine Or.inl ⟨by rfl, ?_⟩; intro wz hSw; (try dsimp only at hSw); go_simp; (try with_reducible rfl))
           · assumption
           (try simp only [Act.put, List.setIfInBounds_toArray, List.set_cons_zero, List.set_cons_succ]))
        | (refine held_skip (i := 2) (oi := ?_) (hi := ?_) (hs := ?_) (hf := ?_) (hr := ?_) (hQ := ?_) (hw := ?_) (hS := ?_) (h := ?_)
           rotate_left 1
           · (simp only [List.getElem?_toArray, List.getElem?_cons_succ, List.getElem?_cons_zero]; rfl)
           · kernel_rfl
           · kernel_rfl
           · kernel_rfl
           · exact fun _ _ _ h => h
           · rfl
           · assumption
           (try simp only [Act.put, List.setIfInBounds_toArray, List.set_cons_zero, List.set_cons_succ]))
        | fail
      first
        | (refine wpAnyH_take (i := 3) (oi := ?_) (v := ?_) (hi := ?_) (hs := ?_) (hf := ?_) (hr := ?_) (hQ := ?_) (hy := ?_) (hS := ?_) (h := ?_)
           rotate_left 2
           · (simp only [List.getElem?_toArray, List.getElem?_cons_succ, List.getElem?_cons_zero]; rfl)
           · kernel_rfl
           · kernel_rfl
           · kernel_rfl
           · exact fun _ _ _ h => h
           · (refine Or.inl ⟨by rfl, ?_⟩; intro wz hSw; (try dsimp only at hSw); go_simp; (try with_reducible rfl))
           · assumption
           (try simp only [Act.put, List.setIfInBounds_toArray, List.set_cons_zero, List.set_cons_succ]))
        | (refine held_skip (i := 3) (oi := ?_) (hi := ?_) (hs := ?_) (hf := ?_) (hr := ?_) (hQ := ?_) (hw := ?_) (hS := ?_) (h := ?_)
           rotate_left 1
           · (simp only [List.getElem?_toArray, List.getElem?_cons_succ, List.getElem?_cons_zero]; rfl)
           · kernel_rfl
           · kernel_rfl
           · kernel_rfl
           · exact fun _ _ _ h => h
           · rfl
           · assumption
           (try simp only [Act.put, List.setIfInBounds_toArray, List.set_cons_zero, List.set_cons_succ]))
        | fail
      first
        | (refine wpAnyH_take (i := 4) (oi := ?_) (v := ?_) (hi := ?_) (hs := ?_) (hf := ?_) (hr := ?_) (hQ := ?_) (hy := ?_) (hS := ?_) (h := ?_)
           rotate_left 2
           · (simp only [List.getElem?_toArray, List.getElem?_cons_succ, List.getElem?_cons_zero]; rfl)
           · kernel_rfl
           · kernel_rfl
           · kernel_rfl
           · exact fun _ _ _ h => h
           · (refine Or.inl ⟨by rfl, ?_⟩; intro wz hSw; (try dsimp only at hSw); go_simp; (try with_reducible rfl))
           · assumption
           (try simp only [Act.put, List.setIfInBounds_toArray, List.set_cons_zero, List.set_cons_succ]))
        | (refine held_skip (i := 4) (oi := ?_) (hi := ?_) (hs := ?_) (hf := ?_) (hr := ?_) (hQ := ?_) (hw := ?_) (hS := ?_) (h := ?_)
           rotate_left 1
           · (simp only [List.getElem?_toArray, List.getElem?_cons_succ, List.getElem?_cons_zero]; rfl)
           · kernel_rfl
           · kernel_rfl
           · kernel_rfl
           · exact fun _ _ _ h => h
           · rfl
           · assumption
           (try simp only [Act.put, List.setIfInBounds_toArray, List.set_cons_zero, List.set_cons_succ]))
        | fail
      first
        | (refine wpAnyH_take (i := 6) (oi := ?_) (v := ?_) (hi := ?_) (hs := ?_) (hf := ?_) (hr := ?_) (hQ := ?_) (hy := ?_) (hS := ?_) (h := ?_)
           rotate_left 2
           · (simp only [List.getElem?_toArray, List.getElem?_cons_succ, List.getElem?_cons_zero]; rfl)
           · kernel_rfl
           · kernel_rfl
           · kernel_rfl
           · exact fun _ _ _ h => h
           · (refine Or.inl ⟨by rfl, ?_⟩; intro wz hSw; (try dsimp only at hSw); go_simp; (try with_reducible rfl))
           · assumption
           (try simp only [Act.put, List.setIfInBounds_toArray, List.set_cons_zero, List.set_cons_succ]))
        | (refine held_skip (i := 6) (oi := ?_) (hi := ?_) (hs := ?_) (hf := ?_) (hr := ?_) (hQ := ?_) (hw := ?_) (hS := ?_) (h := ?_)
           rotate_left 1
           · (simp only [List.getElem?_toArray, List.getElem?_cons_succ, List.getElem?_cons_zero]; rfl)
           · kernel_rfl
           · kernel_rfl
           · kernel_rfl
           · exact fun _ _ _ h => h
           · rfl
           · assumption
           (try simp only [Act.put, List.setIfInBounds_toArray, List.set_cons_zero, List.set_cons_succ]))
        | fail
      refine wpAnyH_ready (rs := [5]) (by kernel_rfl) (by simp) ?_
      refine AllReadyH.cons (o := ?_) (ho := ?_) (h := ?_) (hs := AllReadyH.nil)
      rotate_left 1
      · (simp only [List.getElem?_toArray, List.getElem?_cons_succ, List.getElem?_cons_zero]; rfl)
      intro K hK
      go_simp
      refine Calls.mono (HC.out.2.1 _ l cb ct fs (H6.out.1.nil (Keeps.refl w6 []).drew) H2.out.2.1) ?_
      rintro e w7 ⟨rfl, hk7⟩
      have H7 := Lib.hid (show St w7 gs bs l [] fs ∧ Keeps w0 w7 [] from ⟨(H6.out.1.nil (Keeps.refl w6 []).drew).nil hk7, (H6.out.2.trans (fp1 := []) (Keeps.refl w6 []).drew (by simp)).trans (fp1 := []) hk7 (by simp)⟩)
      obtain ⟨d1, d2, d3⟩ := HC.out.2.2.2 _ H7.out.2
      clear hk7
      go_wp2_with fail
      refine hK.out _ _ ?_ (fun hHeld => ?_)
      · (go_keep)
      clear hK K
      (try simp only [Act.put, List.setIfInBounds_toArray, List.set_cons_zero, List.set_cons_succ])
      first
        | (refine wpAnyH_take (i := 7) (oi := ?_) (v := ?_) (hi := ?_) (hs := ?_) (hf := ?_) (hr := ?_) (hQ := ?_) (hy := ?_) (hS := ?_) (h := ?_)
           rotate_left 2
           · (simp only [List.getElem?_toArray, List.getElem?_cons_succ, List.getElem?_cons_zero]; rfl)
           · kernel_rfl
           · kernel_rfl
           · kernel_rfl
           · exact fun _ _ _ h => h
           · (refine Or.inl ⟨by rfl, ?_⟩; intro wz hSw; (try dsimp only at hSw); go_simp; (try with_reducible rfl))
           · assumption
           (try simp only [Act.put, List.setIfInBounds_toArray, List.set_cons_zero, List.set_cons_succ]))
        | (refine held_skip (i := 7) (oi := ?_) (hi := ?_) (hs := ?_) (hf := ?_) (hr := ?_) (hQ := ?_) (hw := ?_) (hS := ?_) (h := ?_)
           rotate_left 1
           · (simp only [List.getElem?_toArray, List.getElem?_cons_succ, List.getElem?_cons_zero]; rfl)
           · kernel_rfl
           · kernel_rfl
           · kernel_rfl
           · exact fun _ _ _ h => h
           · rfl
           · assumption
           (try simp only [Act.put, List.setIfInBounds_toArray, List.set_cons_zero, List.set_cons_succ]))
        | fail
      first
        | (refine wpAnyH_take (i := 8) (oi := ?_) (v := ?_) (hi := ?_) (hs := ?_) (hf := ?_) (hr := ?_) (hQ := ?_) (hy := ?_) (hS := ?_) (h := ?_)
           rotate_left 2
           · (simp only [List.getElem?_toArray, List.getElem?_cons_succ, List.getElem?_cons_zero]; rfl)
           · kernel_rfl
           · kernel_rfl
           · kernel_rfl
           · exact fun _ _ _ h => h
           · (refine Or.inl ⟨by rfl, ?_⟩; intro wz hSw; (try dsimp only at hSw); go_simp; (try with_reducible rfl))
           · assumption
           (try simp only [Act.put, List.setIfInBounds_toArray, List.set_cons_zero, List.set_cons_succ]))
        | (refine held_skip (i := 8) (oi := ?_) (hi := ?_) (hs := ?_) (hf := ?_) (hr := ?_) (hQ := ?_) (hw := ?_) (hS := ?_) (h := ?_)
           rotate_left 1
           · (simp only [List.getElem?_toArray, List.getElem?_cons_succ, List.getElem?_cons_zero]; rfl)
           · kernel_rfl
           · kernel_rfl
           · kernel_rfl
           · exact fun _ _ _ h => h
           · rfl
           · assumption
           (try simp only [Act.put, List.setIfInBounds_toArray, List.set_cons_zero, List.set_cons_succ]))
        | fail
      first
        | (refine wpAnyH_take (i := 9) (oi := ?_) (v := ?_) (hi := ?_) (hs := ?_) (hf := ?_) (hr := ?_) (hQ := ?_) (hy := ?_) (hS := ?_) (h := ?_)
           rotate_left 2
           · (simp only [List.getElem?_toArray, List.getElem?_cons_succ, List.getElem?_cons_zero]; rfl)
           · kernel_rfl
           · kernel_rfl
           · kernel_rfl
           · exact fun _ _ _ h => h
           · (refine Or.inl ⟨by rfl, ?_⟩; intro wz hSw; (try dsimp only at hSw); go_simp; (try with_reducible rfl))
           · assumption
           (try simp only [Act.put, List.setIfInBounds_toArray, List.set_cons_zero, List.set_cons_succ]))
        | (refine held_skip (i := 9) (oi := ?_) (hi := ?_) (hs := ?_) (hf := ?_) (hr := ?_) (hQ := ?_) (hw := ?_) (hS := ?_) (h := ?_)
           rotate_left 1
           · (simp only [List.getElem?_toArray, List.getElem?_cons_succ, List.getElem?_cons_zero]; rfl)
           · kernel_rfl
           · kernel_rfl
           · kernel_rfl
           · exact fun _ _ _ h => h
           · rfl
           · assumption
           (try simp only [Act.put, List.setIfInBounds_toArray, List.set_cons_zero, List.set_cons_succ]))
        | fail
      first
        | (refine wpAnyH_take (i := 10) (oi := ?_) (v := ?_) (hi := ?_) (hs := ?_) (hf := ?_) (hr := ?_) (hQ := ?_) (hy := ?_) (hS := ?_) (h := ?_)
           rotate_left 2
           · (simp only [List.getElem?_toArray, List.getElem?_cons_succ, List.getElem?_cons_zero]; rfl)
           · kernel_rfl
           · kernel_rfl
           · kernel_rfl
           · exact fun _ _ _ h => h
           · (refine Or.inl ⟨by rfl, ?_⟩; intro wz hSw; (try dsimp only at hSw); go_simp; (try with_reducible rfl))
           · assumption
           (try simp only [Act.put, List.setIfInBounds_toArray, List.set_cons_zero, List.set_cons_succ]))
        | (refine held_skip (i := 10) (oi := ?_) (hi := ?_) (hs := ?_) (hf := ?_) (hr := ?_) (hQ := ?_) (hw := ?_) (hS := ?_) (h := ?_)
           rotate_left 1
           · (simp only [List.getElem?_toArray, List.getElem?_cons_succ, List.getElem?_cons_zero]; rfl)
           · kernel_rfl
           · kernel_rfl
           · kernel_rfl
           · exact fun _ _ _ h => h
           · rfl
           · assumption
           (try simp only [Act.put, List.setIfInBounds_toArray, List.set_cons_zero, List.set_cons_succ]))
        | fail
      first
        | (refine wpAnyH_take (i := 11) (oi := ?_) (v := ?_) (hi := ?_) (hs := ?_) (hf := ?_) (hr := ?_) (hQ := ?_) (hy := ?_) (hS := ?_) (h := ?_)
           rotate_left 2
           · (simp only [List.getElem?_toArray, List.getElem?_cons_succ, List.getElem?_cons_zero]; rfl)
           · kernel_rfl
           · kernel_rfl
           · kernel_rfl
           · exact fun _ _ _ h => h
           · (refine Or.inl ⟨by rfl, ?_⟩; intro wz hSw; (try dsimp only at hSw); go_simp; (try with_reducible rfl))
           · assumption
           (try simp only [Act.put, List.setIfInBounds_toArray, List.set_cons_zero, List.set_cons_succ]))
        | (refine held_skip (i := 11) (oi := ?_) (hi := ?_) (hs := ?_) (hf := ?_) (hr := ?_) (hQ := ?_) (hw := ?_) (hS := ?_) (h := ?_)
           rotate_left 1
           · (simp only [List.getElem?_toArray, List.getElem?_cons_succ, List.getElem?_cons_zero]; rfl)
           · kernel_rfl
           · kernel_rfl
           · kernel_rfl
           · exact fun _ _ _ h => h
           · rfl
           · assumption
           (try simp only [Act.put, List.setIfInBounds_toArray, List.set_cons_zero, List.set_cons_succ]))
        | fail
      first
        | (refine wpAnyH_take (i := 12) (oi := ?_) (v := ?_) (hi := ?_) (hs := ?_) (hf := ?_) (hr := ?_) (hQ := ?_) (hy := ?_) (hS := ?_) (h := ?_)
           rotate_left 2
           · (simp only [List.getElem?_toArray, List.getElem?_cons_succ, List.getElem?_cons_zero]; rfl)
           · kernel_rfl
           · kernel_rfl
           · kernel_rfl
           · exact fun _ _ _ h => h
           · (refine Or.inl ⟨by rfl, ?_⟩; intro wz hSw; (try dsimp only at hSw); go_simp; (try with_reducible rfl))
           · assumption
           (try simp only [Act.put, List.setIfInBounds_toArray, List.set_cons_zero, List.set_cons_succ]))
        | (refine held_skip (i := 12) (oi := ?_) (hi := ?_) (hs := ?_) (hf := ?_) (hr := ?_) (hQ := ?_) (hw := ?_) (hS := ?_) (h := ?_)
           rotate_left 1
           · (simp only [List.getElem?_toArray, List.getElem?_cons_succ, List.getElem?_cons_zero]; rfl)
           · kernel_rfl
           · kernel_rfl
           · kernel_rfl
           · exact fun _ _ _ h => h
           · rfl
           · assumption
           (try simp only [Act.put, List.setIfInBounds_toArray, List.set_cons_zero, List.set_cons_succ]))
        | fail
      first
        | (refine wpAnyH_take (i := 13) (oi := ?_) (v := ?_) (hi := ?_) (hs := ?_) (hf := ?_) (hr := ?_) (hQ := ?_) (hy := ?_) (hS := ?_) (h := ?_)
           rotate_left 2
           · (simp only [List.getElem?_toArray, List.getElem?_cons_succ, List.getElem?_cons_zero]; rfl)
           · kernel_rfl
           · kernel_rfl
           · kernel_rfl
           · exact fun _ _ _ h => h
           · (refine Or.inl ⟨by rfl, ?_⟩; intro wz hSw; (try dsimp only at hSw); go_simp; (try with_reducible rfl))
           · assumption
           (try simp only [Act.put, List.setIfInBounds_toArray, List.set_cons_zero, List.set_cons_succ]))
        | (refine held_skip (i := 13) (oi := ?_) (hi := ?_) (hs := ?_) (hf := ?_) (hr := ?_) (hQ := ?_) (hw := ?_) (hS := ?_) (h := ?_)
           rotate_left 1
           · (simp only [List.getElem?_toArray, List.getElem?_cons_succ, List.getElem?_cons_zero]; rfl)
           · kernel_rfl
           · kernel_rfl
           · kernel_rfl
           · exact fun _ _ _ h => h
           · rfl
           · assumption
           (try simp only [Act.put, List.setIfInBounds_toArray, List.set_cons_zero, List.set_cons_succ]))
        | fail
      first
        | (refine wpAnyH_take (i := 14) (oi := ?_) (v := ?_) (hi := ?_) (hs := ?_) (hf := ?_) (hr := ?_) (hQ := ?_) (hy := ?_) (hS := ?_) (h := ?_)
           rotate_left 2
           · (simp only [List.getElem?_toArray, List.getElem?_cons_succ, List.getElem?_cons_zero]; rfl)
           · kernel_rfl
           · kernel_rfl
           · kernel_rfl
           · exact fun _ _ _ h => h
           · (refine Or.inl ⟨by rfl, ?_⟩; intro wz hSw; (try dsimp only at hSw); go_simp; (try with_reducible rfl))
           · assumption
           (try simp only [Act.put, List.setIfInBounds_toArray, List.set_cons_zero, List.set_cons_succ]))
        | (refine held_skip (i := 14) (oi := ?_) (hi := ?_) (hs := ?_) (hf := ?_) (hr := ?_) (hQ := ?_) (hw := ?_) (hS := ?_) (h := ?_)
           rotate_left 1
           · (simp only [List.getElem?_toArray, List.getElem?_cons_succ, List.getElem?_cons_zero]; rfl)
           · kernel_rfl
           · kernel_rfl
           · kernel_rfl
           · exact fun _ _ _ h => h
           · rfl
           · assumption
           (try simp only [Act.put, List.setIfInBounds_toArray, List.set_cons_zero, List.set_cons_succ]))
        | fail
      first
        | (refine wpAnyH_take (i := 15) (oi := ?_) (v := ?_) (hi := ?_) (hs := ?_) (hf := ?_) (hr := ?_) (hQ := ?_) (hy := ?_) (hS := ?_) (h := ?_)
           rotate_left 2
           · (simp only [List.getElem?_toArray, List.getElem?_cons_succ, List.getElem?_cons_zero]; rfl)
           · kernel_rfl
           · kernel_rfl
           · kernel_rfl
           · exact fun _ _ _ h => h
           · (refine Or.inl ⟨by rfl, ?_⟩; intro wz hSw; (try dsimp only at hSw); go_simp; (try with_reducible rfl))
           · assumption
           (try simp only [Act.put, List.setIfInBounds_toArray, List.set_cons_zero, List.set_cons_succ]))
        | (refine held_skip (i := 15) (oi := ?_) (hi := ?_) (hs := ?_) (hf := ?_) (hr := ?_) (hQ := ?_) (hw := ?_) (hS := ?_) (h := ?_)
           rotate_left 1
           · (simp only [List.getElem?_toArray, List.getElem?_cons_succ, List.getElem?_cons_zero]; rfl)
           · kernel_rfl
           · kernel_rfl
           · kernel_rfl
           · exact fun _ _ _ h => h
           · rfl
           · assumption
           (try simp only [Act.put, List.setIfInBounds_toArray, List.set_cons_zero, List.set_cons_succ]))
        | fail
      first
        | (refine wpAnyH_take (i := 16) (oi := ?_) (v := ?_) (hi := ?_) (hs := ?_) (hf := ?_) (hr := ?_) (hQ := ?_) (hy := ?_) (hS := ?_) (h := ?_)
           rotate_left 2
           · (simp only [List.getElem?_toArray, List.getElem?_cons_succ, List.getElem?_cons_zero]; rfl)
           · kernel_rfl
           · kernel_rfl
           · kernel_rfl
           · exact fun _ _ _ h => h
           · (refine Or.inl ⟨by rfl, ?_⟩; intro wz hSw; (try dsimp only at hSw); go_simp; (try with_reducible rfl))
           · assumption
           (try simp only [Act.put, List.setIfInBounds_toArray, List.set_cons_zero, List.set_cons_succ]))
        | (refine held_skip (i := 16) (oi := ?_) (hi := ?_) (hs := ?_) (hf := ?_) (hr := ?_) (hQ := ?_) (hw := ?_) (hS := ?_) (h := ?_)
           rotate_left 1
           · (simp only [List.getElem?_toArray, List.getElem?_cons_succ, List.getElem?_cons_zero]; rfl)
           · kernel_rfl
           · kernel_rfl
           · kernel_rfl
           · exact fun _ _ _ h => h
           · rfl
           · assumption
           (try simp only [Act.put, List.setIfInBounds_toArray, List.set_cons_zero, List.set_cons_succ]))
        | fail
      refine wpAnyH_ready (rs := [17]) (by kernel_rfl) (by simp) ?_
      refine AllReadyH.cons (o := ?_) (ho := ?_) (h := ?_) (hs := AllReadyH.nil)
      rotate_left 1
      · (simp only [List.getElem?_toArray, List.getElem?_cons_succ, List.getElem?_cons_zero]; rfl)
      intro K hK
      go_simp
      have hrm := HC.out.2.2.1 _ l cb ct fs H7.out.1 H2.out.2.1
      rw [← HS.out.2] at hrm
      refine hrm.mono ?_
      rintro e w8 ⟨rfl, rfl⟩
      clear hrm
      go_wp2_with fail
      refine hK.out _ _ ?_ (fun hHeld => ?_)
      · (go_keep)
      clear hK K
      (try simp only [Act.put, List.setIfInBounds_toArray, List.set_cons_zero, List.set_cons_succ])
      first
        | (refine wpAnyH_take (i := 18) (oi := ?_) (v := ?_) (hi := ?_) (hs := ?_) (hf := ?_) (hr := ?_) (hQ := ?_) (hy := ?_) (hS := ?_) (h := ?_)
           rotate_left 2
           · (simp only [List.getElem?_toArray, List.getElem?_cons_succ, List.getElem?_cons_zero]; rfl)
           · kernel_rfl
           · kernel_rfl
           · kernel_rfl
           · exact fun _ _ _ h => h
           · (refine Or.inl ⟨by rfl, ?_⟩; intro wz hSw; (try dsimp only at hSw); go_simp; (try with_reducible rfl))
           · assumption
           (try simp only [Act.put, List.setIfInBounds_toArray, List.set_cons_zero, List.set_cons_succ]))
        | (refine held_skip (i := 18) (oi := ?_) (hi := ?_) (hs := ?_) (hf := ?_) (hr := ?_) (hQ := ?_) (hw := ?_) (hS := ?_) (h := ?_)
           rotate_left 1
           · (simp only [List.getElem?_toArray, List.getElem?_cons_succ, List.getElem?_cons_zero]; rfl)
           · kernel_rfl
           · kernel_rfl
           · kernel_rfl
           · exact fun _ _ _ h => h
           · rfl
           · assumption
           (try simp only [Act.put, List.setIfInBounds_toArray, List.set_cons_zero, List.set_cons_succ]))
        | fail
      first
        | (refine wpAnyH_take (i := 19) (oi := ?_) (v := ?_) (hi := ?_) (hs := ?_) (hf := ?_) (hr := ?_) (hQ := ?_) (hy := ?_) (hS := ?_) (h := ?_)
           rotate_left 2
           · (simp only [List.getElem?_toArray, List.getElem?_cons_succ, List.getElem?_cons_zero]; rfl)
           · kernel_rfl
           · kernel_rfl
           · kernel_rfl
           · exact fun _ _ _ h => h
           · (refine Or.inl ⟨by rfl, ?_⟩; intro wz hSw; (try dsimp only at hSw); go_simp; (try with_reducible rfl))
           · assumption
           (try simp only [Act.put, List.setIfInBounds_toArray, List.set_cons_zero, List.set_cons_succ]))
        | (refine held_skip (i := 19) (oi := ?_) (hi := ?_) (hs := ?_) (hf := ?_) (hr := ?_) (hQ := ?_) (hw := ?_) (hS := ?_) (h := ?_)
           rotate_left 1
           · (simp only [List.getElem?_toArray, List.getElem?_cons_succ, List.getElem?_cons_zero]; rfl)
           · kernel_rfl
           · kernel_rfl
           · kernel_rfl
           · exact fun _ _ _ h => h
           · rfl
           · assumption
           (try simp only [Act.put, List.setIfInBounds_toArray, List.set_cons_zero, List.set_cons_succ]))
        | fail
      first
        | (refine wpAnyH_take (i := 20) (oi := ?_) (v := ?_) (hi := ?_) (hs := ?_) (hf := ?_) (hr := ?_) (hQ := ?_) (hy := ?_) (hS := ?_) (h := ?_)
           rotate_left 2
           · (simp only [List.getElem?_toArray, List.getElem?_cons_succ, List.getElem?_cons_zero]; rfl)
           · kernel_rfl
           · kernel_rfl
           · kernel_rfl
           · exact fun _ _ _ h => h
           · (refine Or.inl ⟨by rfl, ?_⟩; intro wz hSw; (try dsimp only at hSw); go_simp; (try with_reducible rfl))
           · assumption
           (try simp only [Act.put, List.setIfInBounds_toArray, List.set_cons_zero, List.set_cons_succ]))
        | (refine held_skip (i := 20) (oi := ?_) (hi := ?_) (hs := ?_) (hf := ?_) (hr := ?_) (hQ := ?_) (hw := ?_) (hS := ?_) (h := ?_)
           rotate_left 1
           · (simp only [List.getElem?_toArray, List.getElem?_cons_succ, List.getElem?_cons_zero]; rfl)
           · kernel_rfl
           · kernel_rfl
           · kernel_rfl
           · exact fun _ _ _ h => h
           · rfl
           · assumption
           (try simp only [Act.put, List.setIfInBounds_toArray, List.set_cons_zero, List.set_cons_succ]))
        | fail
      first
        | (refine wpAnyH_take (i := 21) (oi := ?_) (v := ?_) (hi := ?_) (hs := ?_) (hf := ?_) (hr := ?_) (hQ := ?_) (hy := ?_) (hS := ?_) (h := ?_)
           rotate_left 2
           · (simp only [List.getElem?_toArray, List.getElem?_cons_succ, List.getElem?_cons_zero]; rfl)
           · kernel_rfl
           · kernel_rfl
           · kernel_rfl
           · exact fun _ _ _ h => h
           · (refine Or.inl ⟨by rfl, ?_⟩; intro wz hSw; (try dsimp only at hSw); go_simp; (try with_reducible rfl))
           · assumption
           (try simp only [Act.put, List.setIfInBounds_toArray, List.set_cons_zero, List.set_cons_succ]))
        | (refine held_skip (i := 21) (oi := ?_) (hi := ?_) (hs := ?_) (hf := ?_) (hr := ?_) (hQ := ?_) (hw := ?_) (hS := ?_) (h := ?_)
           rotate_left 1
           · (simp only [List.getElem?_toArray, List.getElem?_cons_succ, List.getElem?_cons_zero]; rfl)
           · kernel_rfl
           · kernel_rfl
           · kernel_rfl
           · exact fun _ _ _ h => h
           · rfl
           · assumption
           (try simp only [Act.put, List.setIfInBounds_toArray, List.set_cons_zero, List.set_cons_succ]))
        | fail
      first
        | (refine wpAnyH_take (i := 22) (oi := ?_) (v := ?_) (hi := ?_) (hs := ?_) (hf := ?_) (hr := ?_) (hQ := ?_) (hy := ?_) (hS := ?_) (h := ?_)
           rotate_left 2
           · (simp only [List.getElem?_toArray, List.getElem?_cons_succ, List.getElem?_cons_zero]; rfl)
           · kernel_rfl
           · kernel_rfl
           · kernel_rfl
           · exact fun _ _ _ h => h
           · (refine Or.inl ⟨by rfl, ?_⟩; intro wz hSw; (try dsimp only at hSw); go_simp; (try with_reducible rfl))
           · assumption
           (try simp only [Act.put, List.setIfInBounds_toArray, List.set_cons_zero, List.set_cons_succ]))
        | (refine held_skip (i := 22) (oi := ?_) (hi := ?_) (hs := ?_) (hf := ?_) (hr := ?_) (hQ := ?_) (hw := ?_) (hS := ?_) (h := ?_)
           rotate_left 1
           · (simp only [List.getElem?_toArray, List.getElem?_cons_succ, List.getElem?_cons_zero]; rfl)
           · kernel_rfl
           · kernel_rfl
           · kernel_rfl
           · exact fun _ _ _ h => h
           · rfl
           · assumption
           (try simp only [Act.put, List.setIfInBounds_toArray, List.set_cons_zero, List.set_cons_succ]))
        | fail
      first
        | (refine wpAnyH_take (i := 23) (oi := ?_) (v := ?_) (hi := ?_) (hs := ?_) (hf := ?_) (hr := ?_) (hQ := ?_) (hy := ?_) (hS := ?_) (h := ?_)
           rotate_left 2
           · (simp only [List.getElem?_toArray, List.getElem?_cons_succ, List.getElem?_cons_zero]; rfl)
           · kernel_rfl
           · kernel_rfl
           · kernel_rfl
           · exact fun _ _ _ h => h
           · (refine Or.inl ⟨by rfl, ?_⟩; intro wz hSw; (try dsimp only at hSw); go_simp; (try with_reducible rfl))
           · assumption
           (try simp only [Act.put, List.setIfInBounds_toArray, List.set_cons_zero, List.set_cons_succ]))
        | (refine held_skip (i := 23) (oi := ?_) (hi := ?_) (hs := ?_) (hf := ?_) (hr := ?_) (hQ := ?_) (hw := ?_) (hS := ?_) (h := ?_)
           rotate_left 1
           · (simp only [List.getElem?_toArray, List.getElem?_cons_succ, List.getElem?_cons_zero]; rfl)
           · kernel_rfl
           · kernel_rfl
           · kernel_rfl
           · exact fun _ _ _ h => h
           · rfl
           · assumption
           (try simp only [Act.put, List.setIfInBounds_toArray, List.set_cons_zero, List.set_cons_succ]))
        | fail
      first
        | (refine wpAnyH_take (i := 24) (oi := ?_) (v := ?_) (hi := ?_) (hs := ?_) (hf := ?_) (hr := ?_) (hQ := ?_) (hy := ?_) (hS := ?_) (h := ?_)
           rotate_left 2
           · (simp only [List.getElem?_toArray, List.getElem?_cons_succ, List.getElem?_cons_zero]; rfl)
           · kernel_rfl
           · kernel_rfl
           · kernel_rfl
           · exact fun _ _ _ h => h
           · (refine Or.inl ⟨by rfl, ?_⟩; intro wz hSw; (try dsimp only at hSw); go_simp; (try with_reducible rfl))
           · assumption
           (try simp only [Act.put, List.setIfInBounds_toArray, List.set_cons_zero, List.set_cons_succ]))
        | (refine held_skip (i := 24) (oi := ?_) (hi := ?_) (hs := ?_) (hf := ?_) (hr := ?_) (hQ := ?_) (hw := ?_) (hS := ?_) (h := ?_)
           rotate_left 1
           · (simp only [List.getElem?_toArray, List.getElem?_cons_succ, List.getElem?_cons_zero]; rfl)
           · kernel_rfl
           · kernel_rfl
           · kernel_rfl
           · exact fun _ _ _ h => h
           · rfl
           · assumption
           (try simp only [Act.put, List.setIfInBounds_toArray, List.set_cons_zero, List.set_cons_succ]))
        | fail
      first
        | (refine wpAnyH_take (i := 25) (oi := ?_) (v := ?_) (hi := ?_) (hs := ?_) (hf := ?_) (hr := ?_) (hQ := ?_) (hy := ?_) (hS := ?_) (h := ?_)
           rotate_left 2
           · (simp only [List.getElem?_toArray, List.getElem?_cons_succ, List.getElem?_cons_zero]; rfl)
           · kernel_rfl
           · kernel_rfl
           · kernel_rfl
           · exact fun _ _ _ h => h
           · (refine Or.inl ⟨by rfl, ?_⟩; intro wz hSw; (try dsimp only at hSw); go_simp; (try with_reducible rfl))
           · assumption
           (try simp only [Act.put, List.setIfInBounds_toArray, List.set_cons_zero, List.set_cons_succ]))
        | (refine held_skip (i := 25) (oi := ?_) (hi := ?_) (hs := ?_) (hf := ?_) (hr := ?_) (hQ := ?_) (hw := ?_) (hS := ?_) (h := ?_)
           rotate_left 1
           · (simp only [List.getElem?_toArray, List.getElem?_cons_succ, List.getElem?_cons_zero]; rfl)
           · kernel_rfl
           · kernel_rfl
           · kernel_rfl
           · exact fun _ _ _ h => h
           · rfl
           · assumption
           (try simp only [Act.put, List.setIfInBounds_toArray, List.set_cons_zero, List.set_cons_succ]))
        | fail
      first
        | (refine wpAnyH_take (i := 26) (oi := ?_) (v := ?_) (hi := ?_) (hs := ?_) (hf := ?_) (hr := ?_) (hQ := ?_) (hy := ?_) (hS := ?_) (h := ?_)
           rotate_left 2
           · (simp only [List.getElem?_toArray, List.getElem?_cons_succ, List.getElem?_cons_zero]; rfl)
           · kernel_rfl
           · kernel_rfl
           · kernel_rfl
           · exact fun _ _ _ h => h
           · (refine Or.inl ⟨by rfl, ?_⟩; intro wz hSw; (try dsimp only at hSw); go_simp; (try with_reducible rfl))
           · assumption
           (try simp only [Act.put, List.setIfInBounds_toArray, List.set_cons_zero, List.set_cons_succ]))
        | (refine held_skip (i := 26) (oi := ?_) (hi := ?_) (hs := ?_) (hf := ?_) (hr := ?_) (hQ := ?_) (hw := ?_) (hS := ?_) (h := ?_)
           rotate_left 1
           · (simp only [List.getElem?_toArray, List.getElem?_cons_succ, List.getElem?_cons_zero]; rfl)
           · kernel_rfl
           · kernel_rfl
           · kernel_rfl
           · exact fun _ _ _ h => h
           · rfl
           · assumption
           (try simp only [Act.put, List.setIfInBounds_toArray, List.set_cons_zero, List.set_cons_succ]))
        | fail
      first
        | (refine wpAnyH_take (i := 27) (oi := ?_) (v := ?_) (hi := ?_) (hs := ?_) (hf := ?_) (hr := ?_) (hQ := ?_) (hy := ?_) (hS := ?_) (h := ?_)
           rotate_left 2
           · (simp only [List.getElem?_toArray, List.getElem?_cons_succ, List.getElem?_cons_zero]; rfl)
           · kernel_rfl
           · kernel_rfl
           · kernel_rfl
           · exact fun _ _ _ h => h
           · (refine Or.inl ⟨by rfl, ?_⟩; intro wz hSw; (try dsimp only at hSw); go_simp; (try with_reducible rfl))
           · assumption
           (try simp only [Act.put, List.setIfInBounds_toArray, List.set_cons_zero, List.set_cons_succ]))
        | (refine held_skip (i := 27) (oi := ?_) (hi := ?_) (hs := ?_) (hf := ?_) (hr := ?_) (hQ := ?_) (hw := ?_) (hS := ?_) (h := ?_)
           rotate_left 1
           · (simp only [List.getElem?_toArray, List.getElem?_cons_succ, List.getElem?_cons_zero]; rfl)
           · kernel_rfl
           · kernel_rfl
           · kernel_rfl
           · exact fun _ _ _ h => h
           · rfl
           · assumption
           (try simp only [Act.put, List.setIfInBounds_toArray, List.set_cons_zero, List.set_cons_succ]))
        | fail
      first
        | (refine wpAnyH_take (i := 28) (oi := ?_) (v := ?_) (hi := ?_) (hs := ?_) (hf := ?_) (hr := ?_) (hQ := ?_) (hy := ?_) (hS := ?_) (h := ?_)
           rotate_left 2
           · (simp only [List.getElem?_toArray, List.getElem?_cons_succ, List.getElem?_cons_zero]; rfl)
           · kernel_rfl
           · kernel_rfl
           · kernel_rfl
           · exact fun _ _ _ h => h
           · (refine Or.inl ⟨by rfl, ?_⟩; intro wz hSw; (try dsimp only at hSw); go_simp; (try with_reducible rfl))
           · assumption
           (try simp only [Act.put, List.setIfInBounds_toArray, List.set_cons_zero, List.set_cons_succ]))
        | (refine held_skip (i := 28) (oi := ?_) (hi := ?_) (hs := ?_) (hf := ?_) (hr := ?_) (hQ := ?_) (hw := ?_) (hS := ?_) (h := ?_)
           rotate_left 1
           · (simp only [List.getElem?_toArray, List.getElem?_cons_succ, List.getElem?_cons_zero]; rfl)
           · kernel_rfl
           · kernel_rfl
           · kernel_rfl
           · exact fun _ _ _ h => h
           · rfl
           · assumption
           (try simp only [Act.put, List.setIfInBounds_toArray, List.set_cons_zero, List.set_cons_succ]))
        | fail
      first
        | (refine wpAnyH_take (i := 29) (oi := ?_) (v := ?_) (hi := ?_) (hs := ?_) (hf := ?_) (hr := ?_) (hQ := ?_) (hy := ?_) (hS := ?_) (h := ?_)
           rotate_left 2
           · (simp only [List.getElem?_toArray, List.getElem?_cons_succ, List.getElem?_cons_zero]; rfl)
           · kernel_rfl
           · kernel_rfl
           · kernel_rfl
           · exact fun _ _ _ h => h
           · (refine Or.inl ⟨by rfl, ?_⟩; intro wz hSw; (try dsimp only at hSw); go_simp; (try with_reducible rfl))
           · assumption
           (try simp only [Act.put, List.setIfInBounds_toArray, List.set_cons_zero, List.set_cons_succ]))
        | (refine held_skip (i := 29) (oi := ?_) (hi := ?_) (hs := ?_) (hf := ?_) (hr := ?_) (hQ := ?_) (hw := ?_) (hS := ?_) (h := ?_)
           rotate_left 1
           · (simp only [List.getElem?_toArray, List.getElem?_cons_succ, List.getElem?_cons_zero]; rfl)
           · kernel_rfl
           · kernel_rfl
           · kernel_rfl
           · exact fun _ _ _ h => h
           · rfl
           · assumption
           (try simp only [Act.put, List.setIfInBounds_toArray, List.set_cons_zero, List.set_cons_succ]))
        | fail
      first
        | (refine wpAnyH_take (i := 30) (oi := ?_) (v := ?_) (hi := ?_) (hs := ?_) (hf := ?_) (hr := ?_) (hQ := ?_) (hy := ?_) (hS := ?_) (h := ?_)
           rotate_left 2
           · (simp only [List.getElem?_toArray, List.getElem?_cons_succ, List.getElem?_cons_zero]; rfl)
           · kernel_rfl
           · kernel_rfl
           · kernel_rfl
           · exact fun _ _ _ h => h
           · (refine Or.inl ⟨by rfl, ?_⟩; intro wz hSw; (try dsimp only at hSw); go_simp; (try with_reducible rfl))
           · assumption
           (try simp only [Act.put, List.setIfInBounds_toArray, List.set_cons_zero, List.set_cons_succ]))
        | (refine held_skip (i := 30) (oi := ?_) (hi := ?_) (hs := ?_) (hf := ?_) (hr := ?_) (hQ := ?_) (hw := ?_) (hS := ?_) (h := ?_)
           rotate_left 1
           · (simp only [List.getElem?_toArray, List.getElem?_cons_succ, List.getElem?_cons_zero]; rfl)
           · kernel_rfl
           · kernel_rfl
           · kernel_rfl
           · exact fun _ _ _ h => h
           · rfl
           · assumption
           (try simp only [Act.put, List.setIfInBounds_toArray, List.set_cons_zero, List.set_cons_succ]))
        | fail
      refine wpAnyH_done (by kernel_rfl) ?_ _
      go_wp2_with fail
      go_ret
      exact ⟨by simp, (H0.out.2.2.2.1.trans (fp1 := []) H7.out.2 (by simp)).below (Nat.le_refl _) (by simp)⟩
    · by_cases hneg : W < 0
      · have hsv := torn_range gs bs l [] fs w4 B S b.length cB sv.length cS W H4.out.1 (H2.out.2.1.fit.mono (by omega)) (by omega) hbt hneg
        have HS := Lib.hid hsv
        clear hsv hgood hrB hrS hltB hltS hrB4 hrS4 hdB hdS hct hwf hcap hcapm hWm hsl hbt hfull hR kx3 kx4
        go_wp2_with fail
        refine HS.out.mono ?_
        rintro e w5 ⟨rfl, hk5⟩
        have H5 := Lib.hid (show St w5 gs bs l [] fs ∧ Keeps w0 w5 [] from ⟨H4.out.1.nil hk5, H4.out.2.trans (fp1 := []) hk5 (by simp)⟩)
        clear hk5
        go_wp2_with fail
        refine Calls.mono (HC.out.1 _ l cb ct fs H5.out.1 H2.out.2.1) ?_
        rintro e w6 ⟨A6, c6, f6, rfl, hr6, hf6, hk6⟩
        have kx6 := str_reads w6 A6 cb.length c6 cb f6 hr6
        have H6 := Lib.hid (show St w6 gs bs l [] fs ∧ Keeps w0 w6 [] from ⟨H5.out.1.nil hk6, H5.out.2.trans (fp1 := []) hk6 (by simp)⟩)
        clear hr6 hf6 hk6 c1 c2 c3
        obtain ⟨c1, c2, c3⟩ := HC.out.2.2.2 _ H6.out.2
        go_wp2_with fail
        refine wp_region_held_drew (S := fun w' => w'.cell? ⟨w.heap.size, 1, none⟩ = some (.slice B b.length cB) ∧ w'.cell? ⟨w.heap.size, 2, none⟩ = some (.int .i64 W)) (by kernel_rfl) (by go_keep) (fun hHeld => ?_)
        first
          | (refine wpAnyH_take (i := 0) (oi := ?_) (v := ?_) (hi := ?_) (hs := ?_) (hf := ?_) (hr := ?_) (hQ := ?_) (hy := ?_) (hS := ?_) (h := ?_)
             rotate_left 2
             · (simp only [List.getElem?_toArray, List.getElem?_cons_zero]; rfl)
             · kernel_rfl
             · kernel_rfl
             · kernel_rfl
             · exact fun _ _ _ h => h
             · (refine Or.inl ⟨by rfl, ?_⟩; intro wz hSw; (try dsimp only at hSw); go_simp; (try with_reducible rfl))
             · assumption
             (try simp only [Act.put, List.setIfInBounds_toArray, List.set_cons_zero, List.set_cons_succ]))
          | (refine held_skip (i := 0) (oi := ?_) (hi := ?_) (hs := ?_) (hf := ?_) (hr := ?_) (hQ := ?_) (hw := ?_) (hS := ?_) (h := ?_)
             rotate_left 1
             · (simp only [List.getElem?_toArray, List.getElem?_cons_zero]; rfl)
             · kernel_rfl
             · kernel_rfl
             · kernel_rfl
             · exact fun _ _ _ h => h
             · rfl
             · assumption
             (try simp only [Act.put, List.setIfInBounds_toArray, List.set_cons_zero, List.set_cons_succ]))
          | fail
        first
          | (refine wpAnyH_take (i := 1) (oi := ?_) (v := ?_) (hi := ?_) (hs := ?_) (hf := ?_) (hr := ?_) (hQ := ?_) (hy := ?_) (hS := ?_) (h := ?_)
             rotate_left 2
             · (simp only [List.getElem?_toArray, List.getElem?_cons_succ, List.getElem?_cons_zero]; rfl)
             · kernel_rfl
             · kernel_rfl
             · kernel_rfl
             · exact fun _ _ _ h => h
             · (refine Or.inl ⟨by rfl, ?_⟩; intro wz hSw; (try dsimp only at hSw); go_simp; (try with_reducible rfl))
             · assumption
             (try simp only [Act.put, List.setIfInBounds_toArray, List.set_cons_zero, List.set_cons_succ]))
          | (refine held_skip (i := 1) (oi := ?_) (hi := ?_) (hs := ?_) (hf := ?_) (hr := ?_) (hQ := ?_) (hw := ?_) (hS := ?_) (h := ?_)
             rotate_left 1
             · (simp only [List.getElem?_toArray, List.getElem?_cons_succ, List.getElem?_cons_zero]; rfl)
             · kernel_rfl
             · kernel_rfl
             · kernel_rfl
             · exact fun _ _ _ h => h
             · rfl
             · assumption
             (try simp only [Act.put, List.setIfInBounds_toArray, List.set_cons_zero, List.set_cons_succ]))
          | fail
        first
          | (refine wpAnyH_take (i := 2) (oi := ?_) (v := ?_) (hi := ?_) (hs := ?_) (hf := ?_) (hr := ?_) (hQ := ?_) (hy := ?_) (hS := ?_) (h := ?_)
             rotate_left 2
             · (simp only [List.getElem?_toArray, List.getElem?_cons_succ, List.getElem?_cons_zero]; rfl)
             · kernel_rfl
             · kernel_rfl
             · kernel_rfl
             · exact fun _ _ _ h => h
             · (refine Or.inl ⟨by rfl, ?_⟩; intro wz hSw; (try dsimp only at hSw); go_simp; (try with_reducible rfl))
             · assumption
             (try simp only [Act.put, List.setIfInBounds_toArray, List.set_cons_zero, List.set_cons_succ]))
          | (refine held_skip (i := 2) (oi := ?_) (hi := ?_) (hs := ?_) (hf := ?_) (hr := ?_) (hQ := ?_) (hw := ?_) (hS := ?_) (h := ?_)
             rotate_left 1
             · (simp only [List.getElem?_toArray, List.getElem?_cons_succ, List.getElem?_cons_zero]; rfl)
             · kernel_rfl
             · kernel_rfl
             · kernel_rfl
             · exact fun _ _ _ h => h
             · rfl
             · assumption
             (try simp only [Act.put, List.setIfInBounds_toArray, List.set_cons_zero, List.set_cons_succ]))
          | fail
        first
          | (refine wpAnyH_take (i := 3) (oi := ?_) (v := ?_) (hi := ?_) (hs := ?_) (hf := ?_) (hr := ?_) (hQ := ?_) (hy := ?_) (hS := ?_) (h := ?_)
             rotate_left 2
             · (simp only [List.getElem?_toArray, List.getElem?_cons_succ, List.getElem?_cons_zero]; rfl)
             · kernel_rfl
             · kernel_rfl
             · kernel_rfl
             · exact fun _ _ _ h => h
             · (refine Or.inl ⟨by rfl, ?_⟩; intro wz hSw; (try dsimp only at hSw); go_simp; (try with_reducible rfl))
             · assumption
             (try simp only [Act.put, List.setIfInBounds_toArray, List.set_cons_zero, List.set_cons_succ]))
          | (refine held_skip (i := 3) (oi := ?_) (hi := ?_) (hs := ?_) (hf := ?_) (hr := ?_) (hQ := ?_) (hw := ?_) (hS := ?_) (h := ?_)
             rotate_left 1
             · (simp only [List.getElem?_toArray, List.getElem?_cons_succ, List.getElem?_cons_zero]; rfl)
             · kernel_rfl
             · kernel_rfl
             · kernel_rfl
             · exact fun _ _ _ h => h
             · rfl
             · assumption
             (try simp only [Act.put, List.setIfInBounds_toArray, List.set_cons_zero, List.set_cons_succ]))
          | fail
        first
          | (refine wpAnyH_take (i := 4) (oi := ?_) (v := ?_) (hi := ?_) (hs := ?_) (hf := ?_) (hr := ?_) (hQ := ?_) (hy := ?_) (hS := ?_) (h := ?_)
             rotate_left 2
             · (simp only [List.getElem?_toArray, List.getElem?_cons_succ, List.getElem?_cons_zero]; rfl)
             · kernel_rfl
             · kernel_rfl
             · kernel_rfl
             · exact fun _ _ _ h => h
             · (refine Or.inl ⟨by rfl, ?_⟩; intro wz hSw; (try dsimp only at hSw); go_simp; (try with_reducible rfl))
             · assumption
             (try simp only [Act.put, List.setIfInBounds_toArray, List.set_cons_zero, List.set_cons_succ]))
          | (refine held_skip (i := 4) (oi := ?_) (hi := ?_) (hs := ?_) (hf := ?_) (hr := ?_) (hQ := ?_) (hw := ?_) (hS := ?_) (h := ?_)
             rotate_left 1
             · (simp only [List.getElem?_toArray, List.getElem?_cons_succ, List.getElem?_cons_zero]; rfl)
             · kernel_rfl
             · kernel_rfl
             · kernel_rfl
             · exact fun _ _ _ h => h
             · rfl
             · assumption
             (try simp only [Act.put, List.setIfInBounds_toArray, List.set_cons_zero, List.set_cons_succ]))
          | fail
        first
          | (refine wpAnyH_take (i := 6) (oi := ?_) (v := ?_) (hi := ?_) (hs := ?_) (hf := ?_) (hr := ?_) (hQ := ?_) (hy := ?_) (hS := ?_) (h := ?_)
             rotate_left 2
             · (simp only [List.getElem?_toArray, List.getElem?_cons_succ, List.getElem?_cons_zero]; rfl)
             · kernel_rfl
             · kernel_rfl
             · kernel_rfl
             · exact fun _ _ _ h => h
             · (refine Or.inl ⟨by rfl, ?_⟩; intro wz hSw; (try dsimp only at hSw); go_simp; (try with_reducible rfl))
             · assumption
             (try simp only [Act.put, List.setIfInBounds_toArray, List.set_cons_zero, List.set_cons_succ]))
          | (refine held_skip (i := 6) (oi := ?_) (hi := ?_) (hs := ?_) (hf := ?_) (hr := ?_) (hQ := ?_) (hw := ?_) (hS := ?_) (h := ?_)
             rotate_left 1
             · (simp only [List.getElem?_toArray, List.getElem?_cons_succ, List.getElem?_cons_zero]; rfl)
             · kernel_rfl
             · kernel_rfl
             · kernel_rfl
             · exact fun _ _ _ h => h
             · rfl
             · assumption
             (try simp only [Act.put, List.setIfInBounds_toArray, List.set_cons_zero, List.set_cons_succ]))
          | fail
        refine wpAnyH_ready (rs := [5]) (by kernel_rfl) (by simp) ?_
        refine AllReadyH.cons (o := ?_) (ho := ?_) (h := ?_) (hs := AllReadyH.nil)
        rotate_left 1
        · (simp only [List.getElem?_toArray, List.getElem?_cons_succ, List.getElem?_cons_zero]; rfl)
        intro K hK
        go_simp
        refine Calls.mono (HC.out.2.1 _ l cb ct fs (H6.out.1.nil (Keeps.refl w6 []).drew) H2.out.2.1) ?_
        rintro e w7 ⟨rfl, hk7⟩
        have H7 := Lib.hid (show St w7 gs bs l [] fs ∧ Keeps w0 w7 [] from ⟨(H6.out.1.nil (Keeps.refl w6 []).drew).nil hk7, (H6.out.2.trans (fp1 := []) (Keeps.refl w6 []).drew (by simp)).trans (fp1 := []) hk7 (by simp)⟩)
        obtain ⟨d1, d2, d3⟩ := HC.out.2.2.2 _ H7.out.2
        clear hk7
        go_wp2_with fail
        refine hK.out _ _ ?_ (fun hHeld => ?_)
        · (go_keep)
        clear hK K
        (try simp only [Act.put, List.setIfInBounds_toArray, List.set_cons_zero, List.set_cons_succ])
        first
          | (refine wpAnyH_take (i := 7) (oi := ?_) (v := ?_) (hi := ?_) (hs := ?_) (hf := ?_) (hr := ?_) (hQ := ?_) (hy := ?_) (hS := ?_) (h := ?_)
             rotate_left 2
             · (simp only [List.getElem?_toArray, List.getElem?_cons_succ, List.getElem?_cons_zero]; rfl)
             · kernel_rfl
             · kernel_rfl
             · kernel_rfl
             · exact fun _ _ _ h => h
             · (refine Or.inl ⟨by rfl, ?_⟩; intro wz hSw; (try dsimp only at hSw); go_simp; (try with_reducible rfl))
             · assumption
             (try simp only [Act.put, List.setIfInBounds_toArray, List.set_cons_zero, List.set_cons_succ]))
          | (refine held_skip (i := 7) (oi := ?_) (hi := ?_) (hs := ?_) (hf := ?_) (hr := ?_) (hQ := ?_) (hw := ?_) (hS := ?_) (h := ?_)
             rotate_left 1
             · (simp only [List.getElem?_toArray, List.getElem?_cons_succ, List.getElem?_cons_zero]; rfl)
             · kernel_rfl
             · kernel_rfl
             · kernel_rfl
             · exact fun _ _ _ h => h
             · rfl
             · assumption
             (try simp only [Act.put, List.setIfInBounds_toArray, List.set_cons_zero, List.set_cons_succ]))
          | fail
        first
          | (refine wpAnyH_take (i := 8) (oi := ?_) (v := ?_) (hi := ?_) (hs := ?_) (hf := ?_) (hr := ?_) (hQ := ?_) (hy := ?_) (hS := ?_) (h := ?_)
             rotate_left 2
             · (simp only [List.getElem?_toArray, List.getElem?_cons_succ, List.getElem?_cons_zero]; rfl)
             · kernel_rfl
             · kernel_rfl
             · kernel_rfl
             · exact fun _ _ _ h => h
             · (refine Or.inl ⟨by rfl, ?_⟩; intro wz hSw; (try dsimp only at hSw); go_simp; (try with_reducible rfl))
             · assumption
             (try simp only [Act.put, List.setIfInBounds_toArray, List.set_cons_zero, List.set_cons_succ]))
          | (refine held_skip (i := 8) (oi := ?_) (hi := ?_) (hs := ?_) (hf := ?_) (hr := ?_) (hQ := ?_) (hw := ?_) (hS := ?_) (h := ?_)
             rotate_left 1
             · (simp only [List.getElem?_toArray, List.getElem?_cons_succ, List.getElem?_cons_zero]; rfl)
             · kernel_rfl
             · kernel_rfl
             · kernel_rfl
             · exact fun _ _ _ h => h
             · rfl
             · assumption
             (try simp only [Act.put, List.setIfInBounds_toArray, List.set_cons_zero, List.set_cons_succ]))
          | fail
        first
          | (refine wpAnyH_take (i := 9) (oi := ?_) (v := ?_) (hi := ?_) (hs := ?_) (hf := ?_) (hr := ?_) (hQ := ?_) (hy := ?_) (hS := ?_) (h := ?_)
             rotate_left 2
             · (simp only [List.getElem?_toArray, List.getElem?_cons_succ, List.getElem?_cons_zero]; rfl)
             · kernel_rfl
             · kernel_rfl
             · kernel_rfl
             · exact fun _ _ _ h => h
             · (refine Or.inl ⟨by rfl, ?_⟩; intro wz hSw; (try dsimp only at hSw); go_simp; (try with_reducible rfl))
             · assumption
             (try simp only [Act.put, List.setIfInBounds_toArray, List.set_cons_zero, List.set_cons_succ]))
          | (refine held_skip (i := 9) (oi := ?_) (hi := ?_) (hs := ?_) (hf := ?_) (hr := ?_) (hQ := ?_) (hw := ?_) (hS := ?_) (h := ?_)
             rotate_left 1
             · (simp only [List.getElem?_toArray, List.getElem?_cons_succ, List.getElem?_cons_zero]; rfl)
             · kernel_rfl
             · kernel_rfl
             · kernel_rfl
             · exact fun _ _ _ h => h
             · rfl
             · assumption
             (try simp only [Act.put, List.setIfInBounds_toArray, List.set_cons_zero, List.set_cons_succ]))
          | fail
        first
          | (refine wpAnyH_take (i := 10) (oi := ?_) (v := ?_) (hi := ?_) (hs := ?_) (hf := ?_) (hr := ?_) (hQ := ?_) (hy := ?_) (hS := ?_) (h := ?_)
             rotate_left 2
             · (simp only [List.getElem?_toArray, List.getElem?_cons_succ, List.getElem?_cons_zero]; rfl)
             · kernel_rfl
             · kernel_rfl
             · kernel_rfl
             · exact fun _ _ _ h => h
             · (refine Or.inl ⟨by rfl, ?_⟩; intro wz hSw; (try dsimp only at hSw); go_simp; (try with_reducible rfl))
             · assumption
             (try simp only [Act.put, List.setIfInBounds_toArray, List.set_cons_zero, List.set_cons_succ]))
          | (refine held_skip (i := 10) (oi := ?_) (hi := ?_) (hs := ?_) (hf := ?_) (hr := ?_) (hQ := ?_) (hw := ?_) (hS := ?_) (h := ?_)
             rotate_left 1
             · (simp only [List.getElem?_toArray, List.getElem?_cons_succ, List.getElem?_cons_zero]; rfl)
             · kernel_rfl
             · kernel_rfl
             · kernel_rfl
             · exact fun _ _ _ h => h
             · rfl
             · assumption
             (try simp only [Act.put, List.setIfInBounds_toArray, List.set_cons_zero, List.set_cons_succ]))
          | fail
        first
          | (refine wpAnyH_take (i := 11) (oi := ?_) (v := ?_) (hi := ?_) (hs := ?_) (hf := ?_) (hr := ?_) (hQ := ?_) (hy := ?_) (hS := ?_) (h := ?_)
             rotate_left 2
             · (simp only [List.getElem?_toArray, List.getElem?_cons_succ, List.getElem?_cons_zero]; rfl)
             · kernel_rfl
             · kernel_rfl
             · kernel_rfl
             · exact fun _ _ _ h => h
             · (refine Or.inl ⟨by rfl, ?_⟩; intro wz hSw; (try dsimp only at hSw); go_simp; (try with_reducible rfl))
             · assumption
             (try simp only [Act.put, List.setIfInBounds_toArray, List.set_cons_zero, List.set_cons_succ]))
          | (refine held_skip (i := 11) (oi := ?_) (hi := ?_) (hs := ?_) (hf := ?_) (hr := ?_) (hQ := ?_) (hw := ?_) (hS := ?_) (h := ?_)
             rotate_left 1
             · (simp only [List.getElem?_toArray, List.getElem?_cons_succ, List.getElem?_cons_zero]; rfl)
             · kernel_rfl
             · kernel_rfl
             · kernel_rfl
             · exact fun _ _ _ h => h
             · rfl
             · assumption
             (try simp only [Act.put, List.setIfInBounds_toArray, List.set_cons_zero, List.set_cons_succ]))
          | fail
        first
          | (refine wpAnyH_take (i := 12) (oi := ?_) (v := ?_) (hi := ?_) (hs := ?_) (hf := ?_) (hr := ?_) (hQ := ?_) (hy := ?_) (hS := ?_) (h := ?_)
             rotate_left 2
             · (simp only [List.getElem?_toArray, List.getElem?_cons_succ, List.getElem?_cons_zero]; rfl)
             · kernel_rfl
             · kernel_rfl
             · kernel_rfl
             · exact fun _ _ _ h => h
             · (refine Or.inl ⟨by rfl, ?_⟩; intro wz hSw; (try dsimp only at hSw); go_simp; (try with_reducible rfl))
             · assumption
             (try simp only [Act.put, List.setIfInBounds_toArray, List.set_cons_zero, List.set_cons_succ]))
          | (refine held_skip (i := 12) (oi := ?_) (hi := ?_) (hs := ?_) (hf := ?_) (hr := ?_) (hQ := ?_) (hw := ?_) (hS := ?_) (h := ?_)
             rotate_left 1
             · (simp only [List.getElem?_toArray, List.getElem?_cons_succ, List.getElem?_cons_zero]; rfl)
             · kernel_rfl
             · kernel_rfl
             · kernel_rfl
             · exact fun _ _ _ h => h
             · rfl
             · assumption
             (try simp only [Act.put, List.setIfInBounds_toArray, List.set_cons_zero, List.set_cons_succ]))
          | fail
        first
          | (refine wpAnyH_take (i := 13) (oi := ?_) (v := ?_) (hi := ?_) (hs := ?_) (hf := ?_) (hr := ?_) (hQ := ?_) (hy := ?_) (hS := ?_) (h := ?_)
             rotate_left 2
             · (simp only [List.getElem?_toArray, List.getElem?_cons_succ, List.getElem?_cons_zero]; rfl)
             · kernel_rfl
             · kernel_rfl
             · kernel_rfl
             · exact fun _ _ _ h => h
             · (refine Or.inl ⟨by rfl, ?_⟩; intro wz hSw; (try dsimp only at hSw); go_simp; (try with_reducible rfl))
             · assumption
             (try simp only [Act.put, List.setIfInBounds_toArray, List.set_cons_zero, List.set_cons_succ]))
          | (refine held_skip (i := 13) (oi := ?_) (hi := ?_) (hs := ?_) (hf := ?_) (hr := ?_) (hQ := ?_) (hw := ?_) (hS := ?_) (h := ?_)
             rotate_left 1
             · (simp only [List.getElem?_toArray, List.getElem?_cons_succ, List.getElem?_cons_zero]; rfl)
             · kernel_rfl
             · kernel_rfl
             · kernel_rfl
             · exact fun _ _ _ h => h
             · rfl
             · assumption
             (try simp only [Act.put, List.setIfInBounds_toArray, List.set_cons_zero, List.set_cons_succ]))
          | fail
        first
          | (refine wpAnyH_take (i := 14) (oi := ?_) (v := ?_) (hi := ?_) (hs := ?_) (hf := ?_) (hr := ?_) (hQ := ?_) (hy := ?_) (hS := ?_) (h := ?_)
             rotate_left 2
             · (simp only [List.getElem?_toArray, List.getElem?_cons_succ, List.getElem?_cons_zero]; rfl)
             · kernel_rfl
             · kernel_rfl
             · kernel_rfl
             · exact fun _ _ _ h => h
             · (refine Or.inl ⟨by rfl, ?_⟩; intro wz hSw; (try dsimp only at hSw); go_simp; (try with_reducible rfl))
             · assumption
             (try simp only [Act.put, List.setIfInBounds_toArray, List.set_cons_zero, List.set_cons_succ]))
          | (refine held_skip (i := 14) (oi := ?_) (hi := ?_) (hs := ?_) (hf := ?_) (hr := ?_) (hQ := ?_) (hw := ?_) (hS := ?_) (h := ?_)
             rotate_left 1
             · (simp only [List.getElem?_toArray, List.getElem?_cons_succ, List.getElem?_cons_zero]; rfl)
             · kernel_rfl
             · kernel_rfl
             · kernel_rfl
             · exact fun _ _ _ h => h
             · rfl
             · assumption
             (try simp only [Act.put, List.setIfInBounds_toArray, List.set_cons_zero, List.set_cons_succ]))
          | fail
        first
          | (refine wpAnyH_take (i := 15) (oi := ?_) (v := ?_) (hi := ?_) (hs := ?_) (hf := ?_) (hr := ?_) (hQ := ?_) (hy := ?_) (hS := ?_) (h := ?_)
             rotate_left 2
             · (simp only [List.getElem?_toArray, List.getElem?_cons_succ, List.getElem?_cons_zero]; rfl)
             · kernel_rfl
             · kernel_rfl
             · kernel_rfl
             · exact fun _ _ _ h => h
             · (refine Or.inl ⟨by rfl, ?_⟩; intro wz hSw; (try dsimp only at hSw); go_simp; (try with_reducible rfl))
             · assumption
             (try simp only [Act.put, List.setIfInBounds_toArray, List.set_cons_zero, List.set_cons_succ]))
          | (refine held_skip (i := 15) (oi := ?_) (hi := ?_) (hs := ?_) (hf := ?_) (hr := ?_) (hQ := ?_) (hw := ?_) (hS := ?_) (h := ?_)
             rotate_left 1
             · (simp only [List.getElem?_toArray, List.getElem?_cons_succ, List.getElem?_cons_zero]; rfl)
             · kernel_rfl
             · kernel_rfl
             · kernel_rfl
             · exact fun _ _ _ h => h
             · rfl
             · assumption
             (try simp only [Act.put, List.setIfInBounds_toArray, List.set_cons_zero, List.set_cons_succ]))
          | fail
        first
          | (refine wpAnyH_take (i := 16) (oi := ?_) (v := ?_) (hi := ?_) (hs := ?_) (hf := ?_) (hr := ?_) (hQ := ?_) (hy := ?_) (hS := ?_) (h := ?_)
             rotate_left 2
             · (simp only [List.getElem?_toArray, List.getElem?_cons_succ, List.getElem?_cons_zero]; rfl)
             · kernel_rfl
             · kernel_rfl
             · kernel_rfl
             · exact fun _ _ _ h => h
             · (refine Or.inl ⟨by rfl, ?_⟩; intro wz hSw; (try dsimp only at hSw); go_simp; (try with_reducible rfl))
             · assumption
             (try simp only [Act.put, List.setIfInBounds_toArray, List.set_cons_zero, List.set_cons_succ]))
          | (refine held_skip (i := 16) (oi := ?_) (hi := ?_) (hs := ?_) (hf := ?_) (hr := ?_) (hQ := ?_) (hw := ?_) (hS := ?_) (h := ?_)
             rotate_left 1
             · (simp only [List.getElem?_toArray, List.getElem?_cons_succ, List.getElem?_cons_zero]; rfl)
             · kernel_rfl
             · kernel_rfl
             · kernel_rfl
             · exact fun _ _ _ h => h
             · rfl
             · assumption
             (try simp only [Act.put, List.setIfInBounds_toArray, List.set_cons_zero, List.set_cons_succ]))
          | fail
        first
          | (refine wpAnyH_take (i := 17) (oi := ?_) (v := ?_) (hi := ?_) (hs := ?_) (hf := ?_) (hr := ?_) (hQ := ?_) (hy := ?_) (hS := ?_) (h := ?_)
             rotate_left 2
             · (simp only [List.getElem?_toArray, List.getElem?_cons_succ, List.getElem?_cons_zero]; rfl)
             · kernel_rfl
             · kernel_rfl
             · kernel_rfl
             · exact fun _ _ _ h => h
             · (refine Or.inl ⟨by rfl, ?_⟩; intro wz hSw; (try dsimp only at hSw); go_simp; (try with_reducible rfl))
             · assumption
             (try simp only [Act.put, List.setIfInBounds_toArray, List.set_cons_zero, List.set_cons_succ]))
          | (refine held_skip (i := 17) (oi := ?_) (hi := ?_) (hs := ?_) (hf := ?_) (hr := ?_) (hQ := ?_) (hw := ?_) (hS := ?_) (h := ?_)
             rotate_left 1
             · (simp only [List.getElem?_toArray, List.getElem?_cons_succ, List.getElem?_cons_zero]; rfl)
             · kernel_rfl
             · kernel_rfl
             · kernel_rfl
             · exact fun _ _ _ h => h
             · rfl
             · assumption
             (try simp only [Act.put, List.setIfInBounds_toArray, List.set_cons_zero, List.set_cons_succ]))
          | fail
        first
          | (refine wpAnyH_take (i := 18) (oi := ?_) (v := ?_) (hi := ?_) (hs := ?_) (hf := ?_) (hr := ?_) (hQ := ?_) (hy := ?_) (hS := ?_) (h := ?_)
             rotate_left 2
             · (simp only [List.getElem?_toArray, List.getElem?_cons_succ, List.getElem?_cons_zero]; rfl)
             · kernel_rfl
             · kernel_rfl
             · kernel_rfl
             · exact fun _ _ _ h => h
             · (refine Or.inl ⟨by rfl, ?_⟩; intro wz hSw; (try dsimp only at hSw); go_simp; (try with_reducible rfl))
             · assumption
             (try simp only [Act.put, List.setIfInBounds_toArray, List.set_cons_zero, List.set_cons_succ]))
          | (refine held_skip (i := 18) (oi := ?_) (hi := ?_) (hs := ?_) (hf := ?_) (hr := ?_) (hQ := ?_) (hw := ?_) (hS := ?_) (h := ?_)
             rotate_left 1
             · (simp only [List.getElem?_toArray, List.getElem?_cons_succ, List.getElem?_cons_zero]; rfl)
             · kernel_rfl
             · kernel_rfl
             · kernel_rfl
             · exact fun _ _ _ h => h
             · rfl
             · assumption
             (try simp only [Act.put, List.setIfInBounds_toArray, List.set_cons_zero, List.set_cons_succ]))
          | fail
        first
          | (refine wpAnyH_take (i := 19) (oi := ?_) (v := ?_) (hi := ?_) (hs := ?_) (hf := ?_) (hr := ?_) (hQ := ?_) (hy := ?_) (hS := ?_) (h := ?_)
             rotate_left 2
             · (simp only [List.getElem?_toArray, List.getElem?_cons_succ, List.getElem?_cons_zero]; rfl)
             · kernel_rfl
             · kernel_rfl
             · kernel_rfl
             · exact fun _ _ _ h => h
             · (refine Or.inl ⟨by rfl, ?_⟩; intro wz hSw; (try dsimp only at hSw); go_simp; (try with_reducible rfl))
             · assumption
             (try simp only [Act.put, List.setIfInBounds_toArray, List.set_cons_zero, List.set_cons_succ]))
          | (refine held_skip (i := 19) (oi := ?_) (hi := ?_) (hs := ?_) (hf := ?_) (hr := ?_) (hQ := ?_) (hw := ?_) (hS := ?_) (h := ?_)
             rotate_left 1
             · (simp only [List.getElem?_toArray, List.getElem?_cons_succ, List.getElem?_cons_zero]; rfl)
             · kernel_rfl
             · kernel_rfl
             · kernel_rfl
             · exact fun _ _ _ h => h
             · rfl
             · assumption
             (try simp only [Act.put, List.setIfInBounds_toArray, List.set_cons_zero, List.set_cons_succ]))
          | fail
        first
          | (refine wpAnyH_take (i := 20) (oi := ?_) (v := ?_) (hi := ?_) (hs := ?_) (hf := ?_) (hr := ?_) (hQ := ?_) (hy := ?_) (hS := ?_) (h := ?_)
             rotate_left 2
             · (simp only [List.getElem?_toArray, List.getElem?_cons_succ, List.getElem?_cons_zero]; rfl)
             · kernel_rfl
             · kernel_rfl
             · kernel_rfl
             · exact fun _ _ _ h => h
             · (refine Or.inl ⟨by rfl, ?_⟩; intro wz hSw; (try dsimp only at hSw); go_simp; (try with_reducible rfl))
             · assumption
             (try simp only [Act.put, List.setIfInBounds_toArray, List.set_cons_zero, List.set_cons_succ]))
          | (refine held_skip (i := 20) (oi := ?_) (hi := ?_) (hs := ?_) (hf := ?_) (hr := ?_) (hQ := ?_) (hw := ?_) (hS := ?_) (h := ?_)
             rotate_left 1
             · (simp only [List.getElem?_toArray, List.getElem?_cons_succ, List.getElem?_cons_zero]; rfl)
             · kernel_rfl
             · kernel_rfl
             · kernel_rfl
             · exact fun _ _ _ h => h
             · rfl
             · assumption
             (try simp only [Act.put, List.setIfInBounds_toArray, List.set_cons_zero, List.set_cons_succ]))
          | fail
        first
          | (refine wpAnyH_take (i := 21) (oi := ?_) (v := ?_) (hi := ?_) (hs := ?_) (hf := ?_) (hr := ?_) (hQ := ?_) (hy := ?_) (hS := ?_) (h := ?_)
             rotate_left 2
             · (simp only [List.getElem?_toArray, List.getElem?_cons_succ, List.getElem?_cons_zero]; rfl)
             · kernel_rfl
             · kernel_rfl
             · kernel_rfl
             · exact fun _ _ _ h => h
             · (refine Or.inl ⟨by rfl, ?_⟩; intro wz hSw; (try dsimp only at hSw); go_simp; (try with_reducible rfl))
             · assumption
             (try simp only [Act.put, List.setIfInBounds_toArray, List.set_cons_zero, List.set_cons_succ]))
          | (refine held_skip (i := 21) (oi := ?_) (hi := ?_) (hs := ?_) (hf := ?_) (hr := ?_) (hQ := ?_) (hw := ?_) (hS := ?_) (h := ?_)
             rotate_left 1
             · (simp only [List.getElem?_toArray, List.getElem?_cons_succ, List.getElem?_cons_zero]; rfl)
             · kernel_rfl
             · kernel_rfl
             · kernel_rfl
             · exact fun _ _ _ h => h
             · rfl
             · assumption
             (try simp only [Act.put, List.setIfInBounds_toArray, List.set_cons_zero, List.set_cons_succ]))
          | fail
        first
          | (refine wpAnyH_take (i := 22) (oi := ?_) (v := ?_) (hi := ?_) (hs := ?_) (hf := ?_) (hr := ?_) (hQ := ?_) (hy := ?_) (hS := ?_) (h := ?_)
             rotate_left 2
             · (simp only [List.getElem?_toArray, List.getElem?_cons_succ, List.getElem?_cons_zero]; rfl)
             · kernel_rfl
             · kernel_rfl
             · kernel_rfl
             · exact fun _ _ _ h => h
             · (refine Or.inl ⟨by rfl, ?_⟩; intro wz hSw; (try dsimp only at hSw); go_simp; (try with_reducible rfl))
             · assumption
             (try simp only [Act.put, List.setIfInBounds_toArray, List.set_cons_zero, List.set_cons_succ]))
          | (refine held_skip (i := 22) (oi := ?_) (hi := ?_) (hs := ?_) (hf := ?_) (hr := ?_) (hQ := ?_) (hw := ?_) (hS := ?_) (h := ?_)
             rotate_left 1
             · (simp only [List.getElem?_toArray, List.getElem?_cons_succ, List.getElem?_cons_zero]; rfl)
             · kernel_rfl
             · kernel_rfl
             · kernel_rfl
             · exact fun _ _ _ h => h
             · rfl
             · assumption
             (try simp only [Act.put, List.setIfInBounds_toArray, List.set_cons_zero, List.set_cons_succ]))
          | fail
        first
          | (refine wpAnyH_take (i := 23) (oi := ?_) (v := ?_) (hi := ?_) (hs := ?_) (hf := ?_) (hr := ?_) (hQ := ?_) (hy := ?_) (hS := ?_) (h := ?_)
             rotate_left 2
             · (simp only [List.getElem?_toArray, List.getElem?_cons_succ, List.getElem?_cons_zero]; rfl)
             · kernel_rfl
             · kernel_rfl
             · kernel_rfl
             · exact fun _ _ _ h => h
             · (refine Or.inl ⟨by rfl, ?_⟩; intro wz hSw; (try dsimp only at hSw); go_simp; (try with_reducible rfl))
             · assumption
             (try simp only [Act.put, List.setIfInBounds_toArray, List.set_cons_zero, List.set_cons_succ]))
          | (refine held_skip (i := 23) (oi := ?_) (hi := ?_) (hs := ?_) (hf := ?_) (hr := ?_) (hQ := ?_) (hw := ?_) (hS := ?_) (h := ?_)
             rotate_left 1
             · (simp only [List.getElem?_toArray, List.getElem?_cons_succ, List.getElem?_cons_zero]; rfl)
             · kernel_rfl
             · kernel_rfl
             · kernel_rfl
             · exact fun _ _ _ h => h
             · rfl
             · assumption
             (try simp only [Act.put, List.setIfInBounds_toArray, List.set_cons_zero, List.set_cons_succ]))
          | fail
        first
          | (refine wpAnyH_take (i := 24) (oi := ?_) (v := ?_) (hi := ?_) (hs := ?_) (hf := ?_) (hr := ?_) (hQ := ?_) (hy := ?_) (hS := ?_) (h := ?_)
             rotate_left 2
             · (simp only [List.getElem?_toArray, List.getElem?_cons_succ, List.getElem?_cons_zero]; rfl)
             · kernel_rfl
             · kernel_rfl
             · kernel_rfl
             · exact fun _ _ _ h => h
             · (refine Or.inl ⟨by rfl, ?_⟩; intro wz hSw; (try dsimp only at hSw); go_simp; (try with_reducible rfl))
             · assumption
             (try simp only [Act.put, List.setIfInBounds_toArray, List.set_cons_zero, List.set_cons_succ]))
          | (refine held_skip (i := 24) (oi := ?_) (hi := ?_) (hs := ?_) (hf := ?_) (hr := ?_) (hQ := ?_) (hw := ?_) (hS := ?_) (h := ?_)
             rotate_left 1
             · (simp only [List.getElem?_toArray, List.getElem?_cons_succ, List.getElem?_cons_zero]; rfl)
             · kernel_rfl
             · kernel_rfl
             · kernel_rfl
             · exact fun _ _ _ h => h
             · rfl
             · assumption
             (try simp only [Act.put, List.setIfInBounds_toArray, List.set_cons_zero, List.set_cons_succ]))
          | fail
        first
          | (refine wpAnyH_take (i := 25) (oi := ?_) (v := ?_) (hi := ?_) (hs := ?_) (hf := ?_) (hr := ?_) (hQ := ?_) (hy := ?_) (hS := ?_) (h := ?_)
             rotate_left 2
             · (simp only [List.getElem?_toArray, List.getElem?_cons_succ, List.getElem?_cons_zero]; rfl)
             · kernel_rfl
             · kernel_rfl
             · kernel_rfl
             · exact fun _ _ _ h => h
             · (refine Or.inl ⟨by rfl, ?_⟩; intro wz hSw; (try dsimp only at hSw); go_simp; (try with_reducible rfl))
             · assumption
             (try simp only [Act.put, List.setIfInBounds_toArray, List.set_cons_zero, List.set_cons_succ]))
          | (refine held_skip (i := 25) (oi := ?_) (hi := ?_) (hs := ?_) (hf := ?_) (hr := ?_) (hQ := ?_) (hw := ?_) (hS := ?_) (h := ?_)
             rotate_left 1
             · (simp only [List.getElem?_toArray, List.getElem?_cons_succ, List.getElem?_cons_zero]; rfl)
             · kernel_rfl
             · kernel_rfl
             · kernel_rfl
             · exact fun _ _ _ h => h
             · rfl
             · assumption
             (try simp only [Act.put, List.setIfInBounds_toArray, List.set_cons_zero, List.set_cons_succ]))
          | fail
        first
          | (refine wpAnyH_take (i := 26) (oi := ?_) (v := ?_) (hi := ?_) (hs := ?_) (hf := ?_) (hr := ?_) (hQ := ?_) (hy := ?_) (hS := ?_) (h := ?_)
             rotate_left 2
             · (simp only [List.getElem?_toArray, List.getElem?_cons_succ, List.getElem?_cons_zero]; rfl)
             · kernel_rfl
             · kernel_rfl
             · kernel_rfl
             · exact fun _ _ _ h => h
             · (refine Or.inl ⟨by rfl, ?_⟩; intro wz hSw; (try dsimp only at hSw); go_simp; (try with_reducible rfl))
             · assumption
             (try simp only [Act.put, List.setIfInBounds_toArray, List.set_cons_zero, List.set_cons_succ]))
          | (refine held_skip (i := 26) (oi := ?_) (hi := ?_) (hs := ?_) (hf := ?_) (hr := ?_) (hQ := ?_) (hw := ?_) (hS := ?_) (h := ?_)
             rotate_left 1
             · (simp only [List.getElem?_toArray, List.getElem?_cons_succ, List.getElem?_cons_zero]; rfl)
             · kernel_rfl
             · kernel_rfl
             · kernel_rfl
             · exact fun _ _ _ h => h
             · rfl
             · assumption
             (try simp only [Act.put, List.setIfInBounds_toArray, List.set_cons_zero, List.set_cons_succ]))
          | fail
        first
          | (refine wpAnyH_take (i := 27) (oi := ?_) (v := ?_) (hi := ?_) (hs := ?_) (hf := ?_) (hr := ?_) (hQ := ?_) (hy := ?_) (hS := ?_) (h := ?_)
             rotate_left 2
             · (simp only [List.getElem?_toArray, List.getElem?_cons_succ, List.getElem?_cons_zero]; rfl)
             · kernel_rfl
             · kernel_rfl
             · kernel_rfl
             · exact fun _ _ _ h => h
             · (refine Or.inl ⟨by rfl, ?_⟩; intro wz hSw; (try dsimp only at hSw); go_simp; (try with_reducible rfl))
             · assumption
             (try simp only [Act.put, List.setIfInBounds_toArray, List.set_cons_zero, List.set_cons_succ]))
          | (refine held_skip (i := 27) (oi := ?_) (hi := ?_) (hs := ?_) (hf := ?_) (hr := ?_) (hQ := ?_) (hw := ?_) (hS := ?_) (h := ?_)
             rotate_left 1
             · (simp only [List.getElem?_toArray, List.getElem?_cons_succ, List.getElem?_cons_zero]; rfl)
             · kernel_rfl
             · kernel_rfl
             · kernel_rfl
             · exact fun _ _ _ h => h
             · rfl
             · assumption
             (try simp only [Act.put, List.setIfInBounds_toArray, List.set_cons_zero, List.set_cons_succ]))
          | fail
        first
          | (refine wpAnyH_take (i := 28) (oi := ?_) (v := ?_) (hi := ?_) (hs := ?_) (hf := ?_) (hr := ?_) (hQ := ?_) (hy := ?_) (hS := ?_) (h := ?_)
             rotate_left 2
             · (simp only [List.getElem?_toArray, List.getElem?_cons_succ, List.getElem?_cons_zero]; rfl)
             · kernel_rfl
             · kernel_rfl
             · kernel_rfl
             · exact fun _ _ _ h => h
             · (refine Or.inl ⟨by rfl, ?_⟩; intro wz hSw; (try dsimp only at hSw); go_simp; (try with_reducible rfl))
             · assumption
             (try simp only [Act.put, List.setIfInBounds_toArray, List.set_cons_zero, List.set_cons_succ]))
          | (refine held_skip (i := 28) (oi := ?_) (hi := ?_) (hs := ?_) (hf := ?_) (hr := ?_) (hQ := ?_) (hw := ?_) (hS := ?_) (h := ?_)
             rotate_left 1
             · (simp only [List.getElem?_toArray, List.getElem?_cons_succ, List.getElem?_cons_zero]; rfl)
             · kernel_rfl
             · kernel_rfl
             · kernel_rfl
             · exact fun _ _ _ h => h
             · rfl
             · assumption
             (try simp only [Act.put, List.setIfInBounds_toArray, List.set_cons_zero, List.set_cons_succ]))
          | fail
        first
          | (refine wpAnyH_take (i := 29) (oi := ?_) (v := ?_) (hi := ?_) (hs := ?_) (hf := ?_) (hr := ?_) (hQ := ?_) (hy := ?_) (hS := ?_) (h := ?_)
             rotate_left 2
             · (simp only [List.getElem?_toArray, List.getElem?_cons_succ, List.getElem?_cons_zero]; rfl)
             · kernel_rfl
             · kernel_rfl
             · kernel_rfl
             · exact fun _ _ _ h => h
             · (refine Or.inl ⟨by rfl, ?_⟩; intro wz hSw; (try dsimp only at hSw); go_simp; (try with_reducible rfl))
             · assumption
             (try simp only [Act.put, List.setIfInBounds_toArray, List.set_cons_zero, List.set_cons_succ]))
          | (refine held_skip (i := 29) (oi := ?_) (hi := ?_) (hs := ?_) (hf := ?_) (hr := ?_) (hQ := ?_) (hw := ?_) (hS := ?_) (h := ?_)
             rotate_left 1
             · (simp only [List.getElem?_toArray, List.getElem?_cons_succ, List.getElem?_cons_zero]; rfl)
             · kernel_rfl
             · kernel_rfl
             · kernel_rfl
             · exact fun _ _ _ h => h
             · rfl
             · assumption
             (try simp only [Act.put, List.setIfInBounds_toArray, List.set_cons_zero, List.set_cons_succ]))
          | fail
        first
          | (refine wpAnyH_take (i := 30) (oi := ?_) (v := ?_) (hi := ?_) (hs := ?_) (hf := ?_) (hr := ?_) (hQ := ?_) (hy := ?_) (hS := ?_) (h := ?_)
             rotate_left 2
             · (simp only [List.getElem?_toArray, List.getElem?_cons_succ, List.getElem?_cons_zero]; rfl)
             · kernel_rfl
             · kernel_rfl
             · kernel_rfl
             · exact fun _ _ _ h => h
             · (refine Or.inl ⟨by rfl, ?_⟩; intro wz hSw; (try dsimp only at hSw); go_simp; (try with_reducible rfl))
             · assumption
             (try simp only [Act.put, List.setIfInBounds_toArray, List.set_cons_zero, List.set_cons_succ]))
          | (refine held_skip (i := 30) (oi := ?_) (hi := ?_) (hs := ?_) (hf := ?_) (hr := ?_) (hQ := ?_) (hw := ?_) (hS := ?_) (h := ?_)
             rotate_left 1
             · (simp only [List.getElem?_toArray, List.getElem?_cons_succ, List.getElem?_cons_zero]; rfl)
             · kernel_rfl
             · kernel_rfl
             · kernel_rfl
             · exact fun _ _ _ h => h
             · rfl
             · assumption
             (try simp only [Act.put, List.setIfInBounds_toArray, List.set_cons_zero, List.set_cons_succ]))
          | fail
        refine wpAnyH_done (by kernel_rfl) ?_ _
        go_wp2_with fail
        go_ret
        exact ⟨by simp, (H0.out.2.2.2.1.trans (fp1 := []) H7.out.2 (by simp)).below (Nat.le_refl _) (by simp)⟩
      · obtain ⟨mW, rfl⟩ : ∃ mW : Nat, W = mW := ⟨W.toNat, by omega⟩
        have hsv := torn_ok gs bs l [] fs w4 B S b.length cB cS b fB sv fS mW (by omega) H4.out.1 (H2.out.2.1.fit.mono (by omega)) hrB4 hwf hdB hrS4 hsl hdS hrS4.lt (by omega) hcap hbt
        have hgt := H2.out.2.1.torn hwf (by omega) (by omega) mW sv
        obtain ⟨l1, hl1e⟩ : ∃ l1, l1 = land (saveTo l [] b (some mW)).1 (surv (saveTo l [] b (some mW)).2 sv) := ⟨_, rfl⟩
        rw [← hl1e] at hsv hgt
        obtain ⟨ct1, hct1⟩ : ∃ ct1, ct1 = ct + 1 := ⟨_, rfl⟩
        have hwr : IntKind.u64.wrap ((ct : Int) + 1) = (ct1 : Int) := by rw [IntKind.wrap_u64]; omega
        have htne : ((ct1 : Int) == (ct : Int)) = false := by simp; omega
        rw [← hct1] at hgt
        have HS := Lib.hid (And.intro hsv (And.intro hgt hrB4))
        clear hsv hgt hl1e hgood hrB hrS hltB hltS hrB4 hrS4 hdB hdS hct hwf hcap hcapm hWm hsl hbt hfull hR kx3 kx4 hneg hct1
        go_wp2_with fail
        refine HS.out.1.mono ?_
        rintro e w5 ⟨rfl, f5, hs5, hk5, hn5⟩
        have hK5 : Keeps w0 w5 [] := H4.out.2.trans hk5 (fun k hk hm => by have := H2.out.2.2.2.2 k hm; have := H0.out.2.2.2.1.size; omega)
        have H5 := Lib.hid (And.intro hs5 hK5)
        clear hs5 hk5 hn5 hK5 c1 c2 c3
        go_wp2_with fail
        rcases HS.out.2.1 with hg | hg
        · refine Calls.mono (HC.out.1 _ l1 cb ct f5 H5.out.1 hg) ?_
          rintro e w6 ⟨A6, c6, f6, rfl, hr6, hf6, hk6⟩
          have kx6 := str_reads w6 A6 cb.length c6 cb f6 hr6
          have H6 := Lib.hid (show St w6 gs bs l1 [] f5 ∧ Keeps w0 w6 [] ∧ Good l1 cb ct from ⟨H5.out.1.nil hk6, H5.out.2.trans (fp1 := []) hk6 (by simp), hg⟩)
          clear hr6 hf6 hk6 hg hwr htne
          go_wp2_with fail
          refine Calls.mono (HC.out.2.1 _ l1 cb ct f5 H6.out.1 H6.out.2.2) ?_
          rintro e w7 ⟨rfl, hk7⟩
          have H7 := Lib.hid (show Keeps w0 w7 [] from H6.out.2.1.trans (fp1 := []) hk7 (by simp))
          clear hk7
          go_wp2_with fail
          go_ret
          exact ⟨by simp, (H0.out.2.2.2.1.trans (fp1 := []) H7.out (by simp)).below (Nat.le_refl _) (by simp)⟩
        · refine Calls.mono (HC.out.1 _ l1 b ct1 f5 H5.out.1 hg) ?_
          rintro e w6 ⟨A6, c6, f6, rfl, hr6, hf6, hk6⟩
          have kx6 := str_reads w6 A6 b.length c6 b f6 hr6
          have H6 := Lib.hid (show St w6 gs bs l1 [] f5 ∧ Keeps w0 w6 [] ∧ Good l1 b ct1 from ⟨H5.out.1.nil hk6, H5.out.2.trans (fp1 := []) hk6 (by simp), hg⟩)
          have kxb : ∀ wx, Keeps w0 wx [] → (convert 22 9 (.slice B b.length cB)).run Try.prog wx = .ok (.string (strB b)) wx := fun wx hk => str_reads wx B b.length cB b fB (H0.out.2.2.2.2.1.keeps hk (by simp))
          clear hr6 hf6 hk6 hg
          obtain ⟨sb, hsb⟩ : ∃ sb, sb = strB b := ⟨_, rfl⟩
          obtain ⟨sc, hsc⟩ : ∃ sc, sc = strB cb := ⟨_, rfl⟩
          rw [← hsb] at kx6
          simp only [← hsb] at kxb
          simp only [← hsc]
          have HK := Lib.hid kxb
          clear kxb hsb hsc
          by_cases hse : sb = sc
          · subst hse
            go_wp2_with fail
            refine Calls.mono (HC.out.2.1 _ l1 b ct1 f5 H6.out.1 H6.out.2.2) ?_
            rintro e w7 ⟨rfl, hk7⟩
            have H7 := Lib.hid (show St w7 gs bs l1 [] f5 ∧ Keeps w0 w7 [] from ⟨H6.out.1.nil hk7, H6.out.2.1.trans (fp1 := []) hk7 (by simp)⟩)
            obtain ⟨d1, d2, d3⟩ := HC.out.2.2.2 _ H7.out.2
            have kx7 := HK.out w7 H7.out.2
            clear hk7
            go_wp2_with fail
            refine Calls.mono (HC.out.2.1 _ l1 b ct1 f5 H7.out.1 H6.out.2.2) ?_
            rintro e w8 ⟨rfl, hk8⟩
            have H8 := Lib.hid (show Keeps w0 w8 [] from H7.out.2.trans (fp1 := []) hk8 (by simp))
            clear hk8
            go_wp2_with fail
            go_ret
            exact ⟨by simp, (H0.out.2.2.2.1.trans (fp1 := []) H8.out (by simp)).below (Nat.le_refl _) (by simp)⟩
          · have hsn := str_ne hse
            obtain ⟨d1, d2, d3⟩ := HC.out.2.2.2 _ H6.out.2.1
            have kx7 := HK.out w6 H6.out.2.1
            go_wp2_with fail
            refine Calls.mono (HC.out.2.1 _ l1 b ct1 f5 H6.out.1 H6.out.2.2) ?_
            rintro e w7 ⟨rfl, hk7⟩
            have H7 := Lib.hid (show Keeps w0 w7 [] from H6.out.2.1.trans (fp1 := []) hk7 (by simp))
            clear hk7
            go_wp2_with fail
            go_ret
            exact ⟨by simp, (H0.out.2.2.2.1.trans (fp1 := []) H7.out (by simp)).below (Nat.le_refl _) (by simp)⟩

/-! ### the row (its frame is printed by gen.py; the walk is above) -/
theorem own : ownKnob Try.prog.godebug = none := by kernel_rfl
theorem laidOut : laidOutB Try.prog = true := by kernel_rfl
set_option maxRecDepth 100000 in
theorem lifted (os : Os) (started : os.Started) (H : Type) (enc : TypeId × Value → H) :
    ReturnsInHanded {} Try.checked os 6 .any (Rows.slotsTornSpec.pre6 enc Try.prog Try.f6 Rows.slotsTornRow.domain false) (Rows.slotsTornSpec.post enc Try.prog Try.f6 false true false false) := by
  refine returnsInHanded_of_change (C := Try.checked) own started (by kernel_rfl) Try.func6
    (ChangeSpec.witness6 (enc := enc) (C := Try.checked) false ⟨#[], #[.int .u8 0, .slice none 0 0, .agg #[.int .i64 0, .slice none 0 0, .int .i64 0, .slice none 0 0]], []⟩ 8 (by kernel_rfl) (by kernel_rfl) (by kernel_rfl) (by kernel_rfl)) ?_
  intro W base args ds gs before hval0 hW hcnd _
  have hval : ∀ (j : Nat) t v, Try.f6.params[j]? = some t → args[j]? = some v → Value.okWide Try.prog W .any base t v := hval0
  have hW' := hW
  obtain ⟨p, q, hA0, hV, rfl, hfz, hnd⟩ := hW
  have hA : DataW.TrodAll enc Try.prog W 0 (fun _ => true) true Try.f6.params.toList args.toList ds p := hA0
  rw [Try.params6] at hA hval
  obtain ⟨v0, vs0, d0, ds0, p0, q0, hargs, rfl, rfl, h0, r0⟩ := trodAll_cons hA
  obtain ⟨v1, vs1, d1, ds1, p1, q1, rfl, rfl, rfl, h1, r1⟩ := trodAll_cons r0
  obtain ⟨v2, vs2, d2, ds2, p2, q2, rfl, rfl, rfl, h2, r2⟩ := trodAll_cons r1
  obtain ⟨rfl, rfl, rfl⟩ := trodAll_nil r2
  obtain rfl : args = #[v0, v1, v2] := by cases args; simp_all
  obtain ⟨rfl, rfl⟩ := trodVars_none hV
  have k0 := h0
  have lt0 : ∀ x ∈ p0, x.block < W.heap.size := by obtain ⟨m, hm⟩ := k0; exact DataW.trod_lt m _ _ _ hm
  obtain ⟨x0, rfl, rfl, rfl, w0⟩ := open_int Try.underlying5 (hval 0 5 v0 rfl rfl) h0
  have k1 := h1
  have lt1 : ∀ x ∈ p1, x.block < W.heap.size := by obtain ⟨m, hm⟩ := k1; exact DataW.trod_lt m _ _ _ hm
  obtain ⟨a1, len1, cap1, rfl⟩ := okWide_slice Try.underlying42 (hval 1 42 v1 rfl rfl)
  obtain ⟨fuel1, hf1⟩ := h1
  obtain ⟨x1, w1⟩ := open_sdeeds (by simpa [Value.cells] using hf1)
  have k2 := h2
  have lt2 : ∀ x ∈ p2, x.block < W.heap.size := by obtain ⟨m, hm⟩ := k2; exact DataW.trod_lt m _ _ _ hm
  obtain ⟨x2, rfl, w2⟩ := open_sdeed (hval 2 50 v2 rfl rfl) h2
  clear hA0 hval0
  refine (walk x0 a1 len1 cap1 x1 x2 W w0 w1 w2).mono fun e W' ⟨he, bel⟩ => ?_
  subst he
  exact ⟨_, rfl, _, _, _, [], _, [], hW', trodAll_mk1 (shut_bool Try.underlying4 _), (trodAll_cons_mk (Below.trod laidOut (by kernel_rfl) (of_decide_eq_true (by kernel_rfl)) k0 bel lt0) (trodAll_cons_mk (Below.trod laidOut (by kernel_rfl) (of_decide_eq_true (by kernel_rfl)) k1 bel lt1) (trodAll_cons_mk (Below.trod laidOut (by kernel_rfl) (of_decide_eq_true (by kernel_rfl)) k2 bel lt2) trodAll_mk0))), rfl, bel.frame _, fun h => by cases h⟩

theorem over : Rows.slotsTornRow.holds Try.pinned (OpenSpec.ofChange Rows.slotsTornSpec) :=
  OpenClaim.holds_of_wide 6 Try.f6 rfl rfl rfl rfl rfl rfl rfl ⟨rfl, rfl, rfl, rfl, rfl⟩ rfl rfl rfl rfl rfl (by kernel_rfl) Try.func6 (by kernel_rfl)
    (of_decide_eq_true (by kernel_rfl)) (by unfold Func.isWrapper; first | (rw [if_pos (by decide +kernel)]; kernel_rfl) | (rw [if_neg (by decide +kernel)]; exact ⟨rfl, rfl⟩))
    (fun os started H enc _ => lifted os started H enc)

theorem proved : Rows.SlotsTornSaid := over
#print axioms proved
end Go.Proofs.Ytecjhaohabjkbaa.vSlotsTorn
