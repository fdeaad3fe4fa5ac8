/-
  CONTRACTS: heliographlaw08.do: one deed on both stores.
-/
import Derived.Test.YtecjhaohabjkbaaP14
namespace Go.Proofs.Ytecjhaohabjkbaa
open Go.RowKit
set_option linter.unusedVariables false

set_option maxHeartbeats 3200000 in set_option maxRecDepth 100000 in
set_option maxRecDepth 100000 in
theorem pdo_calls (gs bs gr br : Nat) (l : List Sec) (cb : List Int) (ct : Nat) (fs fr : List Nat) (x : SDeed) (w : World) (h : SBoth w gs bs gr br l cb ct fs fr) (hx : x.good w)
    (fB fS : List Nat) (hB : Reads w 1 x.B x.b.length (bytes x.b) fB) (hd1 : ∀ k ∈ fB, k ∉ fs ++ fr) (hS : Reads w 1 x.S x.sv.length (bools x.sv) fS) (hd2 : ∀ k ∈ fS, k ∉ fs ++ fr) (hct : ct ≤ 100000) :
    Calls Try.prog 31 #[.pointer (some ⟨gs, 0, none⟩), .pointer (some ⟨gr, 0, none⟩), x.val] w (SDo w gs bs gr br l.length ct fs fr) := by
  obtain ⟨kind, B, b, cB, W, S, sv, cS⟩ := x
  obtain ⟨hwf, hcap, hcapm, hWm, hsl, -, -⟩ := hx
  simp only [SDeed.val] at hwf hcap hcapm hWm hsl hB hS hd1 hd2 ⊢
  obtain ⟨n, hn⟩ : ∃ n, n = b.length := ⟨_, rfl⟩
  obtain ⟨fb, hb7, hfb⟩ := hB.take (k := min b.length 700) (by omega)
  have e7 : (bytes b).take (min b.length 700 * 1) = bytes (b.take 700) := by
    rw [Nat.mul_one]
    show (b.map _).take _ = (b.take _).map _
    rw [← List.map_take, show b.take (min b.length 700) = b.take 700 by rw [List.take_eq_take_iff]; omega]
  rw [e7] at hb7
  obtain ⟨n7, hn7⟩ : ∃ n7, n7 = min b.length 700 := ⟨_, rfl⟩
  obtain ⟨b7, hb7e⟩ : ∃ b7, b7 = b.take 700 := ⟨_, rfl⟩
  have hlen7 : b7.length = n7 := by rw [hb7e, hn7, List.length_take]; omega
  have hwf7 : Wf8 b7 := by rw [hb7e]; exact hwf.take 700
  rw [← hn7, ← hb7e] at hb7
  have hfew : ∀ wx, Calls Try.prog 22 #[.slice B b.length cB] wx fun e w' => e = .returned (.slice B n7 cB) ∧ wx = w' := fun wx => by
    rw [hn7]; exact few_calls B b.length cB wx (by omega) hcap hcapm
  rw [← hn] at hfew ⊢
  have hbox := Blk.new w 50 #[.int .i64 kind, .slice B n cB, .int .i64 W, .slice S sv.length cS]
  obtain ⟨w0, hw0⟩ : ∃ w0, w0 = w.alloc (.cells #[.int .i64 kind, .slice B n cB, .int .i64 W, .slice S sv.length cS] 50) := ⟨_, rfl⟩
  have hk0 : Keeps w w0 [] := by subst hw0; exact (Keeps.refl w []).alloc _
  rw [← hw0] at hbox
  have c1 : w0.cell? ⟨w.heap.size, 1, none⟩ = some (.slice B n cB) := hbox.cell 1
  have c2 : w0.cell? ⟨w.heap.size, 2, none⟩ = some (.int .i64 W) := hbox.cell 2
  have c3 : w0.cell? ⟨w.heap.size, 3, none⟩ = some (.slice S sv.length cS) := hbox.cell 3
  have hbf : w.heap.size ∉ fs := fun hm => by have := h.s.lt _ hm; omega
  have hbf2 : w.heap.size ∉ fr := fun hm => by have := h.r.lt _ hm; omega
  have hfin : ∀ (w1 w3 : World) (l' : List Sec) (cb' : List Int) (ct' : Nat), SS w0.drew fs gs bs l' [] w1 → RSS w1 fr gr br l' [] w3 → Good l' cb' ct' → l'.length = l.length → ct' ≤ ct + 1 →
      SDo w gs bs gr br l.length ct fs fr (.returned (.bool true)) w3 := fun w1 w3 l' cb' ct' h1 h2 hg hl hc => by
    have hkd : Keeps w w0.drew [] := hk0.trans (Keeps.refl w0 []).drew (by simp)
    obtain ⟨fs', fr', hb, hk, hnn⟩ := (h.nil hkd).steps h1 h2 hg
    refine ⟨l', cb', ct', fs', fr', rfl, hb, hl, hc, (hkd.mono (by simp)).trans hk (fun _ _ h => h), fun k hm => ?_⟩
    rcases hnn k hm with h | h
    · exact .inl h
    · have := hkd.size; right; omega
  have HFIN := Lib.hid hfin
  have hkd0 : Keeps w w0.drew [] := hk0.trans (Keeps.refl w0 []).drew (by simp)
  have HF := Lib.hid hfew
  clear hfin hfew
  by_cases hk0' : kind = 0
  · subst hk0'
    obtain ⟨code, l', cb', ct', hg', hl', hct', hsv, hrsv⟩ := save_both h.good hct B n7 cB b7 hlen7 hwf7 (by omega) (by omega)
    have HS := Lib.hid (And.intro (hsv gs bs fs w0.drew fb (h.s.nil hkd0) (hb7.keeps hkd0 (by simp)) (fun k hk hm => hd1 k (hfb k hk) (by simp [hm])))
      (show ∀ w1, SS w0.drew fs gs bs l' [] w1 → Calls Try.prog 36 #[.pointer (some ⟨gr, 0, none⟩), .slice B n7 cB] w1 (fun e w' => e = .returned (.int .i64 code) ∧ RSS w1 fr gr br l' [] w') from fun w1 hss => by
        obtain ⟨f1, -, hk1, -⟩ := hss
        exact hrsv gr br fr w1 fb ((h.r.nil hkd0).keeps hk1 (fun k h1 h2 => h.apart k h2 h1)) ((hb7.keeps hkd0 (by simp)).keeps hk1 (fun k hk hm => hd1 k (hfb k hk) (by simp [hm]))) (fun k hk hm => hd1 k (hfb k hk) (by simp [hm]))))
    have HG := Lib.hid (And.intro hg' (And.intro hl' hct'))
    have HK := Lib.hid (show ∀ w1, SS w0.drew fs gs bs l' [] w1 → w1.cell? ⟨w.heap.size, 1, none⟩ = some (.slice B n cB) from fun w1 hss => by
      obtain ⟨f1, -, hk1, -⟩ := hss
      exact (hbox.drew.keeps hk1 (by simpa using hbf)).cell 1)
    have HK2 := Lib.hid (show ∀ w1 w3, SS w0.drew fs gs bs l' [] w1 → RSS w1 fr gr br l' [] w3 → w3.cell? ⟨w.heap.size, 1, none⟩ = some (.slice B n cB) from fun w1 w3 hss hrs => by
      obtain ⟨f1, -, hk1, -⟩ := hss
      obtain ⟨f3, -, hk3, -⟩ := hrs
      exact ((hbox.drew.keeps hk1 (by simpa using hbf)).keeps hk3 (by simpa using hbf2)).cell 1)
    clear hn h hwf hcap hcapm hWm hsl hB hS hd1 hd2 hb7 hfb e7 hn7 hb7e hlen7 hwf7 hbox hk0 hbf hbf2 hkd0 hg' hl' hct' hsv hrsv hct c2 c3
    go_enter Try.func31, Try.ntmps31
    go_upto_region 3 with (fail)
    rw [← hw0]
    clear hw0
    go_region_held3 (fun w' => w'.cell? ⟨w.heap.size, 1, none⟩ = some (.slice B n cB)) (go_keep)
      (first
        | (go_at_call 22
           refine Calls.mono (HF.out _) ?_
           rintro e w1 ⟨rfl, rfl⟩)
        | (go_at_call 17
           refine Calls.mono HS.out.1 ?_
           rintro e w2 ⟨rfl, hss⟩
           have d1 := HK.out _ hss
           have H2 := Lib.hid hss
           clear hss)
        | (go_at_call 36
           refine Calls.mono (HS.out.2 _ H2.out) ?_
           rintro e w3 ⟨rfl, hrs⟩
           have d2 := HK2.out _ _ H2.out hrs
           have H3 := Lib.hid hrs
           clear hrs))
    all_goals
      go_wp2_with fail
      go_ret
      exact HFIN.out _ _ _ _ _ H2.out H3.out HG.out.1 HG.out.2.1 HG.out.2.2
  · by_cases hk1' : kind = 1
    · subst hk1'
      obtain ⟨code, l', cb', ct', hg', hl', hct', hsv, hrsv⟩ := torn_both h.good hct B n7 cB b7 hlen7 hwf7 (by omega) (by omega) W hWm S sv cS hsl
      have HS := Lib.hid (And.intro (hsv gs bs fs w0.drew fb fS (h.s.nil hkd0) (hb7.keeps hkd0 (by simp)) (fun k hk hm => hd1 k (hfb k hk) (by simp [hm])) (hS.keeps hkd0 (by simp)) (fun k hk hm => hd2 k hk (by simp [hm])))
        (show ∀ w1, SS w0.drew fs gs bs l' [] w1 → Calls Try.prog 59 #[.pointer (some ⟨gr, 0, none⟩), .slice B n7 cB, .int .i64 W, .slice S sv.length cS] w1 (fun e w' => e = .returned (.int .i64 code) ∧ RSS w1 fr gr br l' [] w') from fun w1 hss => by
          obtain ⟨f1, -, hk1, -⟩ := hss
          exact hrsv gr br fr w1 fb fS ((h.r.nil hkd0).keeps hk1 (fun k h1 h2 => h.apart k h2 h1)) ((hb7.keeps hkd0 (by simp)).keeps hk1 (fun k hk hm => hd1 k (hfb k hk) (by simp [hm]))) (fun k hk hm => hd1 k (hfb k hk) (by simp [hm])) ((hS.keeps hkd0 (by simp)).keeps hk1 (fun k hk hm => hd2 k hk (by simp [hm]))) (fun k hk hm => hd2 k hk (by simp [hm]))))
      have HG := Lib.hid (And.intro hg' (And.intro hl' hct'))
      have HK := Lib.hid (show ∀ w1, SS w0.drew fs gs bs l' [] w1 → w1.cell? ⟨w.heap.size, 1, none⟩ = some (.slice B n cB) ∧ w1.cell? ⟨w.heap.size, 2, none⟩ = some (.int .i64 W) ∧ w1.cell? ⟨w.heap.size, 3, none⟩ = some (.slice S sv.length cS) from fun w1 hss => by
        obtain ⟨f1, -, hk1, -⟩ := hss
        have hb := hbox.drew.keeps hk1 (by simpa using hbf)
        exact ⟨hb.cell 1, hb.cell 2, hb.cell 3⟩)
      have HK2 := Lib.hid (show ∀ w1 w3, SS w0.drew fs gs bs l' [] w1 → RSS w1 fr gr br l' [] w3 → w3.cell? ⟨w.heap.size, 1, none⟩ = some (.slice B n cB) ∧ w3.cell? ⟨w.heap.size, 2, none⟩ = some (.int .i64 W) ∧ w3.cell? ⟨w.heap.size, 3, none⟩ = some (.slice S sv.length cS) from fun w1 w3 hss hrs => by
        obtain ⟨f1, -, hk1, -⟩ := hss
        obtain ⟨f3, -, hk3, -⟩ := hrs
        have hb := (hbox.drew.keeps hk1 (by simpa using hbf)).keeps hk3 (by simpa using hbf2)
        exact ⟨hb.cell 1, hb.cell 2, hb.cell 3⟩)
      clear hn h hwf hcap hcapm hWm hsl hB hS hd1 hd2 hb7 hfb e7 hn7 hb7e hlen7 hwf7 hbox hk0 hbf hbf2 hkd0 hg' hl' hct' hsv hrsv hct
      go_enter Try.func31, Try.ntmps31
      go_upto_region 5 with (fail)
      rw [← hw0]
      clear hw0
      go_region_held3 (fun w' => w'.cell? ⟨w.heap.size, 1, none⟩ = some (.slice B n cB) ∧ w'.cell? ⟨w.heap.size, 2, none⟩ = some (.int .i64 W) ∧ w'.cell? ⟨w.heap.size, 3, none⟩ = some (.slice S sv.length cS)) (go_keep)
        (first
          | (go_at_call 22
             refine Calls.mono (HF.out _) ?_
             rintro e w1 ⟨rfl, rfl⟩)
          | (go_at_call 28
             refine Calls.mono HS.out.1 ?_
             rintro e w2 ⟨rfl, hss⟩
             obtain ⟨d1, d2, d3⟩ := HK.out _ hss
             have H2 := Lib.hid hss
             clear hss)
          | (go_at_call 59
             refine Calls.mono (HS.out.2 _ H2.out) ?_
             rintro e w3 ⟨rfl, hrs⟩
             obtain ⟨d4, d5, d6⟩ := HK2.out _ _ H2.out hrs
             have H3 := Lib.hid hrs
             clear hrs))
      all_goals
        go_wp2_with fail
        go_ret
        exact HFIN.out _ _ _ _ _ H2.out H3.out HG.out.1 HG.out.2.1 HG.out.2.2
    · have e0 : ((kind : Int) == 0) = false := by simp; omega
      have e1 : ((kind : Int) == 1) = false := by simp; omega
      have HB := Lib.hid (And.intro h hk0)
      clear hn h hwf hcap hcapm hWm hsl hB hS hd1 hd2 hb7 hfb e7 hn7 hb7e hlen7 hwf7 hbox hk0 hbf hbf2 hkd0
      go_enter Try.func31, Try.ntmps31
      go_wp2_with fail
      go_ret
      rw [← hw0]
      exact ⟨l, cb, ct, fs, fr, rfl, HB.out.1.nil HB.out.2, rfl, by omega, HB.out.2.mono (by simp), fun k hk => .inl hk⟩

end Go.Proofs.Ytecjhaohabjkbaa
