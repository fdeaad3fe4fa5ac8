/-
  CONTRACTS: jid.Parse of an address's text.
-/
import Derived.Test.YtbfcgiodpcchnaaW3
import Derived.Laws.ResultCell
import Derived.WalkMore
namespace Go.Proofs.Ytbfcgiodpcchnaa
open Go.RowKit
set_option linter.unusedVariables false

set_option maxHeartbeats 3200000 in
set_option maxRecDepth 100000 in
theorem parse_calls (l d r : ByteArray) (w : World) (h : isRight l d r) : Calls Try.prog 22 #[.string (joinB l d r)] w fun e w' => e = .returned (.tuple #[.agg #[.string l, .string d, .string r], .int .i64 0]) ∧ Keeps w w' [] := by
  have hj := h.2.2.2
  have hds := h.1.2.2
  have HRT := Lib.hid (fun wx => right_calls l d r wx (by rcases h.2.1 with h | h; unfold maxLen; omega; have := h.2.2; unfold maxLen; omega) (by unfold maxLen; omega) (by rcases h.2.2.1 with h | h; unfold maxLen; omega; have := h.2.2; unfold maxLen; omega) true (by simp [h]))
  obtain ⟨front, hf⟩ : ∃ f, f = (if l.size = 0 then d else l ++ ⟨#[64]⟩ ++ d) := ⟨_, rfl⟩
  obtain ⟨s, hs⟩ : ∃ s, s = joinB l d r := ⟨_, rfl⟩
  have hjs : s = if r.size = 0 then front else front ++ ⟨#[47]⟩ ++ r := by rw [hs, hf]; rfl
  have hns : ∀ x ∈ front.data.toList, x ≠ (47 : UInt8) := by
    rw [hf]
    split
    · exact part_no d 47 h.1.1 slash_no
    · rename_i hl
      have hp : isPart l := by rcases h.2.1 with h | h; omega; exact h
      intro x hx
      have : x ∈ l.data.toList ++ (64 : UInt8) :: d.data.toList := by simpa using hx
      rcases List.mem_append.1 this with hx | hx
      · exact part_no l 47 hp.1 slash_no x hx
      · rcases List.mem_cons.1 hx with rfl | hx
        · decide
        · exact part_no d 47 h.1.1 slash_no x hx
  -- the two cuts
  have hc1 : ∀ wx, Calls Try.prog 29 #[.string s, .string ⟨#[47]⟩] wx fun e w' => e = .returned (.tuple #[.string front, .string r, .bool (decide (r.size ≠ 0))]) ∧ Keeps wx w' [] := fun wx => by
    rw [hjs]
    by_cases hr : r.size = 0
    · obtain rfl := empty_of r hr
      rw [if_pos empty_size]
      refine (cut_none front 47 wx ?_).mono ?_
      · have hge := Lib.indexByte_ge front.data.toList 47
        by_cases h1 : Lib.indexByte front.data.toList 47 = -1
        · exact h1
        · obtain ⟨o, ho⟩ : ∃ o : Nat, Lib.indexByte front.data.toList 47 = o := ⟨(Lib.indexByte front.data.toList 47).toNat, by omega⟩
          have h2 := (Lib.indexByte_some ho).1
          exact absurd rfl (hns _ (List.mem_of_getElem? h2))
      · rintro e w' ⟨rfl, hk⟩
        exact ⟨by simp [empty_size], hk⟩
    · rw [if_neg hr]
      have hsz : s.size ≤ 64 := by rw [hs]; exact hj
      rw [hjs, if_neg hr, seam_size] at hsz
      refine (cut_found front r 47 wx hns (by omega)).mono ?_
      rintro e w' ⟨rfl, hk⟩
      exact ⟨by simp [hr], hk⟩
  have hc2 : ∀ wx, Calls Try.prog 29 #[.string front, .string ⟨#[64]⟩] wx fun e w' => (if l.size = 0 then e = .returned (.tuple #[.string front, .string ⟨#[]⟩, .bool false]) else e = .returned (.tuple #[.string l, .string d, .bool true])) ∧ Keeps wx w' [] := fun wx => by
    by_cases hl : l.size = 0
    · simp only [if_pos hl]
      refine cut_none front 64 wx (idx_none front 64 (fun i hi => ?_))
      rw [hf, if_pos hl]
      rw [hf, if_pos hl] at hi
      intro e
      have := h.1.1 i hi
      rw [e] at this
      exact at_no this
    · simp only [if_neg hl]
      have hp : isPart l := by rcases h.2.1 with h | h; omega; exact h
      rw [hf, if_neg hl]
      exact cut_found l d 64 wx (part_no l 64 hp.1 at_no) (by have := hp.2.2; omega)
  obtain ⟨qr, hqr⟩ := decB (isPart r)
  obtain ⟨ql, hql⟩ := decB (isPart l)
  have HPR := Lib.hid (fun wx => part_calls r wx (by rcases h.2.2.1 with h | h; unfold maxLen; omega; have := h.2.2; unfold maxLen; omega) qr hqr)
  have HPL := Lib.hid (fun wx => part_calls l wx (by rcases h.2.1 with h | h; unfold maxLen; omega; have := h.2.2; unfold maxLen; omega) ql hql)
  have H := Lib.hid (And.intro h (And.intro hqr (And.intro hql (And.intro hc1 (And.intro hc2 hf)))))
  rw [← hs]
  clear hc1 hc2 hf hns hjs hs hj hds h hqr hql
  have hrd : 0 < r.size → (decide (r.size ≠ 0)) = true := fun h => decide_eq_true (by omega)
  rcases Nat.eq_zero_or_pos r.size with hr | hr
  · obtain rfl := empty_of r hr
    clear hrd hr
    rcases Nat.eq_zero_or_pos l.size with hl | hl
    · obtain rfl := empty_of l hl
      clear hl
      have hfe : front = d := H.out.2.2.2.2.2.trans (if_pos empty_size)
      subst hfe
      go_enter Try.func22, Try.ntmps22
      go_wp2_with fail
      go_step3
      go_wp2_with fail
      refine (H.out.2.2.2.1 _).mono ?_
      rintro e w1 ⟨rfl, hk1⟩
      have hb1 := (Blk.new w 30 #[.string ⟨#[]⟩, .string ⟨#[]⟩, .string ⟨#[]⟩]).keeps hk1 (by simp)
      have c0 := hb1.cell 0
      have c1 := hb1.cell 1
      have c2 := hb1.cell 2
      have fc0 := hb1.frozen 0
      have fc1 := hb1.frozen 1
      have fc2 := hb1.frozen 2
      simp at c0 c1 c2
      have H1 := Lib.hid (And.intro hb1 (((Keeps.refl w []).alloc _).trans hk1 (by simp)))
      clear hb1 hk1
      go_wp2_with fail
      refine (H.out.2.2.2.2.1 _).mono ?_
      rintro e w3 ⟨he, hk3⟩
      rw [if_pos empty_size] at he
      subst he
      clear c0 c1 c2 fc0 fc1 fc2
      have hb3 := ((H1.out.1.set_ 2 (.string ⟨#[]⟩)).set_ 1 (.string front)).keeps hk3 (by simp)
      have d0 := hb3.cell 0
      have d1 := hb3.cell 1
      have d2 := hb3.cell 2
      have fd0 := hb3.frozen 0
      have fd1 := hb3.frozen 1
      have fd2 := hb3.frozen 2
      simp at d0 d1 d2
      have H3 := Lib.hid (And.intro hb3 ((((H1.out.2).setCell (p := ⟨w.heap.size, 2, none⟩) (.inr (Nat.le_refl _)) _).setCell (p := ⟨w.heap.size, 1, none⟩) (.inr (Nat.le_refl _)) _).trans hk3 (by simp)))
      clear hb3 hk3
      go_wp2_with fail
      refine (HRT.out _).mono ?_
      rintro e w5 ⟨rfl, hk5⟩
      have hb5 := H3.out.1.keeps hk5 (by simp)
      clear d0 d1 d2 fd0 fd1 fd2
      have e0 := hb5.cell 0
      have e1 := hb5.cell 1
      have e2 := hb5.cell 2
      have fe0 := hb5.frozen 0
      have fe1 := hb5.frozen 1
      have fe2 := hb5.frozen 2
      simp at e0 e1 e2
      have HK := Lib.hid (And.intro hb5 (H3.out.2.trans hk5 (by simp)))
      clear hk5 hb5
      go_wp2_with fail
      rw [Exit.noGoto_ret]
      refine bodyPost_ret (v := .tuple #[.agg #[.string ⟨#[]⟩, .string front, .string ⟨#[]⟩], .int .i64 0]) ?_ rfl ⟨rfl, ?_⟩
      · (rw [results_cell_tmp rfl]; go_simp)
      · exact (((HK.out.2.setCell (p := ⟨w.heap.size, 0, none⟩) (.inr (Nat.le_refl _)) _).setCell (p := ⟨w.heap.size, 1, none⟩) (.inr (Nat.le_refl _)) _).setCell (p := ⟨w.heap.size, 2, none⟩) (.inr (Nat.le_refl _)) _)
    · obtain rfl : ql = true := H.out.2.2.1.2 (by rcases H.out.1.2.1 with h | h; omega; exact h)
      go_enter Try.func22, Try.ntmps22
      go_wp2_with fail
      go_step3
      go_wp2_with fail
      refine (H.out.2.2.2.1 _).mono ?_
      rintro e w1 ⟨rfl, hk1⟩
      have hb1 := (Blk.new w 30 #[.string ⟨#[]⟩, .string ⟨#[]⟩, .string ⟨#[]⟩]).keeps hk1 (by simp)
      have c0 := hb1.cell 0
      have c1 := hb1.cell 1
      have c2 := hb1.cell 2
      have fc0 := hb1.frozen 0
      have fc1 := hb1.frozen 1
      have fc2 := hb1.frozen 2
      simp at c0 c1 c2
      have H1 := Lib.hid (And.intro hb1 (((Keeps.refl w []).alloc _).trans hk1 (by simp)))
      clear hb1 hk1
      go_wp2_with fail
      refine (H.out.2.2.2.2.1 _).mono ?_
      rintro e w3 ⟨he, hk3⟩
      rw [if_neg (by omega)] at he
      subst he
      clear c0 c1 c2 fc0 fc1 fc2
      have hb3 := ((H1.out.1.set_ 2 (.string ⟨#[]⟩)).set_ 1 (.string front)).keeps hk3 (by simp)
      have d0 := hb3.cell 0
      have d1 := hb3.cell 1
      have d2 := hb3.cell 2
      have fd0 := hb3.frozen 0
      have fd1 := hb3.frozen 1
      have fd2 := hb3.frozen 2
      simp at d0 d1 d2
      have H3 := Lib.hid (And.intro hb3 ((((H1.out.2).setCell (p := ⟨w.heap.size, 2, none⟩) (.inr (Nat.le_refl _)) _).setCell (p := ⟨w.heap.size, 1, none⟩) (.inr (Nat.le_refl _)) _).trans hk3 (by simp)))
      clear hb3 hk3
      go_wp2_with fail
      refine (HPL.out _).mono ?_
      rintro e w4 ⟨rfl, rfl⟩
      go_wp2_with fail
      refine (HRT.out _).mono ?_
      rintro e w5 ⟨rfl, hk5⟩
      have hb5 := ((H3.out.1.set_ 0 (.string l)).set_ 1 (.string d)).keeps hk5 (by simp)
      clear d0 d1 d2 fd0 fd1 fd2
      have e0 := hb5.cell 0
      have e1 := hb5.cell 1
      have e2 := hb5.cell 2
      have fe0 := hb5.frozen 0
      have fe1 := hb5.frozen 1
      have fe2 := hb5.frozen 2
      simp at e0 e1 e2
      have HK := Lib.hid (And.intro hb5 (((H3.out.2.setCell (p := ⟨w.heap.size, 0, none⟩) (.inr (Nat.le_refl _)) (.string l)).setCell (p := ⟨w.heap.size, 1, none⟩) (.inr (Nat.le_refl _)) (.string d)).trans hk5 (by simp)))
      clear hk5 hb5
      go_wp2_with fail
      rw [Exit.noGoto_ret]
      refine bodyPost_ret (v := .tuple #[.agg #[.string l, .string d, .string ⟨#[]⟩], .int .i64 0]) ?_ rfl ⟨rfl, ?_⟩
      · (rw [results_cell_tmp rfl]; go_simp)
      · exact (((HK.out.2.setCell (p := ⟨w.heap.size, 0, none⟩) (.inr (Nat.le_refl _)) _).setCell (p := ⟨w.heap.size, 1, none⟩) (.inr (Nat.le_refl _)) _).setCell (p := ⟨w.heap.size, 2, none⟩) (.inr (Nat.le_refl _)) _)
  · have hrd := hrd hr
    obtain rfl : qr = true := H.out.2.1.2 (by rcases H.out.1.2.2.1 with h | h; omega; exact h)
    rcases Nat.eq_zero_or_pos l.size with hl | hl
    · obtain rfl := empty_of l hl
      clear hl
      have hfe : front = d := H.out.2.2.2.2.2.trans (if_pos empty_size)
      subst hfe
      go_enter Try.func22, Try.ntmps22
      go_wp2_with fail
      go_step3
      go_wp2_with fail
      refine (H.out.2.2.2.1 _).mono ?_
      rintro e w1 ⟨rfl, hk1⟩
      rw [hrd]
      have hb1 := (Blk.new w 30 #[.string ⟨#[]⟩, .string ⟨#[]⟩, .string ⟨#[]⟩]).keeps hk1 (by simp)
      have c0 := hb1.cell 0
      have c1 := hb1.cell 1
      have c2 := hb1.cell 2
      have fc0 := hb1.frozen 0
      have fc1 := hb1.frozen 1
      have fc2 := hb1.frozen 2
      simp at c0 c1 c2
      have H1 := Lib.hid (And.intro hb1 (((Keeps.refl w []).alloc _).trans hk1 (by simp)))
      clear hb1 hk1
      go_wp2_with fail
      refine (HPR.out _).mono ?_
      rintro e w2 ⟨rfl, rfl⟩
      go_wp2_with fail
      refine (H.out.2.2.2.2.1 _).mono ?_
      rintro e w3 ⟨he, hk3⟩
      rw [if_pos empty_size] at he
      subst he
      clear c0 c1 c2 fc0 fc1 fc2
      have hb3 := ((H1.out.1.set_ 2 (.string r)).set_ 1 (.string front)).keeps hk3 (by simp)
      have d0 := hb3.cell 0
      have d1 := hb3.cell 1
      have d2 := hb3.cell 2
      have fd0 := hb3.frozen 0
      have fd1 := hb3.frozen 1
      have fd2 := hb3.frozen 2
      simp at d0 d1 d2
      have H3 := Lib.hid (And.intro hb3 ((((H1.out.2).setCell (p := ⟨w.heap.size, 2, none⟩) (.inr (Nat.le_refl _)) _).setCell (p := ⟨w.heap.size, 1, none⟩) (.inr (Nat.le_refl _)) _).trans hk3 (by simp)))
      clear hb3 hk3
      go_wp2_with fail
      refine (HRT.out _).mono ?_
      rintro e w5 ⟨rfl, hk5⟩
      have hb5 := H3.out.1.keeps hk5 (by simp)
      clear d0 d1 d2 fd0 fd1 fd2
      have e0 := hb5.cell 0
      have e1 := hb5.cell 1
      have e2 := hb5.cell 2
      have fe0 := hb5.frozen 0
      have fe1 := hb5.frozen 1
      have fe2 := hb5.frozen 2
      simp at e0 e1 e2
      have HK := Lib.hid (And.intro hb5 (H3.out.2.trans hk5 (by simp)))
      clear hk5 hb5
      go_wp2_with fail
      rw [Exit.noGoto_ret]
      refine bodyPost_ret (v := .tuple #[.agg #[.string ⟨#[]⟩, .string front, .string r], .int .i64 0]) ?_ rfl ⟨rfl, ?_⟩
      · (rw [results_cell_tmp rfl]; go_simp)
      · exact (((HK.out.2.setCell (p := ⟨w.heap.size, 0, none⟩) (.inr (Nat.le_refl _)) _).setCell (p := ⟨w.heap.size, 1, none⟩) (.inr (Nat.le_refl _)) _).setCell (p := ⟨w.heap.size, 2, none⟩) (.inr (Nat.le_refl _)) _)
    · obtain rfl : ql = true := H.out.2.2.1.2 (by rcases H.out.1.2.1 with h | h; omega; exact h)
      go_enter Try.func22, Try.ntmps22
      go_wp2_with fail
      go_step3
      go_wp2_with fail
      refine (H.out.2.2.2.1 _).mono ?_
      rintro e w1 ⟨rfl, hk1⟩
      rw [hrd]
      have hb1 := (Blk.new w 30 #[.string ⟨#[]⟩, .string ⟨#[]⟩, .string ⟨#[]⟩]).keeps hk1 (by simp)
      have c0 := hb1.cell 0
      have c1 := hb1.cell 1
      have c2 := hb1.cell 2
      have fc0 := hb1.frozen 0
      have fc1 := hb1.frozen 1
      have fc2 := hb1.frozen 2
      simp at c0 c1 c2
      have H1 := Lib.hid (And.intro hb1 (((Keeps.refl w []).alloc _).trans hk1 (by simp)))
      clear hb1 hk1
      go_wp2_with fail
      refine (HPR.out _).mono ?_
      rintro e w2 ⟨rfl, rfl⟩
      go_wp2_with fail
      refine (H.out.2.2.2.2.1 _).mono ?_
      rintro e w3 ⟨he, hk3⟩
      rw [if_neg (by omega)] at he
      subst he
      clear c0 c1 c2 fc0 fc1 fc2
      have hb3 := ((H1.out.1.set_ 2 (.string r)).set_ 1 (.string front)).keeps hk3 (by simp)
      have d0 := hb3.cell 0
      have d1 := hb3.cell 1
      have d2 := hb3.cell 2
      have fd0 := hb3.frozen 0
      have fd1 := hb3.frozen 1
      have fd2 := hb3.frozen 2
      simp at d0 d1 d2
      have H3 := Lib.hid (And.intro hb3 ((((H1.out.2).setCell (p := ⟨w.heap.size, 2, none⟩) (.inr (Nat.le_refl _)) _).setCell (p := ⟨w.heap.size, 1, none⟩) (.inr (Nat.le_refl _)) _).trans hk3 (by simp)))
      clear hb3 hk3
      go_wp2_with fail
      refine (HPL.out _).mono ?_
      rintro e w4 ⟨rfl, rfl⟩
      go_wp2_with fail
      refine (HRT.out _).mono ?_
      rintro e w5 ⟨rfl, hk5⟩
      have hb5 := ((H3.out.1.set_ 0 (.string l)).set_ 1 (.string d)).keeps hk5 (by simp)
      clear d0 d1 d2 fd0 fd1 fd2
      have e0 := hb5.cell 0
      have e1 := hb5.cell 1
      have e2 := hb5.cell 2
      have fe0 := hb5.frozen 0
      have fe1 := hb5.frozen 1
      have fe2 := hb5.frozen 2
      simp at e0 e1 e2
      have HK := Lib.hid (And.intro hb5 (((H3.out.2.setCell (p := ⟨w.heap.size, 0, none⟩) (.inr (Nat.le_refl _)) (.string l)).setCell (p := ⟨w.heap.size, 1, none⟩) (.inr (Nat.le_refl _)) (.string d)).trans hk5 (by simp)))
      clear hk5 hb5
      go_wp2_with fail
      rw [Exit.noGoto_ret]
      refine bodyPost_ret (v := .tuple #[.agg #[.string l, .string d, .string r], .int .i64 0]) ?_ rfl ⟨rfl, ?_⟩
      · (rw [results_cell_tmp rfl]; go_simp)
      · exact (((HK.out.2.setCell (p := ⟨w.heap.size, 0, none⟩) (.inr (Nat.le_refl _)) _).setCell (p := ⟨w.heap.size, 1, none⟩) (.inr (Nat.le_refl _)) _).setCell (p := ⟨w.heap.size, 2, none⟩) (.inr (Nat.le_refl _)) _)

end Go.Proofs.Ytbfcgiodpcchnaa
