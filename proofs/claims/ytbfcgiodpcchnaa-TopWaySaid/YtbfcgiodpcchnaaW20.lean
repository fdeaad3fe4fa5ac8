/-
  CONTRACT: stanza.Error.
-/
import Derived.Test.YtbfcgiodpcchnaaW19
namespace Go.Proofs.Ytbfcgiodpcchnaa
open Go.RowKit
set_option linter.unusedVariables false
attribute [local go_sem] Oper.semAt_some

/-- the payload of an error. -/
def errT (nm kd : ByteArray) : List Tok := [⟨1, errorT, [(⟨#[116, 121, 112, 101]⟩, kd)], ⟨#[]⟩⟩, ⟨1, nm, [], ⟨#[]⟩⟩, ⟨2, nm, [], ⟨#[]⟩⟩, ⟨2, errorT, [], ⟨#[]⟩⟩]
theorem attrs_new (w : World) (a b : ByteArray) : AttrsAt (w.alloc (.cells #[.string a, .string b] 56)) (some ⟨w.heap.size, 0, none⟩) 1 [(a, b)] :=
  ⟨Nat.le_refl _, .inr ⟨_, _, rfl, Blk.new _ _ _, fun j u hu => by simpa [attrsC, attrC] using hu⟩⟩

set_option maxHeartbeats 3200000 in
set_option maxRecDepth 100000 in
theorem error_calls (ty0 f t id : ByteArray) (A0 : Option Addr) (n0 c0 : Nat) (cd : Nat) (g1 : 1 ≤ cd) (g2 : cd ≤ 10) (w : World) :
    Calls Try.prog 12 #[.agg #[.int .u8 1, .string ty0, .string f, .string t, .string id, .slice A0 n0 c0], .int .i64 cd] w (NewStanza w errorT t f id (errT (condName cd) (condType cd))) := by
  obtain ⟨w0, hw0⟩ : ∃ w0, w0 = (w.alloc (.cells #[.int .u8 1, .string ty0, .string f, .string t, .string id, .slice A0 n0 c0] 38)).alloc (.cells #[.int .u8 0, .string ⟨#[]⟩, .string ⟨#[]⟩, .string ⟨#[]⟩, .string ⟨#[]⟩, .slice none 0 0] 38) := ⟨_, rfl⟩
  have hk0 : Keeps w w0 [] := by rw [hw0]; exact ((Keeps.refl w []).alloc _).alloc _
  have hb0 : Blk w0 w.heap.size 38 (stzC ty0 f t id A0 n0 c0) := by rw [hw0]; exact (Blk.new w _ _).alloc _
  have hb1 : Blk w0 (w.heap.size + 1) 38 #[.int .u8 0, .string ⟨#[]⟩, .string ⟨#[]⟩, .string ⟨#[]⟩, .string ⟨#[]⟩, .slice none 0 0] := by rw [hw0]; exact Blk.new' (w.alloc _) (by simp) _ _
  have hnm := fname_calls cd w0 g1 g2
  have hty := fun wx => ftype_calls cd wx g1 g2
  obtain ⟨nm, hnme⟩ : ∃ nm, nm = condName cd := ⟨_, rfl⟩
  obtain ⟨kd, hkd⟩ : ∃ kd, kd = condType cd := ⟨_, rfl⟩
  rw [← hnme] at hnm ⊢
  simp only [← hkd] at hty ⊢
  have hel := fun wx => element_calls nm none 0 [] none 0 0 [] wx (AttrsAt.nil _ _ _) (ToksAt.nil _ _ _) (by omega) (by simp) (by simp)
  have x1 : (1 : Int) ≤ (cd : Int) := by omega
  have x2 : (cd : Int) ≤ 10 := by omega
  have H := Lib.hid (And.intro hk0 (And.intro hb0 (And.intro hb1 (And.intro hnm (And.intro hty hel)))))
  have HW := Lib.hid hw0
  clear hk0 hb0 hb1 hnm hty hel g1 g2 hnme hkd hw0
  go_enter Try.func12, Try.ntmps12
  go_wp2_with fail
  rw [← HW.out]
  refine H.out.2.2.2.1.mono ?_
  rintro e w2 ⟨rfl, hk2⟩
  have HK2 := Lib.hid hk2
  clear hk2
  go_wp2_with fail
  refine (H.out.2.2.2.2.2 _).mono ?_
  rintro e w3 ⟨A3, c3, t3, he, ht3, hm3, hk3⟩
  have he' : e = .returned (.slice A3 2 c3) := he
  subst he'
  have ht3'' : ToksAt w3 A3 2 c3 t3 := ht3
  have ht3' : ToksAt w3.drew A3 2 c3 t3 := ht3''.to (Keeps.refl w3 []).drew
  have hk30 : Keeps w0 w3.drew [] := (HK2.out.trans hk3 (by simp)).drew
  have hb3 := H.out.2.1.keeps hk30 (by simp)
  have hb31 := H.out.2.2.1.keeps hk30 (by simp)
  have h38 : ∀ t ∈ t3, t.attrs.length ≤ 8 := fun t ht => by
    have h1 : t.tok ∈ t3.map TV.tok := List.mem_map.2 ⟨t, ht, rfl⟩
    rw [hm3] at h1
    have h2 : t.tok.attrs = [] := by
      simp at h1
      rcases h1 with h | h <;> rw [h]
    have h3 : t.attrs = [] := h2
    rw [h3]
    exact Nat.zero_le _
  have z3 := stz hb3
  have HZ := Lib.hid z3
  have H3 := Lib.hid (And.intro hk30 (And.intro hb3 (And.intro hb31 (And.intro ht3' (And.intro hm3 h38)))))
  clear he ht3 ht3'' hm3 hk3 ht3' hk30 hb3 hb31 h38 z3
  go_wp2_with fail
  go_region_held_law (fun w' => w'.cell? ⟨w.heap.size, 0, none⟩ = some (.int .u8 1) ∧ w'.cell? ⟨w.heap.size, 1, none⟩ = some (.string ty0) ∧ w'.cell? ⟨w.heap.size, 2, none⟩ = some (.string f) ∧ w'.cell? ⟨w.heap.size, 3, none⟩ = some (.string t) ∧ w'.cell? ⟨w.heap.size, 4, none⟩ = some (.string id) ∧ w'.cell? ⟨w.heap.size, 5, none⟩ = some (.slice A0 n0 c0))
    (first | with_reducible exact HZ.out | with_reducible exact HZ4.out | with_reducible exact HZ5.out | with_reducible exact HZ6.out | with_reducible exact HZ7.out | ((simp only [far_cell (show w.heap.size ≠ w.heap.size + 1 by omega)]); with_reducible exact HZ7.out))
    (first
      | (go_at_call 9
         refine Calls.mono (H.out.2.2.2.2.1 _) ?_
         rintro e w4 ⟨rfl, hk4⟩
         have HZ4 := Lib.hid (stz (H3.out.2.1.keeps hk4 (by simp)))
         have H4 := Lib.hid hk4
         have HZ5 := Lib.hid (stz ((H3.out.2.1.keeps hk4 (by simp)).alloc (.cells #[.string ⟨#[116, 121, 112, 101]⟩, .string kd] 56)))
         clear hk4)
      | (go_at_call 20
         go_loud (refine Calls.mono (element_calls ⟨#[101, 114, 114, 111, 114]⟩ (some ⟨w4.heap.size, 0, none⟩) 1 [(⟨#[116, 121, 112, 101]⟩, kd)] A3 2 c3 t3 _ (attrs_new w4 _ _) (H3.out.2.2.2.1.to (H4.out.alloc _)) (by omega) (by simp) H3.out.2.2.2.2.2) ?_)
         rintro e w6 ⟨A6, c6, t6, he, ht6, hm6, hk6⟩
         rw [H3.out.2.2.2.2.1] at he ht6 hm6
         have he' : e = .returned (.slice A6 4 c6) := he
         subst he'
         have hk36 := (H4.out.alloc (.cells #[.string ⟨#[116, 121, 112, 101]⟩, .string kd] 56)).trans (fp1 := []) hk6 (by simp)
         have HT6 := Lib.hid (show ∀ t ∈ t6, t.attrs.length ≤ 8 from fun t ht => by
           have h1 : t.tok ∈ t6.map TV.tok := List.mem_map.2 ⟨t, ht, rfl⟩
           rw [hm6] at h1
           have h2 : t.tok.attrs.length ≤ 8 := by
             simp at h1
             rcases h1 with h | h | h | h <;> rw [h] <;> simp
           exact h2)
         have HZ6 := Lib.hid (stz (H3.out.2.1.keeps hk36 (by simp)))
         have H6 := Lib.hid (And.intro hk36 (And.intro ht6 hm6))
         clear he ht6 hm6 hk6 hk36)
      | (go_at_call 21
         refine Calls.mono (back_calls ty0 f t id ⟨#[101, 114, 114, 111, 114]⟩ A0 n0 c0 A6 4 c6 t6 w6 H6.out.2.1 (by omega) HT6.out) ?_
         rintro e w7 ⟨A7, n7, c7, t7, rfl, ht7, hm7, hk7⟩
         have hk37 := H6.out.1.trans (fp1 := []) hk7 (by simp)
         have HZ7 := Lib.hid (stz (H3.out.2.1.keeps hk37 (by simp)))
         have hb7 := H3.out.2.2.1.keeps hk37 (by simp)
         have d0 := hb7.cell 0
         have d1 := hb7.cell 1
         have d2 := hb7.cell 2
         have d3 := hb7.cell 3
         have d4 := hb7.cell 4
         have d5 := hb7.cell 5
         have e0 := hb7.frozen 0
         have e1 := hb7.frozen 1
         have e2 := hb7.frozen 2
         have e3 := hb7.frozen 3
         have e4 := hb7.frozen 4
         have e5 := hb7.frozen 5
         simp at d0 d1 d2 d3 d4 d5
         have H7 := Lib.hid (And.intro hk37 (And.intro hb7 (And.intro ht7 hm7)))
         clear ht7 hm7 hk7 hk37 hb7))
  all_goals
    go_wp2_with fail
    have hb8 := (((((H7.out.2.1.set_ 0 (.int .u8 1)).set_ 1 (.string ⟨#[101, 114, 114, 111, 114]⟩)).set_ 2 (.string t)).set_ 3 (.string f)).set_ 4 (.string id)).set_ 5 (.slice A7 n7 c7)
    simp at hb8
    refine bodyPost_ret (results_cell_row (P := Try.prog) rfl _ _ (w.heap.size + 1) _ _ _ _ rfl hb8 Try.underlying38 rfl info_stanza) rfl ?_
    obtain ⟨hk37, hb7, ht7, hm7⟩ := H7.out
    have hk := six (b := w.heap.size + 1) (Keeps.refl w7 [w.heap.size + 1]) (.inl (by simp)) (.int .u8 1) (.string ⟨#[101, 114, 114, 111, 114]⟩) (.string t) (.string f) (.string id) (.slice A7 n7 c7)
    refine ⟨A7, n7, c7, t7, rfl, ht7.tk (TK.ofKeeps hk (fun k hm o ho => ?_)), ?_, six ((H.out.1.trans H3.out.1 (by simp)).trans hk37 (by simp)) (.inr (Nat.le_succ _)) _ _ _ _ _ _⟩
    · obtain rfl : k = w.heap.size + 1 := by simpa using hm
      have h4 : w7.heap[w.heap.size + 1]? = _ := hb7
      rw [h4] at ho
      cases ho
      rfl
    · rw [hm7, H6.out.2.2]
      rfl

end Go.Proofs.Ytbfcgiodpcchnaa
