/-
  CONTRACTS: stanza.back, Error, Result.
-/
import Derived.Deep.RegionHeldLaw
import Derived.Test.YtbfcgiodpcchnaaW16
import Derived.Test.YtbfcgiodpcchnaaN2
namespace Go.Proofs.Ytbfcgiodpcchnaa
open Go.RowKit
set_option linter.unusedVariables false
attribute [local go_sem] Oper.semAt_some

def stzC (ty f t id : ByteArray) (A : Option Addr) (n c : Nat) : Array Value := #[.int .u8 1, .string ty, .string f, .string t, .string id, .slice A n c]
theorem stz {w : World} {b : Nat} {ty f t id : ByteArray} {A : Option Addr} {n c : Nat} (h : Blk w b 38 (stzC ty f t id A n c)) :
    w.cell? ⟨b, 0, none⟩ = some (.int .u8 1) ∧ w.cell? ⟨b, 1, none⟩ = some (.string ty) ∧ w.cell? ⟨b, 2, none⟩ = some (.string f) ∧ w.cell? ⟨b, 3, none⟩ = some (.string t) ∧ w.cell? ⟨b, 4, none⟩ = some (.string id) ∧ w.cell? ⟨b, 5, none⟩ = some (.slice A n c) :=
  ⟨h.cell 0, h.cell 1, h.cell 2, h.cell 3, h.cell 4, h.cell 5⟩
theorem info_stanza : (Try.prog.info? 38).map (·.size) = some 6 := by kernel_rfl
theorem far_cell {w : World} {b b' i j : Nat} {u : Value} (h : b' ≠ b) : (w.setCell ⟨b, j, none⟩ u).cell? ⟨b', i, none⟩ = w.cell? ⟨b', i, none⟩ := World.cell?_of_block (w := w) (Below.heap_setCell w ⟨b, j, none⟩ u b' h)
theorem six {w w1 : World} {fp : List Nat} (h : Keeps w w1 fp) {b : Nat} (hb : b ∈ fp ∨ w.heap.size ≤ b) (u0 u1 u2 u3 u4 u5 : Value) :
    Keeps w ((((((w1.setCell ⟨b, 0, none⟩ u0).setCell ⟨b, 1, none⟩ u1).setCell ⟨b, 2, none⟩ u2).setCell ⟨b, 3, none⟩ u3).setCell ⟨b, 4, none⟩ u4).setCell ⟨b, 5, none⟩ u5) fp :=
  (((((h.setCell hb u0).setCell hb u1).setCell hb u2).setCell hb u3).setCell hb u4).setCell hb u5
/-- what a maker of a stanza leaves. -/
def NewStanza (w : World) (ty f t id : ByteArray) (P : List Tok) (e : Ending) (w' : World) : Prop :=
  ∃ A n c ts, e = .returned (.agg #[.int .u8 1, .string ty, .string f, .string t, .string id, .slice A n c]) ∧ ToksAt w' A n c ts ∧ ts.map TV.tok = P ∧ Keeps w w' []

set_option maxHeartbeats 400000 in
set_option maxRecDepth 100000 in
theorem back_calls (ty0 f t id ty : ByteArray) (A0 : Option Addr) (n0 c0 : Nat) (A : Option Addr) (n c : Nat) (ts : List TV) (w : World) (h : ToksAt w A n c ts) (hn : n ≤ 60) (hts : ∀ t ∈ ts, t.attrs.length ≤ 8) :
    Calls Try.prog 21 #[.agg #[.int .u8 1, .string ty0, .string f, .string t, .string id, .slice A0 n0 c0], .int .u8 1, .string ty, .slice A n c] w (NewStanza w ty t f id (ts.map TV.tok)) := by
  obtain ⟨w0, hw0⟩ : ∃ w0, w0 = (w.alloc (.cells #[.int .u8 1, .string ty0, .string f, .string t, .string id, .slice A0 n0 c0] 38)).alloc (.cells #[.int .u8 0, .string ⟨#[]⟩, .string ⟨#[]⟩, .string ⟨#[]⟩, .string ⟨#[]⟩, .slice none 0 0] 38) := ⟨_, rfl⟩
  have hk0 : Keeps w w0.drew [] := by rw [hw0]; exact (((Keeps.refl w []).alloc _).alloc _).drew
  have hb0 : Blk w0.drew w.heap.size 38 (stzC ty0 f t id A0 n0 c0) := by rw [hw0]; exact (Blk.new w _ _).alloc _
  have hb1 : Blk w0.drew (w.heap.size + 1) 38 #[.int .u8 0, .string ⟨#[]⟩, .string ⟨#[]⟩, .string ⟨#[]⟩, .string ⟨#[]⟩, .slice none 0 0] := by rw [hw0]; exact Blk.new' (w.alloc _) (by simp) _ _
  have z := stz hb0
  have hin := inside_calls A n c ts w0.drew (h.to hk0) (by omega) hts
  obtain ⟨T, hT⟩ : ∃ T, T = ts.map TV.tok := ⟨_, rfl⟩
  obtain ⟨N, hN⟩ : ∃ N, N = T.length := ⟨_, rfl⟩
  rw [← hT] at hin ⊢
  have H := Lib.hid (And.intro hk0 (And.intro hb0 (And.intro hb1 (And.intro hin hN))))
  have HZ := Lib.hid (And.intro z.2.2.1 (And.intro z.2.2.2.1 z.2.2.2.2.1))
  clear hk0 hb0 hb1 hin hN h hn hts z hT
  go_enter Try.func21, Try.ntmps21
  go_wp2_with fail
  rw [← hw0]
  clear hw0
  go_region_held_law (fun w' => w'.cell? ⟨w.heap.size, 2, none⟩ = some (.string f) ∧ w'.cell? ⟨w.heap.size, 3, none⟩ = some (.string t) ∧ w'.cell? ⟨w.heap.size, 4, none⟩ = some (.string id)) (first | with_reducible exact HZ.out | with_reducible exact H6.out.2.2.2.2.2 | ((simp only [far_cell (show w.heap.size ≠ w.heap.size + 1 by omega)]); with_reducible exact H6.out.2.2.2.2.2))
    (first
      | (go_at_call 28
         refine Calls.mono H.out.2.2.2.1 ?_
         rintro e w6 ⟨A6, c6, t6, he, ht6, hm6, hk6⟩
         rw [← H.out.2.2.2.2] at he ht6
         subst he
         have hb6 := H.out.2.2.1.keeps hk6 (by simp)
         have d0 := hb6.cell 0
         have d1 := hb6.cell 1
         have d2 := hb6.cell 2
         have d3 := hb6.cell 3
         have d4 := hb6.cell 4
         have d5 := hb6.cell 5
         have e0 := hb6.frozen 0
         have e1 := hb6.frozen 1
         have e2 := hb6.frozen 2
         have e3 := hb6.frozen 3
         have e4 := hb6.frozen 4
         have e5 := hb6.frozen 5
         have z6 := stz (H.out.2.1.keeps hk6 (by simp))
         simp at d0 d1 d2 d3 d4 d5
         have H6 := Lib.hid (And.intro (H.out.2.1.keeps hk6 (by simp)) (And.intro hb6 (And.intro ht6 (And.intro hm6 (And.intro hk6 (And.intro z6.2.2.1 (And.intro z6.2.2.2.1 z6.2.2.2.2.1)))))))
         clear ht6 hm6 hk6 hb6 z6))
  all_goals
    go_wp2_with fail
    have hb7 := (((((H6.out.2.1.set_ 0 (.int .u8 1)).set_ 1 (.string ty)).set_ 2 (.string t)).set_ 3 (.string f)).set_ 4 (.string id)).set_ 5 (.slice A6 N c6)
    simp at hb7
    refine bodyPost_ret (results_cell_row (P := Try.prog) rfl _ _ (w.heap.size + 1) _ _ _ _ rfl hb7 Try.underlying38 rfl info_stanza) rfl ?_
    obtain ⟨-, hb6, ht6, hm6, hk6, -⟩ := H6.out
    have hk := six (b := w.heap.size + 1) (Keeps.refl w6 [w.heap.size + 1]) (.inl (by simp)) (.int .u8 1) (.string ty) (.string t) (.string f) (.string id) (.slice A6 N c6)
    refine ⟨A6, N, c6, t6, rfl, ht6.tk (TK.ofKeeps hk (fun k hm o ho => ?_)), hm6, six (H.out.1.trans hk6 (by simp)) (.inr (Nat.le_succ _)) _ _ _ _ _ _⟩
    obtain rfl : k = w.heap.size + 1 := by simpa using hm
    have h4 : w6.heap[w.heap.size + 1]? = _ := hb6
    rw [h4] at ho
    cases ho
    rfl

set_option maxHeartbeats 3200000 in
set_option maxRecDepth 100000 in
theorem result_calls (ty0 f t id : ByteArray) (A0 : Option Addr) (n0 c0 : Nat) (w : World) :
    Calls Try.prog 13 #[.agg #[.int .u8 1, .string ty0, .string f, .string t, .string id, .slice A0 n0 c0], .slice none 0 0] w (NewStanza w resultT t f id []) := by
  obtain ⟨w0, hw0⟩ : ∃ w0, w0 = (w.alloc (.cells #[.int .u8 1, .string ty0, .string f, .string t, .string id, .slice A0 n0 c0] 38)).alloc (.cells #[.int .u8 0, .string ⟨#[]⟩, .string ⟨#[]⟩, .string ⟨#[]⟩, .string ⟨#[]⟩, .slice none 0 0] 38) := ⟨_, rfl⟩
  have hk0 : Keeps w w0 [] := by rw [hw0]; exact ((Keeps.refl w []).alloc _).alloc _
  have hb1 : Blk w0 (w.heap.size + 1) 38 #[.int .u8 0, .string ⟨#[]⟩, .string ⟨#[]⟩, .string ⟨#[]⟩, .string ⟨#[]⟩, .slice none 0 0] := by rw [hw0]; exact Blk.new' (w.alloc _) (by simp) _ _
  have hbk := back_calls ty0 f t id ⟨#[114, 101, 115, 117, 108, 116]⟩ A0 n0 c0 none 0 0 [] w0 (ToksAt.nil _ _ _) (by omega) (by simp)
  have H := Lib.hid (And.intro hk0 (And.intro hb1 hbk))
  have HW := Lib.hid hw0
  clear hk0 hb1 hbk hw0
  go_enter Try.func13, Try.ntmps13
  go_wp2_with fail
  rw [← HW.out]
  refine H.out.2.2.mono ?_
  rintro e w6 ⟨A6, n6, c6, t6, rfl, ht6, hm6, hk6⟩
  have hb6 := H.out.2.1.keeps hk6 (by simp)
  have d0 := hb6.cell 0
  have d1 := hb6.cell 1
  have d2 := hb6.cell 2
  have d3 := hb6.cell 3
  have d4 := hb6.cell 4
  have d5 := hb6.cell 5
  have e0 := hb6.frozen 0
  have e1 := hb6.frozen 1
  have e2 := hb6.frozen 2
  have e3 := hb6.frozen 3
  have e4 := hb6.frozen 4
  have e5 := hb6.frozen 5
  simp at d0 d1 d2 d3 d4 d5
  have H6 := Lib.hid (And.intro hb6 (And.intro ht6 (And.intro hm6 hk6)))
  clear hb6 ht6 hm6 hk6
  go_wp2_with fail
  have hb7 := (((((H6.out.1.set_ 0 (.int .u8 1)).set_ 1 (.string ⟨#[114, 101, 115, 117, 108, 116]⟩)).set_ 2 (.string t)).set_ 3 (.string f)).set_ 4 (.string id)).set_ 5 (.slice A6 n6 c6)
  simp at hb7
  refine bodyPost_ret (results_cell_row (P := Try.prog) rfl _ _ (w.heap.size + 1) _ _ _ _ rfl hb7 Try.underlying38 rfl info_stanza) rfl ?_
  obtain ⟨hb6, ht6, hm6, hk6⟩ := H6.out
  have hk := six (b := w.heap.size + 1) (Keeps.refl w6 [w.heap.size + 1]) (.inl (by simp)) (.int .u8 1) (.string ⟨#[114, 101, 115, 117, 108, 116]⟩) (.string t) (.string f) (.string id) (.slice A6 n6 c6)
  refine ⟨A6, n6, c6, t6, rfl, ht6.tk (TK.ofKeeps hk (fun k hm o ho => ?_)), hm6, six (H.out.1.trans hk6 (by simp)) (.inr (Nat.le_succ _)) _ _ _ _ _ _⟩
  obtain rfl : k = w.heap.size + 1 := by simpa using hm
  have h4 : w6.heap[w.heap.size + 1]? = _ := hb6
  rw [h4] at ho
  cases ho
  rfl

end Go.Proofs.Ytbfcgiodpcchnaa
