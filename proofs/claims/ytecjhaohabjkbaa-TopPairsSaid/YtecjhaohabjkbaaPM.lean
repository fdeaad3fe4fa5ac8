/-
  PLAIN LAWS of chapter 8, second part: what a Save writes; states that are in order.
-/
import Derived.Test.YtecjhaohabjkbaaPL
import Derived.Test.YtecjhaohabjkbaaD9
namespace Go.Proofs.Ytecjhaohabjkbaa
open Go.RowKit
set_option linter.unusedVariables false

/-! ## what is written -/
def nch (n : Nat) : Nat := (n + 63) / 64
def chunk (b : List Int) (i : Nat) : Sec := Sec.of (b.drop (i * 64))
def dataW (a0 : Nat) (b : List Int) : List Wr := (List.range (nch b.length)).map fun i => ⟨a0 + i, chunk b i⟩
theorem dataW_length (a0 : Nat) (b : List Int) : (dataW a0 b).length = nch b.length := by simp [dataW]
theorem dataW_take (a0 : Nat) (b : List Int) (i : Nat) (h : i < nch b.length) : (dataW a0 b).take (i + 1) = (dataW a0 b).take i ++ [⟨a0 + i, chunk b i⟩] := by
  rw [List.take_succ_eq_append_getElem (by rw [dataW_length]; exact h)]
  simp [dataW]
theorem nch_lt (n i : Nat) : i < nch n ↔ i * 64 < n := by unfold nch; omega
theorem nch_le (n h : Nat) (hn : n ≤ h * 64) : nch n ≤ h := by unfold nch; omega
/-- where a Save goes. -/
def toM (half : Nat) (now : List Sec) : Nat := if (bestM half now).2.2 = 0 then 0 else 1 - (bestM half now).1
theorem toM_lt (half : Nat) (now : List Sec) : toM half now < 2 := by
  unfold toM
  split <;> omega
def dataTo (half : Nat) (now : List Sec) : Nat := 2 + toM half now * half
def newRoot (half : Nat) (now : List Sec) (b : List Int) : Wr := ⟨toM half now, rootM b ((bestM half now).2.2 + 1)⟩
def halfOf (l : List Sec) : Nat := (l.length - 2) / 2
/-- behind a Save of which so many writes are done (none: all, and a Sync). -/
def saveTo (l : List Sec) (pend : List Wr) (b : List Int) (m : Option Nat) : List Sec × List Wr :=
  let now := land l pend
  let D := dataW (dataTo (halfOf l) now) b
  match m with
  | none => (land (land l (pend ++ D)) [newRoot (halfOf l) now b], [])
  | some m => if m ≤ D.length then (l, pend ++ D.take m) else (land l (pend ++ D), [newRoot (halfOf l) now b])

/-! ## states in order -/
structure Fit (c : Nat) (l : List Sec) (pend : List Wr) : Prop where
  four : 4 ≤ l.length
  len : l.length ≤ 4096
  few : pend.length ≤ c
  lw : ∀ s ∈ l, s.wf
  pw : ∀ x ∈ pend, x.s.wf ∧ x.i < l.length
theorem land_wf (ws : List Wr) : ∀ (l : List Sec), (∀ s ∈ l, s.wf) → (∀ x ∈ ws, x.s.wf) → ∀ s ∈ land l ws, s.wf := by
  induction ws with
  | nil => intro l h _; exact h
  | cons x ws ih =>
    intro l h hw
    refine ih (l.set x.i x.s) (fun s hs => ?_) (fun y hy => hw y (by simp [hy]))
    rcases List.mem_or_eq_of_mem_set hs with h1 | h1
    · exact h s h1
    · rw [h1]; exact hw x (by simp)
theorem Fit.now {c : Nat} {l : List Sec} {pend : List Wr} (h : Fit c l pend) : ∀ s ∈ land l pend, s.wf := land_wf pend l h.lw fun x hx => (h.pw x hx).1
theorem Fit.mono {c d : Nat} {l : List Sec} {pend : List Wr} (h : Fit c l pend) (hcd : c ≤ d) : Fit d l pend := ⟨h.four, h.len, Nat.le_trans h.few hcd, h.lw, h.pw⟩
theorem Fit.more {c d : Nat} {l : List Sec} {pend ws : List Wr} (h : Fit c l pend) (hw : ∀ x ∈ ws, x.s.wf ∧ x.i < l.length) (hd : c + ws.length ≤ d) : Fit d l (pend ++ ws) :=
  ⟨h.four, h.len, by rw [List.length_append]; have := h.few; omega, h.lw, fun x hx => by
    rcases List.mem_append.1 hx with hx | hx
    · exact h.pw x hx
    · exact hw x hx⟩
theorem Fit.land {c d : Nat} {l : List Sec} {pend ws : List Wr} (h : Fit c l pend) (hw : ∀ x ∈ ws, x.s.wf) : Fit d (land l ws) [] :=
  ⟨by rw [land_length]; exact h.four, by rw [land_length]; exact h.len, by simp, land_wf ws l h.lw hw, by simp⟩
theorem surv_mem {ws : List Wr} {sv : List Bool} {x : Wr} (h : x ∈ surv ws sv) : x ∈ ws := by
  unfold surv at h
  obtain ⟨p, hp, rfl⟩ := List.mem_map.1 h
  have := (List.mem_filter.1 hp).1
  exact (List.of_mem_zip (a := p.1) (b := p.2) this).1
theorem land_append (l : List Sec) (a b : List Wr) : land l (a ++ b) = land (land l a) b := by simp [land]
theorem dataW_ok {l : List Sec} {pend : List Wr} {c : Nat} (h : Fit c l pend) {b : List Int} (hb : Wf8 b) (hn : b.length ≤ halfOf l * 64) : ∀ x ∈ dataW (dataTo (halfOf l) (land l pend)) b, x.s.wf ∧ x.i < l.length := by
  intro x hx
  obtain ⟨i, hi, rfl⟩ := List.mem_map.1 hx
  have h1 := nch_le _ _ hn
  have h2 := toM_lt (halfOf l) (land l pend)
  have h3 : i < nch b.length := by simpa using hi
  refine ⟨Sec.of_wf (hb.drop _), ?_⟩
  have h4 : toM (halfOf l) (land l pend) * halfOf l ≤ 1 * halfOf l := Nat.mul_le_mul_right _ (by omega)
  have := h.four
  show dataTo _ _ + i < _
  unfold dataTo
  have h5 : 2 + 2 * halfOf l ≤ l.length := by unfold halfOf; omega
  omega
theorem newRoot_ok {l : List Sec} {pend : List Wr} {c : Nat} (h : Fit c l pend) (b : List Int) : (newRoot (halfOf l) (land l pend) b).s.wf ∧ (newRoot (halfOf l) (land l pend) b).i < l.length := by
  refine ⟨rootM_wf _ _, ?_⟩
  have h2 := toM_lt (halfOf l) (land l pend)
  have := h.four
  show toM _ _ < _
  omega
theorem saveTo_length (l : List Sec) (pend : List Wr) (b : List Int) (m : Option Nat) : (saveTo l pend b m).1.length = l.length := by
  unfold saveTo
  cases m with
  | none => simp [land_length]
  | some m => simp only; split <;> simp [land_length]
theorem Fit.saved {c : Nat} {l : List Sec} {pend : List Wr} (h : Fit c l pend) {b : List Int} (hb : Wf8 b) (hn : b.length ≤ halfOf l * 64) (m : Option Nat) : Fit (c + 2048) (saveTo l pend b m).1 (saveTo l pend b m).2 := by
  have h1 := nch_le _ _ hn
  have h0 : halfOf l ≤ 2047 := by unfold halfOf; have := h.len; omega
  have hd := dataW_ok h hb hn
  have hr := newRoot_ok h b
  have hpd : ∀ x ∈ pend ++ dataW (dataTo (halfOf l) (Go.Proofs.Ytecjhaohabjkbaa.land l pend)) b, x.s.wf := fun x hx => by
    rcases List.mem_append.1 hx with hx | hx
    · exact (h.pw x hx).1
    · exact (hd x hx).1
  unfold saveTo
  cases m with
  | none =>
    have h2 : Fit 0 (Go.Proofs.Ytecjhaohabjkbaa.land l (pend ++ dataW (dataTo (halfOf l) (Go.Proofs.Ytecjhaohabjkbaa.land l pend)) b)) [] := h.land hpd
    exact h2.land (fun x hx => by simp at hx; rw [hx]; exact hr.1)
  | some m =>
    simp only
    split
    · refine h.more (fun x hx => hd x (List.mem_of_mem_take hx)) ?_
      rw [List.length_take, dataW_length]
      omega
    · have h2 : Fit 0 (Go.Proofs.Ytecjhaohabjkbaa.land l (pend ++ dataW (dataTo (halfOf l) (Go.Proofs.Ytecjhaohabjkbaa.land l pend)) b)) [] := h.land hpd
      exact ⟨h2.four, h2.len, by simp, h2.lw, fun x hx => by simp at hx; rw [hx, land_length]; exact hr⟩

end Go.Proofs.Ytecjhaohabjkbaa
