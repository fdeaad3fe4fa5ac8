/-
  PLAIN LAWS of chapter 8, third part: a store that came from a new device ('Good'): which slot counts; what a Save and a torn Save leave.
-/
import Derived.Test.YtecjhaohabjkbaaPM
namespace Go.Proofs.Ytecjhaohabjkbaa
open Go.RowKit
set_option linter.unusedVariables false

/-! ## roots are read as they were written -/
theorem root_bs (b : List Int) (t : Nat) : (rootM b t).bs = rootL b t ++ List.replicate 42 0 := by
  unfold rootM
  rw [Sec.of_bs _ (by rw [rootL_length]; omega), rootL_length]
theorem rootL_eq (b : List Int) (t : Nat) : rootL b t = [72, 71] ++ (numB t 8 ++ (numB b.length 4 ++ (numB (sumN b) 4 ++ numB (sumN (rootH b t)) 4))) := by
  unfold rootL
  conv => lhs; lhs; unfold rootH
  simp only [List.append_assoc]
theorem turn_root (b : List Int) (t : Nat) (h : t < 18446744073709551616) : turnOf (rootM b t) = t := by
  unfold turnOf
  rw [root_bs, rootL_eq]
  have e : (([72, 71] ++ (numB t 8 ++ (numB b.length 4 ++ (numB (sumN b) 4 ++ numB (sumN (rootH b t)) 4))) ++ List.replicate 42 (0 : Int)).drop 2).take 8 = numB t 8 := by
    simp only [List.append_assoc]
    rw [show (2 : Nat) = ([72, 71] : List Int).length from rfl, List.drop_left, List.take_left' (numB_length _ _)]
  rw [e]
  exact rdB_numB t 8 (by omega) (by omega)
theorem size_root (b : List Int) (t : Nat) (h : b.length < 4294967296) : sizeOf_ (rootM b t) = b.length := by
  unfold sizeOf_
  rw [root_bs, rootL_eq]
  have e : (([72, 71] ++ (numB t 8 ++ (numB b.length 4 ++ (numB (sumN b) 4 ++ numB (sumN (rootH b t)) 4))) ++ List.replicate 42 (0 : Int)).drop 10).take 4 = numB b.length 4 := by
    rw [show ([72, 71] ++ (numB t 8 ++ (numB b.length 4 ++ (numB (sumN b) 4 ++ numB (sumN (rootH b t)) 4))) ++ List.replicate 42 (0 : Int)) = ([72, 71] ++ numB t 8) ++ (numB b.length 4 ++ ((numB (sumN b) 4 ++ numB (sumN (rootH b t)) 4) ++ List.replicate 42 (0 : Int))) by simp only [List.append_assoc]]
    rw [List.drop_left' (by simp [numB_length]), List.take_left' (numB_length _ _)]
  rw [e]
  exact rdB_numB _ 4 (by omega) (by omega)
theorem turn_zero : turnOf Sec.zero = 0 := by decide

/-! ## sectors behind writes -/
theorem secAt_set_ne (l : List Sec) (i j : Nat) (s : Sec) (h : i ≠ j) : secAt (l.set i s) j = secAt l j := by
  unfold secAt
  rw [List.getD_eq_getElem?_getD, List.getD_eq_getElem?_getD, List.getElem?_set_ne h]
theorem secAt_set_eq (l : List Sec) (i : Nat) (s : Sec) (h : i < l.length) : secAt (l.set i s) i = s := by
  unfold secAt
  rw [List.getD_eq_getElem?_getD, List.getElem?_set_self h]
  rfl
theorem secAt_land_ne (ws : List Wr) (j : Nat) : ∀ (l : List Sec), (∀ x ∈ ws, x.i ≠ j) → secAt (land l ws) j = secAt l j := by
  induction ws with
  | nil => intro l _; rfl
  | cons x ws ih =>
    intro l h
    have h1 := ih (l.set x.i x.s) (fun y hy => h y (by simp [hy]))
    exact h1.trans (secAt_set_ne l x.i j x.s (h x (by simp)))
theorem secAt_get {l : List Sec} {i : Nat} (h : i < l.length) : l[i]? = some (secAt l i) := by
  unfold secAt
  rw [List.getD_eq_getElem?_getD, List.getElem?_eq_getElem h]
  rfl
/-- the data of an area depend on its sectors alone. -/
theorem dataOf_same {l l' : List Sec} (hl : l'.length = l.length) (i n : Nat) (h : ∀ j, j * 64 < n → secAt l' (i + j) = secAt l (i + j)) (hn : n ≤ (l.length - i) * 64) : dataOf l' i n = dataOf l i n := by
  have step : ∀ k, k * 64 ≤ n + 63 → i + k ≤ l.length ∨ k = 0 → dataOf l' i (k * 64) = dataOf l i (k * 64) := by
    intro k
    induction k with
    | zero => intro _ _; simp [dataOf_zero]
    | succ k ih =>
      intro hk hik
      have hk2 : i + k < l.length := by omega
      have h1 := ih (by omega) (by omega)
      have e1 := dataOf_succ l' i k _ (secAt_get (by omega))
      have e2 := dataOf_succ l i k _ (secAt_get hk2)
      rw [Nat.add_mul, Nat.one_mul, e1, e2, h1, h k (by omega)]
  have hk := step ((n + 63) / 64) (by omega) (by omega)
  rw [← dataOf_take l' i n ((n + 63) / 64 * 64) (by omega), ← dataOf_take l i n ((n + 63) / 64 * 64) (by omega), hk]
/-- what was written as data is read as data. -/
theorem dataW_at (a0 : Nat) (b : List Int) : ∀ (m : Nat) (l : List Sec), m ≤ nch b.length → a0 + m ≤ l.length → ∀ j, j < m → secAt (land l ((dataW a0 b).take m)) (a0 + j) = chunk b j := by
  intro m
  induction m with
  | zero => intro l _ _ j hj; omega
  | succ m ih =>
    intro l hm hl j hj
    rw [dataW_take a0 b m (by omega), land_append]
    show secAt ((land l ((dataW a0 b).take m)).set (a0 + m) (chunk b m)) (a0 + j) = _
    by_cases e : j = m
    · subst e
      exact secAt_set_eq _ _ _ (by rw [land_length]; omega)
    · rw [secAt_set_ne _ _ _ _ (by omega)]
      exact ih l (by omega) (by omega) j (by omega)
theorem chunk_bs (b : List Int) (j : Nat) : (chunk b j).bs.take (b.length - j * 64) = (b.drop (j * 64)).take 64 := by
  unfold chunk Sec.of
  show ((b.drop (j * 64)).take 64 ++ _).take _ = _
  have hl : (b.drop (j * 64)).length = b.length - j * 64 := by simp
  by_cases h : 64 ≤ b.length - j * 64
  · have e : 64 - ((b.drop (j * 64)).take 64).length = 0 := by rw [List.length_take]; omega
    rw [e]
    simp only [List.replicate_zero, List.append_nil]
    rw [List.take_take, Nat.min_eq_right (by omega)]
  · have e : ((b.drop (j * 64)).take 64).length = b.length - j * 64 := by rw [List.length_take]; omega
    rw [← e, List.take_left]
theorem dataW_read (a0 : Nat) (b : List Int) (l : List Sec) (h : a0 + nch b.length ≤ l.length) : dataOf (land l (dataW a0 b)) a0 b.length = b := by
  have hall : (dataW a0 b).take (nch b.length) = dataW a0 b := List.take_of_length_le (by rw [dataW_length]; exact Nat.le_refl _)
  have hat := dataW_at a0 b (nch b.length) l (Nat.le_refl _) h
  rw [hall] at hat
  have step : ∀ k, k ≤ nch b.length → (dataOf (land l (dataW a0 b)) a0 (k * 64)).take b.length = b.take (k * 64) := by
    intro k
    induction k with
    | zero => intro _; simp [dataOf_zero]
    | succ k ih =>
      intro hk
      have hlk : a0 + k < (land l (dataW a0 b)).length := by rw [land_length]; omega
      have hk64 : k * 64 < b.length := (nch_lt _ _).1 (by omega)
      have e1 := dataOf_succ (land l (dataW a0 b)) a0 k _ (secAt_get hlk)
      rw [Nat.add_mul, Nat.one_mul, e1, hat k (by omega), List.take_append]
      have hkl : k ≤ (land l (dataW a0 b)).length - a0 := by omega
      have hlen : (dataOf (land l (dataW a0 b)) a0 (k * 64)).length = k * 64 := dataOf_length _ _ _ (Nat.mul_le_mul_right _ hkl)
      rw [hlen, chunk_bs, ih (by omega), List.take_add]
  have := step (nch b.length) (Nat.le_refl _)
  rw [← dataOf_take _ _ b.length (nch b.length * 64) (by unfold nch; omega), this, List.take_of_length_le (by unfold nch; omega)]

/-! ## a store that came from a new device -/
/-- what holds, and its turn (0: nothing). -/
structure Good (l : List Sec) (cb : List Int) (ct : Nat) : Prop where
  fit : Fit 0 l []
  room : cb.length ≤ halfOf l * 64
  wf : Wf8 cb
  small : ct < 9223372036854775808
  none_ : ct = 0 → cb = [] ∧ turnOf (secAt l 0) = 0 ∧ turnOf (secAt l 1) = 0
  some_ : 0 < ct → secAt l ((ct + 1) % 2) = rootM cb ct ∧ dataOf l (2 + (ct + 1) % 2 * halfOf l) cb.length = cb ∧ turnOf (secAt l (ct % 2)) < ct

theorem hold_turn (half : Nat) (l : List Sec) (k : Nat) (hk : k < l.length) : (holdM half l k).2 = 0 ∨ (holdM half l k).2 = turnOf (secAt l k) := by
  unfold holdM
  split
  · left; rfl
  · split
    · right; rfl
    · left; rfl
theorem hold_zero (half : Nat) (l : List Sec) (k : Nat) (hk : k < l.length) (h : turnOf (secAt l k) = 0) : holdM half l k = ([], 0) := holdM_out (secAt_get hk) (.inl h)
theorem Good.best {l : List Sec} {cb : List Int} {ct : Nat} (h : Good l cb ct) : bestM (halfOf l) l = (if ct = 0 then 0 else (ct + 1) % 2, cb, ct) := by
  have h4 := h.fit.four
  by_cases h0 : ct = 0
  · obtain ⟨h1, h2, h3⟩ := h.none_ h0
    rw [if_pos h0]
    unfold bestM
    rw [hold_zero _ l 0 (by omega) h2, hold_zero _ l 1 (by omega) h3, h0, h1]
    rfl
  · obtain ⟨h1, h2, h3⟩ := h.some_ (by omega)
    rw [if_neg h0]
    have hs := h.small
    have hk : (ct + 1) % 2 < l.length := by omega
    have hr := h.room
    have hln := h.fit.len
    have hh : halfOf l ≤ 2047 := by unfold halfOf; omega
    have e : holdM (halfOf l) l ((ct + 1) % 2) = (cb, ct) := by
      have ht : turnOf (rootM cb ct) = ct := turn_root cb ct (by omega)
      have hz : sizeOf_ (rootM cb ct) = cb.length := size_root cb ct (by omega)
      rw [holdM_in (r := rootM cb ct) (by rw [secAt_get hk, h1]) (by rw [ht, hz]; omega) (by rw [ht, hz, h2])]
      rw [ht, hz, h2]
    have ho : (holdM (halfOf l) l (ct % 2)).2 < ct := by
      rcases hold_turn (halfOf l) l (ct % 2) (by omega) with h | h
      · omega
      · omega
    unfold bestM
    have h2' : ct % 2 = 0 ∨ ct % 2 = 1 := by omega
    rcases h2' with hm | hm
    · have hk1 : (ct + 1) % 2 = 1 := by omega
      rw [hk1] at e ⊢
      rw [hm] at ho
      rw [e, if_pos ho]
    · have hk1 : (ct + 1) % 2 = 0 := by omega
      rw [hk1] at e ⊢
      rw [hm] at ho
      rw [e, if_neg (by show ¬ ct < _; omega)]
theorem Good.to {l : List Sec} {cb : List Int} {ct : Nat} (h : Good l cb ct) : toM (halfOf l) l = ct % 2 := by
  unfold toM
  rw [h.best]
  by_cases h0 : ct = 0
  · simp [h0]
  · simp only [if_neg h0]; omega
theorem halfOf_land (l : List Sec) (ws : List Wr) : halfOf (land l ws) = halfOf l := by unfold halfOf; rw [land_length]
/-- writes into the area of the slot that does not count change nothing. -/
theorem Good.data {l : List Sec} {cb : List Int} {ct : Nat} (h : Good l cb ct) {ws : List Wr} (hw : ∀ x ∈ ws, x.s.wf ∧ 2 + ct % 2 * halfOf l ≤ x.i ∧ x.i < 2 + ct % 2 * halfOf l + halfOf l) : Good (land l ws) cb ct := by
  have h4 := h.fit.four
  have e0 : secAt (land l ws) 0 = secAt l 0 := secAt_land_ne ws 0 l (fun x hx => by have := (hw x hx).2; omega)
  have e1 : secAt (land l ws) 1 = secAt l 1 := secAt_land_ne ws 1 l (fun x hx => by have := (hw x hx).2; omega)
  have ek : ∀ k, k < 2 → secAt (land l ws) k = secAt l k := fun k hk => by
    rcases (show k = 0 ∨ k = 1 by omega) with rfl | rfl
    · exact e0
    · exact e1
  refine ⟨h.fit.land (fun x hx => (hw x hx).1), by rw [halfOf_land]; exact h.room, h.wf, h.small, fun h0 => ?_, fun h0 => ?_⟩
  · obtain ⟨a, b, c⟩ := h.none_ h0
    exact ⟨a, by rw [e0]; exact b, by rw [e1]; exact c⟩
  · obtain ⟨a, b, c⟩ := h.some_ h0
    refine ⟨by rw [ek _ (by omega)]; exact a, ?_, by rw [ek _ (by omega)]; exact c⟩
    rw [halfOf_land]
    have hr := h.room
    have h2 : 2 + 2 * halfOf l ≤ l.length := by unfold halfOf; omega
    have hh : ct % 2 = 0 ∨ ct % 2 = 1 := by omega
    have hbd : cb.length ≤ (l.length - (2 + (ct + 1) % 2 * halfOf l)) * 64 := by
      rcases hh with hh | hh
      · rw [show (ct + 1) % 2 = 1 by omega]; omega
      · rw [show (ct + 1) % 2 = 0 by omega]; omega
    have hsame := dataOf_same (l := l) (land_length ws l) (2 + (ct + 1) % 2 * halfOf l) cb.length (fun j hj => secAt_land_ne ws _ l (fun x hx => by
      obtain ⟨-, w1, w2⟩ := hw x hx
      have hj2 : j < halfOf l := by omega
      rcases hh with hh | hh
      · rw [hh] at w1 w2; rw [show (ct + 1) % 2 = 1 by omega]; omega
      · rw [hh] at w1 w2; rw [show (ct + 1) % 2 = 0 by omega]; omega)) hbd
    rw [hsame]
    exact b
theorem Good.dataW_in {l : List Sec} {cb : List Int} {ct : Nat} (h : Good l cb ct) {b : List Int} (hb : Wf8 b) (hn : b.length ≤ halfOf l * 64) : ∀ x ∈ dataW (dataTo (halfOf l) l) b, x.s.wf ∧ 2 + ct % 2 * halfOf l ≤ x.i ∧ x.i < 2 + ct % 2 * halfOf l + halfOf l := by
  intro x hx
  obtain ⟨i, hi, rfl⟩ := List.mem_map.1 hx
  have h1 := nch_le _ _ hn
  have h3 : i < nch b.length := by simpa using hi
  have e : dataTo (halfOf l) l = 2 + ct % 2 * halfOf l := by unfold dataTo; rw [h.to]
  refine ⟨Sec.of_wf (hb.drop _), ?_, ?_⟩
  · show _ ≤ dataTo _ _ + i; omega
  · show dataTo _ _ + i < _; omega
/-- behind the root of the next turn. -/
theorem Good.next {l : List Sec} {cb : List Int} {ct : Nat} (h : Good l cb ct) {b : List Int} (hb : Wf8 b) (hn : b.length ≤ halfOf l * 64) (hct : ct + 1 < 9223372036854775808) :
    Good (land (land l (dataW (dataTo (halfOf l) l) b)) [newRoot (halfOf l) l b]) b (ct + 1) := by
  have h4 := h.fit.four
  have h2 : 2 + 2 * halfOf l ≤ l.length := by unfold halfOf; omega
  have hin := h.dataW_in hb hn
  have hd := h.data hin
  have e : newRoot (halfOf l) l b = ⟨ct % 2, rootM b (ct + 1)⟩ := by unfold newRoot; rw [h.to, h.best]
  have ea : dataTo (halfOf l) l = 2 + ct % 2 * halfOf l := by unfold dataTo; rw [h.to]
  have hc1 := nch_le _ _ hn
  have hh : ct % 2 = 0 ∨ ct % 2 = 1 := by omega
  have hfit : 2 + ct % 2 * halfOf l + nch b.length ≤ l.length := by
    rcases hh with hh | hh
    · rw [hh]; omega
    · rw [hh]; omega
  have hread := dataW_read (2 + ct % 2 * halfOf l) b l hfit
  rw [e]
  rw [ea] at hd ⊢
  generalize hL : land l (dataW (2 + ct % 2 * halfOf l) b) = L at hd hread ⊢
  have hLl : L.length = l.length := by rw [← hL, land_length]
  have hLh : halfOf L = halfOf l := by unfold halfOf; rw [hLl]
  show Good (L.set (ct % 2) (rootM b (ct + 1))) b (ct + 1)
  have hsl : (L.set (ct % 2) (rootM b (ct + 1))).length = L.length := by simp
  have hsh : halfOf (L.set (ct % 2) (rootM b (ct + 1))) = halfOf l := by unfold halfOf; rw [hsl, hLl]
  refine ⟨⟨by omega, by have := h.fit.len; omega, by simp, fun s hs => ?_, by simp⟩, by rw [hsh]; exact hn, hb, hct, fun h0 => by omega, fun _ => ⟨?_, ?_, ?_⟩⟩
  · rcases List.mem_or_eq_of_mem_set hs with h1 | h1
    · exact hd.fit.lw s h1
    · rw [h1]; exact rootM_wf _ _
  · rw [show (ct + 1 + 1) % 2 = ct % 2 by omega]
    exact secAt_set_eq _ _ _ (by omega)
  · rw [show (ct + 1 + 1) % 2 = ct % 2 by omega, hsh]
    rw [dataOf_same (l := L) hsl _ _ (fun j hj => secAt_set_ne _ _ _ _ (by omega)) (by
      rw [hLl]
      rcases hh with hh | hh
      · rw [hh]; omega
      · rw [hh]; omega)]
    exact hread
  · rw [secAt_set_ne _ _ _ _ (by omega)]
    by_cases h0 : ct = 0
    · obtain ⟨-, -, c⟩ := hd.none_ h0
      rw [h0]
      show turnOf (secAt L 1) < 0 + 1
      rw [c]; omega
    · obtain ⟨a, -, -⟩ := hd.some_ (by omega)
      rw [a, turn_root _ _ (by have := h.small; omega)]
      omega
/-- a new device. -/
theorem Good.new (n : Nat) (h4 : 4 ≤ n) (hn : n ≤ 4096) : Good (List.replicate n Sec.zero) [] 0 := by
  have hs : ∀ k, secAt (List.replicate n Sec.zero) k = Sec.zero := by
    intro k
    unfold secAt
    rw [List.getD_eq_getElem?_getD, List.getElem?_replicate]
    split <;> rfl
  exact ⟨⟨by simpa using h4, by simpa using hn, by simp, fun s hs => by rw [List.eq_of_mem_replicate hs]; exact Sec.zero_wf, by simp⟩, by simp, Wf8.nil, by omega, fun _ => ⟨rfl, by rw [hs]; exact turn_zero, by rw [hs]; exact turn_zero⟩, fun h => by omega⟩

/-- a Save. -/
theorem Good.save {l : List Sec} {cb : List Int} {ct : Nat} (h : Good l cb ct) {b : List Int} (hb : Wf8 b) (hn : b.length ≤ halfOf l * 64) (hct : ct + 1 < 9223372036854775808) :
    (saveTo l [] b none).2 = [] ∧ Good (saveTo l [] b none).1 b (ct + 1) := by
  refine ⟨rfl, ?_⟩
  have := h.next hb hn hct
  unfold saveTo
  simpa [show land l [] = l from rfl] using this
/-- a torn Save: the bytes that were there, or those that were to be saved. -/
theorem Good.torn {l : List Sec} {cb : List Int} {ct : Nat} (h : Good l cb ct) {b : List Int} (hb : Wf8 b) (hn : b.length ≤ halfOf l * 64) (hct : ct + 1 < 9223372036854775808) (m : Nat) (sv : List Bool) :
    Good (land (saveTo l [] b (some m)).1 (surv (saveTo l [] b (some m)).2 sv)) cb ct ∨ Good (land (saveTo l [] b (some m)).1 (surv (saveTo l [] b (some m)).2 sv)) b (ct + 1) := by
  have hin := h.dataW_in hb hn
  unfold saveTo
  simp only [List.nil_append]
  show Good (land (if m ≤ (dataW (dataTo (halfOf l) l) b).length then _ else _ : List Sec × List Wr).1 _) cb ct ∨ _
  have hl0 : land l [] = l := rfl
  rw [hl0]
  split
  · left
    exact h.data (fun x hx => hin x (List.mem_of_mem_take (surv_mem hx)))
  · have hd := h.data hin
    have hnx := h.next hb hn hct
    cases sv with
    | nil => left; exact hd
    | cons s sv =>
      cases s with
      | false => left; exact hd
      | true => right; exact hnx

/-- where nothing survives. -/
theorem Good.torn_none {l : List Sec} {cb : List Int} {ct : Nat} (h : Good l cb ct) {b : List Int} (hb : Wf8 b) (hn : b.length ≤ halfOf l * 64) (m : Nat) :
    Good (land (saveTo l [] b (some m)).1 (surv (saveTo l [] b (some m)).2 [])) cb ct := by
  have hin := h.dataW_in hb hn
  have hs : ∀ ws : List Wr, surv ws [] = [] := fun ws => by simp [surv]
  rw [hs]
  unfold saveTo
  simp only [List.nil_append]
  have hl0 : land l [] = l := rfl
  rw [hl0]
  split
  · exact h
  · exact h.data hin

end Go.Proofs.Ytecjhaohabjkbaa
