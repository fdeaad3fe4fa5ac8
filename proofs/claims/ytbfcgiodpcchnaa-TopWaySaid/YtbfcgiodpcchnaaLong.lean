/-
  OPERATIONS ON LONG ELEMENTS, WHOLE (no cell by cell): what 'fill' makes of parts; loads, stores, new variables of a type of many cells, over any program.
-/
import Derived.Test.YtbfcgiodpcchnaaSec
import Derived.Great.BuildSlice
import Derived.Laws.StructEq
namespace Go.Proofs.Ytbfcgiodpcchnaa
open Go.RowKit
set_option linter.unusedVariables false

theorem foldl_put (off : Nat) (vs : List Value) : ∀ (k : Nat) (cells : Array Value), off + k + vs.length ≤ cells.size →
    (vs.zipIdx k).foldl (fun (cs : Array Value) (x : Value × Nat) => cs.setIfInBounds (off + x.2) x.1) cells = (cells.toList.take (off + k) ++ vs ++ cells.toList.drop (off + k + vs.length)).toArray := by
  induction vs with
  | nil => intro k cells h; simp
  | cons v r ih =>
    intro k cells h
    simp only [List.length_cons] at h
    rw [List.zipIdx_cons, List.foldl_cons, ih (k + 1) _ (by simp; omega)]
    have hl : off + k < cells.toList.length := by simp; omega
    congr 1
    rw [Array.toList_setIfInBounds, show off + (k + 1) = off + k + 1 by omega, List.take_set, List.take_add_one, List.getElem?_eq_getElem hl, List.drop_set_of_lt (by omega)]
    have e2 : (cells.toList.take (off + k) ++ [cells.toList[off + k]]).set (off + k) v = cells.toList.take (off + k) ++ [v] := by
      rw [List.set_append_right _ _ (by simp; omega)]
      simp [show off + k - min (off + k) cells.size = 0 by omega]
    simp only [Option.toList_some] at *
    rw [e2]
    simp [Nat.add_assoc, Nat.add_comm 1]
theorem fill_step (place : Nat → Option (Nat × Nat)) (cells : Array Value) (i off size : Nat) (v : Value) (rest : List (Nat × Value)) (hp : place i = some (off, size)) (hs : v.cells.size = size) (hle : off + size ≤ cells.size) :
    Instr.fill place cells ((i, v) :: rest) = Instr.fill place (cells.toList.take off ++ v.cells.toList ++ cells.toList.drop (off + size)).toArray rest := by
  have hf : v.cells.zipIdx.foldl (fun cs (x : Value × Nat) => cs.setIfInBounds (off + x.2) x.1) cells = (cells.toList.take off ++ v.cells.toList ++ cells.toList.drop (off + size)).toArray := by
    rw [← Array.foldl_toList, Array.toList_zipIdx]
    have := foldl_put off v.cells.toList 0 cells (by simp; omega)
    simp only [Nat.add_zero, Array.length_toList, hs] at this
    exact this
  rw [Instr.fill, hp]
  simp only [hs, ne_eq, not_true_eq_false, decide_false, Bool.false_or, gt_iff_lt]
  rw [if_neg (by simp; omega)]
  rw [show (v.cells.zipIdx.foldl (fun cs x => match x with | (c, j) => cs.setIfInBounds (off + j) c) cells) = _ from hf]

section
variable {P : Program}
/-- the row of n cells behind a pointer. -/
def rowAt (w : World) (v : Value) (n : Nat) : List Value :=
  match v with
  | .pointer (some a) => (List.range n).map fun j => (w.cell? ⟨a.block, a.off + j, none⟩).getD undef
  | _ => []
/-- is it there? -/
def HasRow (w : World) (v : Value) (n : Nat) : Prop :=
  match v with
  | .pointer (some a) => a.spot = none ∧ ∀ j, j < n → (w.cell? ⟨a.block, a.off + j, none⟩).isSome = true
  | _ => False
/-- may it be written? -/
def MayRow (w : World) (v : Value) (n : Nat) : Prop :=
  match v with
  | .pointer (some a) => a.spot = none ∧ w.there a.block a.off n
  | _ => False
def putRow (w : World) (v : Value) (cs : List Value) : World :=
  match v with
  | .pointer (some a) => w.setCells a.block a.off cs
  | _ => w
@[go_sem] theorem putRow_eq (w : World) (b o : Nat) (cs : List Value) : putRow w (.pointer (some ⟨b, o, none⟩)) cs = w.setCells b o cs := rfl
@[go_sem] theorem rowAt_drewN (w : World) (q : Nat) (v : Value) (n : Nat) : rowAt (w.drewN q) v n = rowAt w v n := rfl
@[go_sem] theorem hasRow_drewN (w : World) (q : Nat) (v : Value) (n : Nat) : HasRow (w.drewN q) v n = HasRow w v n := rfl
@[go_sem] theorem mayRow_drewN (w : World) (q : Nat) (v : Value) (n : Nat) : MayRow (w.drewN q) v n = MayRow w v n := rfl
@[go_sem] theorem rowAt_drew (w : World) (v : Value) (n : Nat) : rowAt w.drew v n = rowAt w v n := rfl
@[go_sem] theorem hasRow_drew (w : World) (v : Value) (n : Nat) : HasRow w.drew v n = HasRow w v n := rfl
@[go_sem] theorem mayRow_drew (w : World) (v : Value) (n : Nat) : MayRow w.drew v n = MayRow w v n := rfl
theorem row_of_range {w : World} {b o n : Nat} {cs : List Value} (h : w.rangeAt b o cs) (hn : cs.length = n) : rowAt w (.pointer (some ⟨b, o, none⟩)) n = cs ∧ HasRow w (.pointer (some ⟨b, o, none⟩)) n := by
  subst hn
  refine ⟨List.ext_getElem? fun j => ?_, rfl, fun j hj => h.isSome j hj⟩
  simp only [rowAt, List.getElem?_map]
  by_cases hj : j < cs.length
  · rw [List.getElem?_range hj, Option.map_some, h j _ (List.getElem?_eq_getElem hj), List.getElem?_eq_getElem hj]; rfl
  · rw [List.getElem?_eq_none (by simpa using hj), List.getElem?_eq_none (by omega)]; rfl
theorem may_of_there {w : World} {b o n : Nat} (h : w.there b o n) : MayRow w (.pointer (some ⟨b, o, none⟩)) n := ⟨rfl, h⟩

theorem range_of_has {w : World} {b o n : Nat} (h : HasRow w (.pointer (some ⟨b, o, none⟩)) n) : w.rangeAt b o (rowAt w (.pointer (some ⟨b, o, none⟩)) n) := by
  intro j u hu
  have hj : j < n := by
    have := (List.getElem?_eq_some_iff.1 hu).1
    simpa [rowAt] using this
  simp only [rowAt, List.getElem?_map, List.getElem?_range hj, Option.map_some, Option.some.injEq] at hu
  obtain ⟨u', hu'⟩ := Option.isSome_iff_exists.1 (h.2 j hj)
  rw [← hu, hu']; rfl
theorem run_load_row {w : World} (ty : TypeId) (n : Nat) (d : TypeDesc) (hu : P.underlying ty = some d) (hd : d.isRow = true) (hi : (P.info? ty).map (·.size) = some n) (v : Value) (h : HasRow w v n) :
    (Instr.loadAt ty v).run P w = .ok (.agg (rowAt w v n).toArray) w := by
  cases v with
  | pointer a =>
    cases a with
    | none => exact h.elim
    | some a =>
      obtain ⟨b, o, sp⟩ := a
      obtain rfl : sp = none := h.1
      exact run_loadAt_mid w b o ty _ d (range_of_has h) hu hd (by rw [hi]; simp [rowAt])
  | _ => exact (h : False).elim
theorem run_store_row {w : World} (ty : TypeId) (n : Nat) (hi : (P.info? ty).map (·.size) = some n) (v : Value) (cs : List Value) (h : MayRow w v n) (hl : cs.length = n) (h1 : ∀ u ∈ cs, u.oneCell' = true) :
    (Instr.storeAt ty v (.agg cs.toArray)).run P w = .ok () (putRow w v cs) := by
  cases v with
  | pointer a =>
    cases a with
    | none => exact h.elim
    | some a =>
      obtain ⟨b, o, sp⟩ := a
      obtain rfl : sp = none := h.1
      have := run_storeAt_mid (P := P) w b o ty cs.toArray (by simpa [hl] using h.2) (by rw [hi]; simp [hl]) (all_oneCell_toArray h1)
      simpa [putRow] using this
  | _ => exact (h : False).elim
theorem run_alloc_row (w : World) (ty : TypeId) (z : Array Value) (n m : Nat) (h : (P.info? ty).map (fun i => (i.zero, i.size, i.bytes)) = some (some (.agg z), n, m)) (hp : Bool) (old : Value) (hb : hp = true) :
    (Instr.alloc ty hp old).run P w = .ok (.pointer (some ⟨w.heap.size, 0, none⟩)) (w.alloc (.cells z ty)) := by
  subst hb
  obtain ⟨i, hi, hz, -, -⟩ := info_parts h
  simp [Instr.alloc, zeroValue, typeInfo, hi, hz, newVar, newRow, Value.cells]
theorem run_buildSlice_one (w : World) (t e : TypeId) (z : Array Value) (n m : Nat) (hu : P.underlying t = some (.slice e)) (h : (P.info? e).map (fun i => (i.zero, i.size, i.bytes)) = some (some (.agg z), n, m)) (hz : z.size = n) (hn : 0 < n) (hsm : n ≤ 16777216)
    (cs : Array Value) (hc : cs.size = n) : (Instr.buildSlice t 1 #[(0, .agg cs)]).run P w = .ok (.slice (some ⟨w.heap.size, 0, none⟩) 1 1) (w.alloc (.cells cs e)) := by
  obtain ⟨i, hi, hz1, hs, -⟩ := info_parts h
  subst hs
  refine run_buildSlice w t e 1 _ cs i (.agg z) hu hi hz1 (by omega) (by omega) ?_
  rw [fill_step _ _ 0 0 i.size _ [] (by simp) (by simpa [Value.cells] using hc) (by simp)]
  simp only [Instr.fill, Value.cells, List.take_zero, List.nil_append, Nat.zero_add]
  rw [List.drop_of_length_le (by simp)]
  simp
end

/-! ## two arrays of bytes compared -/
theorem all_range_eq' : ∀ (xs ys : List Int), xs.length = ys.length → ((List.range xs.length).all fun i => xs.getD i 0 == ys.getD i 0) = (xs == ys)
  | [], [], _ => rfl
  | x :: xs, y :: ys, h => by
    have ih := all_range_eq' xs ys (by simpa using h)
    rw [List.length_cons, List.range_succ_eq_map, List.all_cons, List.all_map]
    simp only [List.getD_cons_zero, Function.comp_def, List.getD_cons_succ, ih]
    simp [List.cons_beq_cons]
  | [], _ :: _, h => by simp at h
  | _ :: _, [], h => by simp at h
section
variable {P : Program} (w : World)
theorem run_equalIn_u8s (d : Nat) (t e : TypeId) (n : Nat) (ht : P.underlying t = some (.array n e)) (he : P.underlying e = some (.int .u8)) (hsz : ∀ w, (sizeOf e).run P w = .ok 1 w)
    (xs ys : List Int) (hx : xs.length = n) (hy : ys.length = n) :
    (Op.equalIn (d + 2) t (.agg (xs.map (Value.int .u8)).toArray) (.agg (ys.map (Value.int .u8)).toArray)).run P w = .ok (xs == ys) w := by
  rw [← all_range_eq' xs ys (hx.trans hy.symm), hx, List.range_eq_range', Op.equalIn]
  simp only [Sem.run_bind, run_underlying ht, Result.andThen_ok, hsz, Std.Legacy.Range.forIn_eq_forIn_range', Std.Legacy.Range.size, Nat.sub_zero, Nat.add_sub_cancel, Nat.div_one]
  have hl : ∀ i ∈ List.range' 0 n 1, i < n := fun i hi => by simpa using (List.mem_range'_1.1 hi).2
  generalize List.range' 0 n 1 = l at hl ⊢
  induction l with
  | nil => simp
  | cons i l ih =>
    have hi : i < n := hl i (by simp)
    have px : (part e (xs.map (Value.int .u8)).toArray (i * 1)).run P w = .ok (.int .u8 (xs.getD i 0)) w := by
      simp [part, isAgg, run_underlying he, List.getD, List.getElem?_eq_getElem (show i < xs.length by omega)]
    have py : (part e (ys.map (Value.int .u8)).toArray (i * 1)).run P w = .ok (.int .u8 (ys.getD i 0)) w := by
      simp [part, isAgg, run_underlying he, List.getD, List.getElem?_eq_getElem (show i < ys.length by omega)]
    have pe : (Op.equalIn (d + 1) e (.int .u8 (xs.getD i 0)) (.int .u8 (ys.getD i 0))).run P w = .ok (xs.getD i 0 == ys.getD i 0) w := run_equalIn_int w d e .u8 .u8 _ _ he
    simp only [List.forIn_cons, Sem.run_bind, px, py, pe, Result.andThen_ok, List.all_cons]
    cases hb : (xs.getD i 0 == ys.getD i 0)
    · simp
    · simp only [Bool.not_true, Bool.false_eq_true, if_false, Sem.run_pure, Result.andThen_ok, Bool.true_and]
      exact ih fun j hj => hl j (by simp [hj])
theorem run_equal_u8s (t e : TypeId) (n : Nat) (ht : P.underlying t = some (.array n e)) (he : P.underlying e = some (.int .u8)) (hsz : ∀ w, (sizeOf e).run P w = .ok 1 w)
    (xs ys : List Int) (hx : xs.length = n) (hy : ys.length = n) :
    (Op.equal t (.agg (xs.map (Value.int .u8)).toArray) (.agg (ys.map (Value.int .u8)).toArray)).run P w = .ok (xs == ys) w := run_equalIn_u8s w 9998 t e n ht he hsz xs ys hx hy
end

end Go.Proofs.Ytbfcgiodpcchnaa
