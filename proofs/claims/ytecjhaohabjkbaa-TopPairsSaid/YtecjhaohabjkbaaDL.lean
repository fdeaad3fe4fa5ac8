/-
  RULES OF THE WALK (printed by gendl.py): loads, stores, new variables and literals of sectors and of writes are taken whole, never cell by cell.
-/
import Derived.Test.YtecjhaohabjkbaaProg
import Derived.Test.YtecjhaohabjkbaaLong
import Derived.Laws.ResultCell
import Derived.AtR
namespace Go.Proofs.Ytecjhaohabjkbaa
open Go.RowKit
set_option linter.unusedVariables false

def IsSec (v : Value) : Prop := ∃ s : Sec, v = .agg s.cells.toArray
@[go_sem] theorem isSec_mk (s : Sec) : IsSec (.agg s.cells.toArray) = True := eq_true ⟨s, rfl⟩
def IsWr (v : Value) : Prop := ∃ x : Wr, v = .agg x.cells.toArray
@[go_sem] theorem isWr_mk (x : Wr) : IsWr (.agg x.cells.toArray) = True := eq_true ⟨x, rfl⟩
def IsAt (v : Value) : Prop := ∃ i : Nat, v = .int .i64 i
@[go_sem] theorem isAt_mk (i : Nat) : IsAt (.int .i64 (i : Int)) = True := eq_true ⟨i, rfl⟩
def cellsOf (v : Value) : List Value := match v with | .agg cs => cs.toList | _ => []
@[go_sem] theorem cellsOf_mk (l : List Value) : cellsOf (.agg l.toArray) = l := rfl
def mkWr (a b : Value) : Value := .agg (a.cells.toList ++ cellsOf b).toArray
@[go_sem] theorem mkWr_mk (i : Nat) (s : Sec) : mkWr (.int .i64 (i : Int)) (.agg s.cells.toArray) = .agg (Wr.cells ⟨i, s⟩).toArray := rfl
@[go_sem] theorem agg_cells (cs : Array Value) : (Value.agg cs).cells = cs := rfl
/-- the bytes of such a value. -/
def secBytes (v : Value) : List Int := match v with | .agg cs => cs.toList.map fun u => (match u with | .int _ z => z | _ => 0) | _ => []
@[go_sem] theorem secBytes_mk (s : Sec) : secBytes (.agg s.cells.toArray) = s.bs := by
  simp only [secBytes, Sec.cells, List.map_map]
  exact List.map_id _
def Wr.zero : Wr := ⟨0, Sec.zero⟩

section
variable {ev : Operand → Value} {dst : Option Tmp} {ty : TypeId} {pos : String} {aft : Array Edge} {gd : Option (Nat × Bool)} {w : World}
theorem info_sec : (Try.prog.info? 31).map (fun i => (i.zero, i.size, i.bytes)) = some (some (.agg Sec.zero.cells.toArray), 64, 64) := by kernel_rfl
theorem size_sec : (Try.prog.info? 31).map (·.size) = some 64 := by kernel_rfl
@[go_sem ↓] theorem ex_load_sec {x : Operand} (h : HasRow w (ev x) 64) : (execOp ev { dst := dst, op := .load 31 x, type := ty, pos := pos, after := aft, guard := gd }).run Try.prog w = .ok (.value (.agg (rowAt w (ev x) 64).toArray)) w := by
  have h1 := run_load_row (P := Try.prog) 31 64 _ Try.underlying31 rfl size_sec (ev x) h
  unfold execOp
  simp only [Sem.run_bind, h1, Result.andThen_ok, Sem.run_pure]
@[go_sem ↓] theorem ex_store_sec {x y : Operand} (h : MayRow w (ev x) 64) (hv : IsSec (ev y)) : (execOp ev { dst := dst, op := .store 31 x y, type := ty, pos := pos, after := aft, guard := gd }).run Try.prog w = .ok .skip (putRow w (ev x) (cellsOf (ev y))) := by
  obtain ⟨s, hs⟩ := hv
  have h1 := run_store_row (P := Try.prog) 31 64 size_sec (ev x) s.cells h s.cells_length s.one
  unfold execOp
  simp only [hs, Sem.run_bind, h1, Result.andThen_ok, Sem.run_pure, cellsOf_mk]
@[go_sem ↓] theorem ex_alloc_sec : (execOp ev { dst := dst, op := .alloc 31, type := ty, pos := pos, after := aft, guard := gd }).run Try.prog w = .ok (.value (.pointer (some ⟨w.heap.size, 0, none⟩))) (w.alloc (.cells Sec.zero.cells.toArray 31)) := by
  have h1 := run_alloc_row (P := Try.prog) w 31 _ _ _ info_sec true (.tuple #[]) rfl
  unfold execOp
  simp only [Sem.run_bind, h1, Result.andThen_ok, Sem.run_pure]
theorem run_zero_sec (w : World) : (Instr.build 31 #[]).run Try.prog w = .ok (.agg Sec.zero.cells.toArray) w := by kernel_rfl
@[go_sem ↓] theorem ex_zero_sec : (execOp ev { dst := dst, op := .build 31 #[], type := ty, pos := pos, after := aft, guard := gd }).run Try.prog w = .ok (.value (.agg Sec.zero.cells.toArray)) w := by
  have h1 := run_zero_sec w
  unfold execOp
  simp only [List.map_toArray, List.map_nil, Sem.run_bind, h1, Result.andThen_ok, Sem.run_pure]
end

section
variable {ev : Operand → Value} {dst : Option Tmp} {ty : TypeId} {pos : String} {aft : Array Edge} {gd : Option (Nat × Bool)} {w : World}
theorem info_rsec : (Try.prog.info? 62).map (fun i => (i.zero, i.size, i.bytes)) = some (some (.agg Sec.zero.cells.toArray), 64, 64) := by kernel_rfl
theorem size_rsec : (Try.prog.info? 62).map (·.size) = some 64 := by kernel_rfl
@[go_sem ↓] theorem ex_load_rsec {x : Operand} (h : HasRow w (ev x) 64) : (execOp ev { dst := dst, op := .load 62 x, type := ty, pos := pos, after := aft, guard := gd }).run Try.prog w = .ok (.value (.agg (rowAt w (ev x) 64).toArray)) w := by
  have h1 := run_load_row (P := Try.prog) 62 64 _ Try.underlying62 rfl size_rsec (ev x) h
  unfold execOp
  simp only [Sem.run_bind, h1, Result.andThen_ok, Sem.run_pure]
@[go_sem ↓] theorem ex_store_rsec {x y : Operand} (h : MayRow w (ev x) 64) (hv : IsSec (ev y)) : (execOp ev { dst := dst, op := .store 62 x y, type := ty, pos := pos, after := aft, guard := gd }).run Try.prog w = .ok .skip (putRow w (ev x) (cellsOf (ev y))) := by
  obtain ⟨s, hs⟩ := hv
  have h1 := run_store_row (P := Try.prog) 62 64 size_rsec (ev x) s.cells h s.cells_length s.one
  unfold execOp
  simp only [hs, Sem.run_bind, h1, Result.andThen_ok, Sem.run_pure, cellsOf_mk]
@[go_sem ↓] theorem ex_alloc_rsec : (execOp ev { dst := dst, op := .alloc 62, type := ty, pos := pos, after := aft, guard := gd }).run Try.prog w = .ok (.value (.pointer (some ⟨w.heap.size, 0, none⟩))) (w.alloc (.cells Sec.zero.cells.toArray 62)) := by
  have h1 := run_alloc_row (P := Try.prog) w 62 _ _ _ info_rsec true (.tuple #[]) rfl
  unfold execOp
  simp only [Sem.run_bind, h1, Result.andThen_ok, Sem.run_pure]
theorem run_zero_rsec (w : World) : (Instr.build 62 #[]).run Try.prog w = .ok (.agg Sec.zero.cells.toArray) w := by kernel_rfl
@[go_sem ↓] theorem ex_zero_rsec : (execOp ev { dst := dst, op := .build 62 #[], type := ty, pos := pos, after := aft, guard := gd }).run Try.prog w = .ok (.value (.agg Sec.zero.cells.toArray)) w := by
  have h1 := run_zero_rsec w
  unfold execOp
  simp only [List.map_toArray, List.map_nil, Sem.run_bind, h1, Result.andThen_ok, Sem.run_pure]
end

section
variable {ev : Operand → Value} {dst : Option Tmp} {ty : TypeId} {pos : String} {aft : Array Edge} {gd : Option (Nat × Bool)} {w : World}
theorem info_arr : (Try.prog.info? 30).map (fun i => (i.zero, i.size, i.bytes)) = some (some (.agg Sec.zero.cells.toArray), 64, 64) := by kernel_rfl
theorem size_arr : (Try.prog.info? 30).map (·.size) = some 64 := by kernel_rfl
@[go_sem ↓] theorem ex_load_arr {x : Operand} (h : HasRow w (ev x) 64) : (execOp ev { dst := dst, op := .load 30 x, type := ty, pos := pos, after := aft, guard := gd }).run Try.prog w = .ok (.value (.agg (rowAt w (ev x) 64).toArray)) w := by
  have h1 := run_load_row (P := Try.prog) 30 64 _ Try.underlying30 rfl size_arr (ev x) h
  unfold execOp
  simp only [Sem.run_bind, h1, Result.andThen_ok, Sem.run_pure]
@[go_sem ↓] theorem ex_store_arr {x y : Operand} (h : MayRow w (ev x) 64) (hv : IsSec (ev y)) : (execOp ev { dst := dst, op := .store 30 x y, type := ty, pos := pos, after := aft, guard := gd }).run Try.prog w = .ok .skip (putRow w (ev x) (cellsOf (ev y))) := by
  obtain ⟨s, hs⟩ := hv
  have h1 := run_store_row (P := Try.prog) 30 64 size_arr (ev x) s.cells h s.cells_length s.one
  unfold execOp
  simp only [hs, Sem.run_bind, h1, Result.andThen_ok, Sem.run_pure, cellsOf_mk]
@[go_sem ↓] theorem ex_alloc_arr : (execOp ev { dst := dst, op := .alloc 30, type := ty, pos := pos, after := aft, guard := gd }).run Try.prog w = .ok (.value (.pointer (some ⟨w.heap.size, 0, none⟩))) (w.alloc (.cells Sec.zero.cells.toArray 30)) := by
  have h1 := run_alloc_row (P := Try.prog) w 30 _ _ _ info_arr true (.tuple #[]) rfl
  unfold execOp
  simp only [Sem.run_bind, h1, Result.andThen_ok, Sem.run_pure]
theorem run_zero_arr (w : World) : (Instr.build 30 #[]).run Try.prog w = .ok (.agg Sec.zero.cells.toArray) w := by kernel_rfl
@[go_sem ↓] theorem ex_zero_arr : (execOp ev { dst := dst, op := .build 30 #[], type := ty, pos := pos, after := aft, guard := gd }).run Try.prog w = .ok (.value (.agg Sec.zero.cells.toArray)) w := by
  have h1 := run_zero_arr w
  unfold execOp
  simp only [List.map_toArray, List.map_nil, Sem.run_bind, h1, Result.andThen_ok, Sem.run_pure]
end

section
variable {ev : Operand → Value} {dst : Option Tmp} {ty : TypeId} {pos : String} {aft : Array Edge} {gd : Option (Nat × Bool)} {w : World}
theorem size1_sec : ∀ w, (sizeOf 5).run Try.prog w = .ok 1 w := by intro w; kernel_rfl
theorem calm_sec : Try.prog.eqGuardType Try.prog.depth 31 = false := by kernel_rfl
@[go_sem ↓] theorem ex_eql_sec {x y : Operand} {rt : TypeId} (hx : IsSec (ev x)) (hy : IsSec (ev y)) : (execOp ev { dst := dst, op := .binOp .eql 31 x y rt, type := ty, pos := pos, after := aft, guard := gd }).run Try.prog w = .ok (.value (.bool (secBytes (ev x) == secBytes (ev y)))) w := by
  obtain ⟨s, hs⟩ := hx
  obtain ⟨r, hr⟩ := hy
  have h1 := run_equal_u8s (P := Try.prog) w 31 5 64 Try.underlying31 Try.underlying5 size1_sec s.bs r.bs s.len r.len
  have h2 := run_eqGuard_agg (P := Try.prog) w .eql 31 x y s.cells.toArray r.cells.toArray calm_sec
  unfold execOp
  simp only [hs, hr, Sem.run_bind, h2, Result.andThen_ok, binOp, secBytes_mk]
  simp only [Sec.cells] at *
  simp [h1]
@[go_sem ↓] theorem ex_neq_sec {x y : Operand} {rt : TypeId} (hx : IsSec (ev x)) (hy : IsSec (ev y)) : (execOp ev { dst := dst, op := .binOp .neq 31 x y rt, type := ty, pos := pos, after := aft, guard := gd }).run Try.prog w = .ok (.value (.bool (!(secBytes (ev x) == secBytes (ev y))))) w := by
  obtain ⟨s, hs⟩ := hx
  obtain ⟨r, hr⟩ := hy
  have h1 := run_equal_u8s (P := Try.prog) w 31 5 64 Try.underlying31 Try.underlying5 size1_sec s.bs r.bs s.len r.len
  have h2 := run_eqGuard_agg (P := Try.prog) w .neq 31 x y s.cells.toArray r.cells.toArray calm_sec
  unfold execOp
  simp only [hs, hr, Sem.run_bind, h2, Result.andThen_ok, binOp, secBytes_mk]
  simp only [Sec.cells] at *
  simp [h1]
end

section
variable {ev : Operand → Value} {dst : Option Tmp} {ty : TypeId} {pos : String} {aft : Array Edge} {gd : Option (Nat × Bool)} {w : World}
theorem size1_rsec : ∀ w, (sizeOf 5).run Try.prog w = .ok 1 w := by intro w; kernel_rfl
theorem calm_rsec : Try.prog.eqGuardType Try.prog.depth 62 = false := by kernel_rfl
@[go_sem ↓] theorem ex_eql_rsec {x y : Operand} {rt : TypeId} (hx : IsSec (ev x)) (hy : IsSec (ev y)) : (execOp ev { dst := dst, op := .binOp .eql 62 x y rt, type := ty, pos := pos, after := aft, guard := gd }).run Try.prog w = .ok (.value (.bool (secBytes (ev x) == secBytes (ev y)))) w := by
  obtain ⟨s, hs⟩ := hx
  obtain ⟨r, hr⟩ := hy
  have h1 := run_equal_u8s (P := Try.prog) w 62 5 64 Try.underlying62 Try.underlying5 size1_rsec s.bs r.bs s.len r.len
  have h2 := run_eqGuard_agg (P := Try.prog) w .eql 62 x y s.cells.toArray r.cells.toArray calm_rsec
  unfold execOp
  simp only [hs, hr, Sem.run_bind, h2, Result.andThen_ok, binOp, secBytes_mk]
  simp only [Sec.cells] at *
  simp [h1]
@[go_sem ↓] theorem ex_neq_rsec {x y : Operand} {rt : TypeId} (hx : IsSec (ev x)) (hy : IsSec (ev y)) : (execOp ev { dst := dst, op := .binOp .neq 62 x y rt, type := ty, pos := pos, after := aft, guard := gd }).run Try.prog w = .ok (.value (.bool (!(secBytes (ev x) == secBytes (ev y))))) w := by
  obtain ⟨s, hs⟩ := hx
  obtain ⟨r, hr⟩ := hy
  have h1 := run_equal_u8s (P := Try.prog) w 62 5 64 Try.underlying62 Try.underlying5 size1_rsec s.bs r.bs s.len r.len
  have h2 := run_eqGuard_agg (P := Try.prog) w .neq 62 x y s.cells.toArray r.cells.toArray calm_rsec
  unfold execOp
  simp only [hs, hr, Sem.run_bind, h2, Result.andThen_ok, binOp, secBytes_mk]
  simp only [Sec.cells] at *
  simp [h1]
end

section
variable {ev : Operand → Value} {dst : Option Tmp} {ty : TypeId} {pos : String} {aft : Array Edge} {gd : Option (Nat × Bool)} {w : World}
theorem size1_arr : ∀ w, (sizeOf 5).run Try.prog w = .ok 1 w := by intro w; kernel_rfl
theorem calm_arr : Try.prog.eqGuardType Try.prog.depth 30 = false := by kernel_rfl
@[go_sem ↓] theorem ex_eql_arr {x y : Operand} {rt : TypeId} (hx : IsSec (ev x)) (hy : IsSec (ev y)) : (execOp ev { dst := dst, op := .binOp .eql 30 x y rt, type := ty, pos := pos, after := aft, guard := gd }).run Try.prog w = .ok (.value (.bool (secBytes (ev x) == secBytes (ev y)))) w := by
  obtain ⟨s, hs⟩ := hx
  obtain ⟨r, hr⟩ := hy
  have h1 := run_equal_u8s (P := Try.prog) w 30 5 64 Try.underlying30 Try.underlying5 size1_arr s.bs r.bs s.len r.len
  have h2 := run_eqGuard_agg (P := Try.prog) w .eql 30 x y s.cells.toArray r.cells.toArray calm_arr
  unfold execOp
  simp only [hs, hr, Sem.run_bind, h2, Result.andThen_ok, binOp, secBytes_mk]
  simp only [Sec.cells] at *
  simp [h1]
@[go_sem ↓] theorem ex_neq_arr {x y : Operand} {rt : TypeId} (hx : IsSec (ev x)) (hy : IsSec (ev y)) : (execOp ev { dst := dst, op := .binOp .neq 30 x y rt, type := ty, pos := pos, after := aft, guard := gd }).run Try.prog w = .ok (.value (.bool (!(secBytes (ev x) == secBytes (ev y))))) w := by
  obtain ⟨s, hs⟩ := hx
  obtain ⟨r, hr⟩ := hy
  have h1 := run_equal_u8s (P := Try.prog) w 30 5 64 Try.underlying30 Try.underlying5 size1_arr s.bs r.bs s.len r.len
  have h2 := run_eqGuard_agg (P := Try.prog) w .neq 30 x y s.cells.toArray r.cells.toArray calm_arr
  unfold execOp
  simp only [hs, hr, Sem.run_bind, h2, Result.andThen_ok, binOp, secBytes_mk]
  simp only [Sec.cells] at *
  simp [h1]
end

section
variable {ev : Operand → Value} {dst : Option Tmp} {ty : TypeId} {pos : String} {aft : Array Edge} {gd : Option (Nat × Bool)} {w : World}
theorem info_wr : (Try.prog.info? 96).map (fun i => (i.zero, i.size, i.bytes)) = some (some (.agg Wr.zero.cells.toArray), 65, 72) := by kernel_rfl
theorem size_wr : (Try.prog.info? 96).map (·.size) = some 65 := by kernel_rfl
@[go_sem ↓] theorem ex_load_wr {x : Operand} (h : HasRow w (ev x) 65) : (execOp ev { dst := dst, op := .load 96 x, type := ty, pos := pos, after := aft, guard := gd }).run Try.prog w = .ok (.value (.agg (rowAt w (ev x) 65).toArray)) w := by
  have h1 := run_load_row (P := Try.prog) 96 65 _ Try.underlying96 rfl size_wr (ev x) h
  unfold execOp
  simp only [Sem.run_bind, h1, Result.andThen_ok, Sem.run_pure]
@[go_sem ↓] theorem ex_store_wr {x y : Operand} (h : MayRow w (ev x) 65) (hv : IsWr (ev y)) : (execOp ev { dst := dst, op := .store 96 x y, type := ty, pos := pos, after := aft, guard := gd }).run Try.prog w = .ok .skip (putRow w (ev x) (cellsOf (ev y))) := by
  obtain ⟨s, hs⟩ := hv
  have h1 := run_store_row (P := Try.prog) 96 65 size_wr (ev x) s.cells h s.cells_length s.one
  unfold execOp
  simp only [hs, Sem.run_bind, h1, Result.andThen_ok, Sem.run_pure, cellsOf_mk]
@[go_sem ↓] theorem ex_alloc_wr : (execOp ev { dst := dst, op := .alloc 96, type := ty, pos := pos, after := aft, guard := gd }).run Try.prog w = .ok (.value (.pointer (some ⟨w.heap.size, 0, none⟩))) (w.alloc (.cells Wr.zero.cells.toArray 96)) := by
  have h1 := run_alloc_row (P := Try.prog) w 96 _ _ _ info_wr true (.tuple #[]) rfl
  unfold execOp
  simp only [Sem.run_bind, h1, Result.andThen_ok, Sem.run_pure]
end

section
variable {ev : Operand → Value} {dst : Option Tmp} {ty : TypeId} {pos : String} {aft : Array Edge} {gd : Option (Nat × Bool)} {w : World}
theorem places_wr (w : World) : (((Try.prog.fieldsOf 96).mapM fun f => (do pure (f.offset, ← sizeOf f.type) : Sem (Nat × Nat))).run Try.prog w) = .ok #[(0, 1), (1, 64)] w := by kernel_rfl
theorem fields_wr : Try.prog.underlying 96 = some (.struct (Try.prog.fieldsOf 96)) := by kernel_rfl
theorem run_build_wr (w : World) (i : Nat) (s : Sec) : (Instr.build 96 #[(0, .int .i64 (i : Int)), (1, .agg s.cells.toArray)]).run Try.prog w = .ok (.agg (Wr.cells ⟨i, s⟩).toArray) w := by
  obtain ⟨ti, hi, hz, -, -⟩ := info_parts info_wr
  have hfill : Instr.fill (fun k => (#[(0, 1), (1, 64)] : Array (Nat × Nat))[k]?) Wr.zero.cells.toArray [(0, .int .i64 (i : Int)), (1, .agg s.cells.toArray)] = some (Wr.cells ⟨i, s⟩).toArray := by
    rw [fill_step _ _ 0 0 1 _ _ rfl rfl (by simp [Wr.cells_length])]
    have e1 : (Wr.zero.cells.toArray.toList.take 0 ++ (Value.int .i64 (i : Int)).cells.toList ++ Wr.zero.cells.toArray.toList.drop (0 + 1)).toArray = (Value.int .i64 (i : Int) :: Sec.zero.cells).toArray := rfl
    rw [e1, fill_step _ _ 1 1 64 _ _ rfl (by simp [Value.cells, Sec.cells_length]) (by simp [Sec.cells_length])]
    have e2 : (Value.int .i64 (i : Int) :: Sec.zero.cells).drop (1 + 64) = [] := List.drop_of_length_le (by simp [Sec.cells_length])
    show some _ = some _
    simp [e2, Wr.cells, Value.cells]
  simp only [Instr.build, Sem.run_bind, zeroValue, typeInfo, run_program, hi, hz, Sem.run_pure, Result.andThen_ok, run_underlying fields_wr, places_wr, Value.cells, hfill]
@[go_sem ↓] theorem ex_build_wr {a b : Operand} (ha : IsAt (ev a)) (hb : IsSec (ev b)) : (execOp ev { dst := dst, op := .build 96 #[(0, a), (1, b)], type := ty, pos := pos, after := aft, guard := gd }).run Try.prog w = .ok (.value (mkWr (ev a) (ev b))) w := by
  obtain ⟨i, hi⟩ := ha
  obtain ⟨s, hs⟩ := hb
  have h1 := run_build_wr w i s
  unfold execOp
  simp only [List.map_toArray, List.map_cons, List.map_nil, hi, hs, Sem.run_bind, h1, Result.andThen_ok, Sem.run_pure, mkWr_mk]
@[go_sem ↓] theorem ex_slice_wr {a : Operand} (ha : IsWr (ev a)) : (execOp ev { dst := dst, op := .buildSlice 89 1 #[(0, a)], type := ty, pos := pos, after := aft, guard := gd }).run Try.prog w = .ok (.value (.slice (some ⟨w.heap.size, 0, none⟩) 1 1)) (w.alloc (.cells (cellsOf (ev a)).toArray 96)) := by
  obtain ⟨x, hx⟩ := ha
  have h1 := run_buildSlice_one (P := Try.prog) w 89 96 _ _ _ Try.underlying89 info_wr (by simp [Wr.cells_length]) (by omega) (by omega) x.cells.toArray (by simp [Wr.cells_length])
  unfold execOp
  simp only [List.map_toArray, List.map_cons, List.map_nil, hx, Sem.run_bind, h1, Result.andThen_ok, Sem.run_pure, cellsOf_mk]
end

section
variable {ev : Operand → Value} {dst : Option Tmp} {ty : TypeId} {pos : String} {aft : Array Edge} {gd : Option (Nat × Bool)} {w : World}
theorem info_rwr : (Try.prog.info? 110).map (fun i => (i.zero, i.size, i.bytes)) = some (some (.agg Wr.zero.cells.toArray), 65, 72) := by kernel_rfl
theorem size_rwr : (Try.prog.info? 110).map (·.size) = some 65 := by kernel_rfl
@[go_sem ↓] theorem ex_load_rwr {x : Operand} (h : HasRow w (ev x) 65) : (execOp ev { dst := dst, op := .load 110 x, type := ty, pos := pos, after := aft, guard := gd }).run Try.prog w = .ok (.value (.agg (rowAt w (ev x) 65).toArray)) w := by
  have h1 := run_load_row (P := Try.prog) 110 65 _ Try.underlying110 rfl size_rwr (ev x) h
  unfold execOp
  simp only [Sem.run_bind, h1, Result.andThen_ok, Sem.run_pure]
@[go_sem ↓] theorem ex_store_rwr {x y : Operand} (h : MayRow w (ev x) 65) (hv : IsWr (ev y)) : (execOp ev { dst := dst, op := .store 110 x y, type := ty, pos := pos, after := aft, guard := gd }).run Try.prog w = .ok .skip (putRow w (ev x) (cellsOf (ev y))) := by
  obtain ⟨s, hs⟩ := hv
  have h1 := run_store_row (P := Try.prog) 110 65 size_rwr (ev x) s.cells h s.cells_length s.one
  unfold execOp
  simp only [hs, Sem.run_bind, h1, Result.andThen_ok, Sem.run_pure, cellsOf_mk]
@[go_sem ↓] theorem ex_alloc_rwr : (execOp ev { dst := dst, op := .alloc 110, type := ty, pos := pos, after := aft, guard := gd }).run Try.prog w = .ok (.value (.pointer (some ⟨w.heap.size, 0, none⟩))) (w.alloc (.cells Wr.zero.cells.toArray 110)) := by
  have h1 := run_alloc_row (P := Try.prog) w 110 _ _ _ info_rwr true (.tuple #[]) rfl
  unfold execOp
  simp only [Sem.run_bind, h1, Result.andThen_ok, Sem.run_pure]
end

section
variable {ev : Operand → Value} {dst : Option Tmp} {ty : TypeId} {pos : String} {aft : Array Edge} {gd : Option (Nat × Bool)} {w : World}
theorem places_rwr (w : World) : (((Try.prog.fieldsOf 110).mapM fun f => (do pure (f.offset, ← sizeOf f.type) : Sem (Nat × Nat))).run Try.prog w) = .ok #[(0, 1), (1, 64)] w := by kernel_rfl
theorem fields_rwr : Try.prog.underlying 110 = some (.struct (Try.prog.fieldsOf 110)) := by kernel_rfl
theorem run_build_rwr (w : World) (i : Nat) (s : Sec) : (Instr.build 110 #[(0, .int .i64 (i : Int)), (1, .agg s.cells.toArray)]).run Try.prog w = .ok (.agg (Wr.cells ⟨i, s⟩).toArray) w := by
  obtain ⟨ti, hi, hz, -, -⟩ := info_parts info_rwr
  have hfill : Instr.fill (fun k => (#[(0, 1), (1, 64)] : Array (Nat × Nat))[k]?) Wr.zero.cells.toArray [(0, .int .i64 (i : Int)), (1, .agg s.cells.toArray)] = some (Wr.cells ⟨i, s⟩).toArray := by
    rw [fill_step _ _ 0 0 1 _ _ rfl rfl (by simp [Wr.cells_length])]
    have e1 : (Wr.zero.cells.toArray.toList.take 0 ++ (Value.int .i64 (i : Int)).cells.toList ++ Wr.zero.cells.toArray.toList.drop (0 + 1)).toArray = (Value.int .i64 (i : Int) :: Sec.zero.cells).toArray := rfl
    rw [e1, fill_step _ _ 1 1 64 _ _ rfl (by simp [Value.cells, Sec.cells_length]) (by simp [Sec.cells_length])]
    have e2 : (Value.int .i64 (i : Int) :: Sec.zero.cells).drop (1 + 64) = [] := List.drop_of_length_le (by simp [Sec.cells_length])
    show some _ = some _
    simp [e2, Wr.cells, Value.cells]
  simp only [Instr.build, Sem.run_bind, zeroValue, typeInfo, run_program, hi, hz, Sem.run_pure, Result.andThen_ok, run_underlying fields_rwr, places_rwr, Value.cells, hfill]
@[go_sem ↓] theorem ex_build_rwr {a b : Operand} (ha : IsAt (ev a)) (hb : IsSec (ev b)) : (execOp ev { dst := dst, op := .build 110 #[(0, a), (1, b)], type := ty, pos := pos, after := aft, guard := gd }).run Try.prog w = .ok (.value (mkWr (ev a) (ev b))) w := by
  obtain ⟨i, hi⟩ := ha
  obtain ⟨s, hs⟩ := hb
  have h1 := run_build_rwr w i s
  unfold execOp
  simp only [List.map_toArray, List.map_cons, List.map_nil, hi, hs, Sem.run_bind, h1, Result.andThen_ok, Sem.run_pure, mkWr_mk]
@[go_sem ↓] theorem ex_slice_rwr {a : Operand} (ha : IsWr (ev a)) : (execOp ev { dst := dst, op := .buildSlice 106 1 #[(0, a)], type := ty, pos := pos, after := aft, guard := gd }).run Try.prog w = .ok (.value (.slice (some ⟨w.heap.size, 0, none⟩) 1 1)) (w.alloc (.cells (cellsOf (ev a)).toArray 110)) := by
  obtain ⟨x, hx⟩ := ha
  have h1 := run_buildSlice_one (P := Try.prog) w 106 110 _ _ _ Try.underlying106 info_rwr (by simp [Wr.cells_length]) (by omega) (by omega) x.cells.toArray (by simp [Wr.cells_length])
  unfold execOp
  simp only [List.map_toArray, List.map_cons, List.map_nil, hx, Sem.run_bind, h1, Result.andThen_ok, Sem.run_pure, cellsOf_mk]
end

/-- the end of a function whose first result is such a variable and whose second is plain. -/
theorem ret_sec {fn : Func} {R : Ending → World → Prop} {a : Act} {w : World} {p u : Tmp} (hr : fn.results = #[.cell p 31, .tmp u]) (g : Nat) (s : Sec) (hp : a.tmps.getD p undef = .pointer (some ⟨g, 0, none⟩)) (hs : w.rangeAt g 0 s.cells) (hd : a.defers = [])
    (h : R (.returned (.tuple #[.agg s.cells.toArray, a.tmps.getD u undef])) w) : bodyPost Try.prog fn R .ret a w := by
  refine bodyPost_ret (v := .tuple #[.agg s.cells.toArray, a.tmps.getD u undef]) ?_ hd h
  have h1 := run_loadVar_mid (P := Try.prog) w g 0 31 s.cells _ hs Try.underlying31 rfl (by rw [size_sec, s.cells_length])
  rw [results_cell_tmp hr, hp]
  simp only [asAddr, Sem.run_pure, Result.andThen_ok, h1]
theorem ret1_sec {fn : Func} {R : Ending → World → Prop} {a : Act} {w : World} {p : Tmp} (hr : fn.results = #[.cell p 31]) (g : Nat) (s : Sec) (hp : a.tmps.getD p undef = .pointer (some ⟨g, 0, none⟩)) (hs : w.rangeAt g 0 s.cells) (hd : a.defers = [])
    (h : R (.returned (.agg s.cells.toArray)) w) : bodyPost Try.prog fn R .ret a w := by
  refine bodyPost_ret (v := .agg s.cells.toArray) ?_ hd h
  have h1 := run_loadVar_mid (P := Try.prog) w g 0 31 s.cells _ hs Try.underlying31 rfl (by rw [size_sec, s.cells_length])
  have hp' : a.tmps[p]?.getD undef = .pointer (some ⟨g, 0, none⟩) := by simpa using hp
  simp [results, hr, hp', asAddr, h1]

/-- the end of a function whose first result is such a variable and whose second is plain. -/
theorem ret_rsec {fn : Func} {R : Ending → World → Prop} {a : Act} {w : World} {p u : Tmp} (hr : fn.results = #[.cell p 62, .tmp u]) (g : Nat) (s : Sec) (hp : a.tmps.getD p undef = .pointer (some ⟨g, 0, none⟩)) (hs : w.rangeAt g 0 s.cells) (hd : a.defers = [])
    (h : R (.returned (.tuple #[.agg s.cells.toArray, a.tmps.getD u undef])) w) : bodyPost Try.prog fn R .ret a w := by
  refine bodyPost_ret (v := .tuple #[.agg s.cells.toArray, a.tmps.getD u undef]) ?_ hd h
  have h1 := run_loadVar_mid (P := Try.prog) w g 0 62 s.cells _ hs Try.underlying62 rfl (by rw [size_rsec, s.cells_length])
  rw [results_cell_tmp hr, hp]
  simp only [asAddr, Sem.run_pure, Result.andThen_ok, h1]
theorem ret1_rsec {fn : Func} {R : Ending → World → Prop} {a : Act} {w : World} {p : Tmp} (hr : fn.results = #[.cell p 62]) (g : Nat) (s : Sec) (hp : a.tmps.getD p undef = .pointer (some ⟨g, 0, none⟩)) (hs : w.rangeAt g 0 s.cells) (hd : a.defers = [])
    (h : R (.returned (.agg s.cells.toArray)) w) : bodyPost Try.prog fn R .ret a w := by
  refine bodyPost_ret (v := .agg s.cells.toArray) ?_ hd h
  have h1 := run_loadVar_mid (P := Try.prog) w g 0 62 s.cells _ hs Try.underlying62 rfl (by rw [size_rsec, s.cells_length])
  have hp' : a.tmps[p]?.getD undef = .pointer (some ⟨g, 0, none⟩) := by simpa using hp
  simp [results, hr, hp', asAddr, h1]

/-- the end of a function whose first result is such a variable and whose second is plain. -/
theorem ret_arr {fn : Func} {R : Ending → World → Prop} {a : Act} {w : World} {p u : Tmp} (hr : fn.results = #[.cell p 30, .tmp u]) (g : Nat) (s : Sec) (hp : a.tmps.getD p undef = .pointer (some ⟨g, 0, none⟩)) (hs : w.rangeAt g 0 s.cells) (hd : a.defers = [])
    (h : R (.returned (.tuple #[.agg s.cells.toArray, a.tmps.getD u undef])) w) : bodyPost Try.prog fn R .ret a w := by
  refine bodyPost_ret (v := .tuple #[.agg s.cells.toArray, a.tmps.getD u undef]) ?_ hd h
  have h1 := run_loadVar_mid (P := Try.prog) w g 0 30 s.cells _ hs Try.underlying30 rfl (by rw [size_arr, s.cells_length])
  rw [results_cell_tmp hr, hp]
  simp only [asAddr, Sem.run_pure, Result.andThen_ok, h1]
theorem ret1_arr {fn : Func} {R : Ending → World → Prop} {a : Act} {w : World} {p : Tmp} (hr : fn.results = #[.cell p 30]) (g : Nat) (s : Sec) (hp : a.tmps.getD p undef = .pointer (some ⟨g, 0, none⟩)) (hs : w.rangeAt g 0 s.cells) (hd : a.defers = [])
    (h : R (.returned (.agg s.cells.toArray)) w) : bodyPost Try.prog fn R .ret a w := by
  refine bodyPost_ret (v := .agg s.cells.toArray) ?_ hd h
  have h1 := run_loadVar_mid (P := Try.prog) w g 0 30 s.cells _ hs Try.underlying30 rfl (by rw [size_arr, s.cells_length])
  have hp' : a.tmps[p]?.getD undef = .pointer (some ⟨g, 0, none⟩) := by simpa using hp
  simp [results, hr, hp', asAddr, h1]

/-! in a fence, in a round -/
section
variable {ev : Operand → Value} {dst : Option Tmp} {ty : TypeId} {pos : String} {aft : Array Edge} {gd : Option (Nat × Bool)} {w : World} {P : Program} {ro : Option Nat}
@[go_sem ↓] theorem semAt_load {t : TypeId} {x : Operand} : (Oper.semAt ro ev { dst := dst, op := .load t x, type := ty, pos := pos, after := aft, guard := gd }).run P w = (execOp ev { dst := dst, op := .load t x, type := ty, pos := pos, after := aft, guard := gd }).run P w := by rw [Oper.semAt_eq _ _ _ (by intro c h; cases h)]
@[go_sem ↓] theorem semAt_store {t : TypeId} {x y : Operand} : (Oper.semAt ro ev { dst := dst, op := .store t x y, type := ty, pos := pos, after := aft, guard := gd }).run P w = (execOp ev { dst := dst, op := .store t x y, type := ty, pos := pos, after := aft, guard := gd }).run P w := by rw [Oper.semAt_eq _ _ _ (by intro c h; cases h)]
@[go_sem ↓] theorem semAt_alloc {t : TypeId} : (Oper.semAt ro ev { dst := dst, op := .alloc t, type := ty, pos := pos, after := aft, guard := gd }).run P w = (execOp ev { dst := dst, op := .alloc t, type := ty, pos := pos, after := aft, guard := gd }).run P w := by rw [Oper.semAt_eq _ _ _ (by intro c h; cases h)]
@[go_sem ↓] theorem semAt_build {t : TypeId} {xs : Array (Nat × Operand)} : (Oper.semAt ro ev { dst := dst, op := .build t xs, type := ty, pos := pos, after := aft, guard := gd }).run P w = (execOp ev { dst := dst, op := .build t xs, type := ty, pos := pos, after := aft, guard := gd }).run P w := by rw [Oper.semAt_eq _ _ _ (by intro c h; cases h)]
@[go_sem ↓] theorem semAt_slice {t : TypeId} {n : Nat} {xs : Array (Nat × Operand)} : (Oper.semAt ro ev { dst := dst, op := .buildSlice t n xs, type := ty, pos := pos, after := aft, guard := gd }).run P w = (execOp ev { dst := dst, op := .buildSlice t n xs, type := ty, pos := pos, after := aft, guard := gd }).run P w := by rw [Oper.semAt_eq _ _ _ (by intro c h; cases h)]
end

end Go.Proofs.Ytecjhaohabjkbaa
