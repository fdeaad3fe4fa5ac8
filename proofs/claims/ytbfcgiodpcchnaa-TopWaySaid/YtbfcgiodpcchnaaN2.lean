/-
  CONTRACTS: package fault: known, entries, Name, Type, Parse (printed by gen_n2.py: the names' bytes are written out).
-/
import Derived.Test.YtbfcgiodpcchnaaN1
import Derived.Test.YtbfcgiodpcchnaaLong
import Derived.Test.YtbfcgiodpcchnaaSec
import Derived.Laws.ResultCell
import Derived.AtR
namespace Go.Proofs.Ytbfcgiodpcchnaa
open Go.RowKit
set_option linter.unusedVariables false

theorem known_calls (c : Nat) (w : World) (h1 : 1 ≤ c) (h2 : c ≤ 10) : Calls Try.prog 15 #[.int .i64 c] w fun e w' => e = .returned (.bool true) ∧ w = w' := by
  have b1 : (0 : Int) < (c : Int) := by omega
  have b2 : (c : Int) ≤ 10 := by omega
  clear h1 h2
  go_enter Try.func15, Try.ntmps15
  go_wp2_with fail
  go_ret
  exact ⟨by simp, rfl⟩

/-- the conditions' names and types. -/
def condL : List (ByteArray × ByteArray) := [(⟨#[]⟩, ⟨#[]⟩), (⟨#[98, 97, 100, 45, 114, 101, 113, 117, 101, 115, 116]⟩, ⟨#[109, 111, 100, 105, 102, 121]⟩), (⟨#[99, 111, 110, 102, 108, 105, 99, 116]⟩, ⟨#[99, 97, 110, 99, 101, 108]⟩), (⟨#[102, 111, 114, 98, 105, 100, 100, 101, 110]⟩, ⟨#[97, 117, 116, 104]⟩), (⟨#[105, 116, 101, 109, 45, 110, 111, 116, 45, 102, 111, 117, 110, 100]⟩, ⟨#[99, 97, 110, 99, 101, 108]⟩), (⟨#[106, 105, 100, 45, 109, 97, 108, 102, 111, 114, 109, 101, 100]⟩, ⟨#[109, 111, 100, 105, 102, 121]⟩), (⟨#[110, 111, 116, 45, 97, 108, 108, 111, 119, 101, 100]⟩, ⟨#[99, 97, 110, 99, 101, 108]⟩), (⟨#[110, 111, 116, 45, 97, 117, 116, 104, 111, 114, 105, 122, 101, 100]⟩, ⟨#[97, 117, 116, 104]⟩), (⟨#[114, 101, 115, 111, 117, 114, 99, 101, 45, 99, 111, 110, 115, 116, 114, 97, 105, 110, 116]⟩, ⟨#[119, 97, 105, 116]⟩), (⟨#[115, 101, 114, 118, 105, 99, 101, 45, 117, 110, 97, 118, 97, 105, 108, 97, 98, 108, 101]⟩, ⟨#[99, 97, 110, 99, 101, 108]⟩), (⟨#[117, 110, 101, 120, 112, 101, 99, 116, 101, 100, 45, 114, 101, 113, 117, 101, 115, 116]⟩, ⟨#[119, 97, 105, 116]⟩)]
def condName (c : Nat) : ByteArray := (condL.getD c (⟨#[]⟩, ⟨#[]⟩)).1
def condType (c : Nat) : ByteArray := (condL.getD c (⟨#[]⟩, ⟨#[]⟩)).2
def entZ : List Value := List.replicate 22 (.string ⟨#[]⟩)
def entV : List Value := condL.flatMap fun p => [.string p.1, .string p.2]
theorem entZ_length : entZ.length = 22 := by simp [entZ]
theorem entV_length : entV.length = 22 := rfl
theorem entV_one : ∀ u ∈ entV, u.oneCell' = true := by decide
def IsEnts (v : Value) : Prop := v = .agg entV.toArray
@[go_sem] theorem isEnts_mk : IsEnts (.agg entV.toArray) = True := eq_true rfl
def entsCells (v : Value) : List Value := match v with | .agg cs => cs.toList | _ => []
@[go_sem] theorem entsCells_mk (l : List Value) : entsCells (.agg l.toArray) = l := rfl
def entAt (v : Value) : Value := match v with | .int .i64 k => .agg #[.string (condName k.toNat), .string (condType k.toNat)] | _ => undef
@[go_sem] theorem entAt_mk (k : Nat) : entAt (.int .i64 (k : Int)) = .agg #[.string (condName k), .string (condType k)] := rfl
def IsEntIx (v : Value) : Prop := ∃ k : Nat, k < 11 ∧ v = .int .i64 k
section
variable {ev : Operand → Value} {dst : Option Tmp} {ty : TypeId} {pos : String} {aft : Array Edge} {gd : Option (Nat × Bool)} {w : World}
theorem info_ents : (Try.prog.info? 46).map (fun i => (i.zero, i.size, i.bytes)) = some (some (.agg entZ.toArray), 22, 352) := by kernel_rfl
theorem size_ents : (Try.prog.info? 46).map (·.size) = some 22 := by kernel_rfl
@[go_sem ↓] theorem ex_alloc_ents : (execOp ev { dst := dst, op := .alloc 46, type := ty, pos := pos, after := aft, guard := gd }).run Try.prog w = .ok (.value (.pointer (some ⟨w.heap.size, 0, none⟩))) (w.alloc (.cells entZ.toArray 46)) := by
  have h1 := run_alloc_row (P := Try.prog) w 46 _ _ _ info_ents true (.tuple #[]) rfl
  unfold execOp
  simp only [Sem.run_bind, h1, Result.andThen_ok, Sem.run_pure]
theorem run_build_ents (w : World) : (Instr.build 46 #[(1, Value.agg #[.string ⟨#[98, 97, 100, 45, 114, 101, 113, 117, 101, 115, 116]⟩, .string ⟨#[109, 111, 100, 105, 102, 121]⟩]), (2, Value.agg #[.string ⟨#[99, 111, 110, 102, 108, 105, 99, 116]⟩, .string ⟨#[99, 97, 110, 99, 101, 108]⟩]), (3, Value.agg #[.string ⟨#[102, 111, 114, 98, 105, 100, 100, 101, 110]⟩, .string ⟨#[97, 117, 116, 104]⟩]), (4, Value.agg #[.string ⟨#[105, 116, 101, 109, 45, 110, 111, 116, 45, 102, 111, 117, 110, 100]⟩, .string ⟨#[99, 97, 110, 99, 101, 108]⟩]), (5, Value.agg #[.string ⟨#[106, 105, 100, 45, 109, 97, 108, 102, 111, 114, 109, 101, 100]⟩, .string ⟨#[109, 111, 100, 105, 102, 121]⟩]), (6, Value.agg #[.string ⟨#[110, 111, 116, 45, 97, 108, 108, 111, 119, 101, 100]⟩, .string ⟨#[99, 97, 110, 99, 101, 108]⟩]), (7, Value.agg #[.string ⟨#[110, 111, 116, 45, 97, 117, 116, 104, 111, 114, 105, 122, 101, 100]⟩, .string ⟨#[97, 117, 116, 104]⟩]), (8, Value.agg #[.string ⟨#[114, 101, 115, 111, 117, 114, 99, 101, 45, 99, 111, 110, 115, 116, 114, 97, 105, 110, 116]⟩, .string ⟨#[119, 97, 105, 116]⟩]), (9, Value.agg #[.string ⟨#[115, 101, 114, 118, 105, 99, 101, 45, 117, 110, 97, 118, 97, 105, 108, 97, 98, 108, 101]⟩, .string ⟨#[99, 97, 110, 99, 101, 108]⟩]), (10, Value.agg #[.string ⟨#[117, 110, 101, 120, 112, 101, 99, 116, 101, 100, 45, 114, 101, 113, 117, 101, 115, 116]⟩, .string ⟨#[119, 97, 105, 116]⟩])]).run Try.prog w = .ok (.agg entV.toArray) w := by kernel_rfl
@[go_sem ↓] theorem ex_build_ents {x1 x2 x3 x4 x5 x6 x7 x8 x9 x10 : Operand} (h1 : ev x1 = Value.agg #[.string ⟨#[98, 97, 100, 45, 114, 101, 113, 117, 101, 115, 116]⟩, .string ⟨#[109, 111, 100, 105, 102, 121]⟩]) (h2 : ev x2 = Value.agg #[.string ⟨#[99, 111, 110, 102, 108, 105, 99, 116]⟩, .string ⟨#[99, 97, 110, 99, 101, 108]⟩]) (h3 : ev x3 = Value.agg #[.string ⟨#[102, 111, 114, 98, 105, 100, 100, 101, 110]⟩, .string ⟨#[97, 117, 116, 104]⟩]) (h4 : ev x4 = Value.agg #[.string ⟨#[105, 116, 101, 109, 45, 110, 111, 116, 45, 102, 111, 117, 110, 100]⟩, .string ⟨#[99, 97, 110, 99, 101, 108]⟩]) (h5 : ev x5 = Value.agg #[.string ⟨#[106, 105, 100, 45, 109, 97, 108, 102, 111, 114, 109, 101, 100]⟩, .string ⟨#[109, 111, 100, 105, 102, 121]⟩]) (h6 : ev x6 = Value.agg #[.string ⟨#[110, 111, 116, 45, 97, 108, 108, 111, 119, 101, 100]⟩, .string ⟨#[99, 97, 110, 99, 101, 108]⟩]) (h7 : ev x7 = Value.agg #[.string ⟨#[110, 111, 116, 45, 97, 117, 116, 104, 111, 114, 105, 122, 101, 100]⟩, .string ⟨#[97, 117, 116, 104]⟩]) (h8 : ev x8 = Value.agg #[.string ⟨#[114, 101, 115, 111, 117, 114, 99, 101, 45, 99, 111, 110, 115, 116, 114, 97, 105, 110, 116]⟩, .string ⟨#[119, 97, 105, 116]⟩]) (h9 : ev x9 = Value.agg #[.string ⟨#[115, 101, 114, 118, 105, 99, 101, 45, 117, 110, 97, 118, 97, 105, 108, 97, 98, 108, 101]⟩, .string ⟨#[99, 97, 110, 99, 101, 108]⟩]) (h10 : ev x10 = Value.agg #[.string ⟨#[117, 110, 101, 120, 112, 101, 99, 116, 101, 100, 45, 114, 101, 113, 117, 101, 115, 116]⟩, .string ⟨#[119, 97, 105, 116]⟩]) : (execOp ev { dst := dst, op := .build 46 #[(1, x1), (2, x2), (3, x3), (4, x4), (5, x5), (6, x6), (7, x7), (8, x8), (9, x9), (10, x10)], type := ty, pos := pos, after := aft, guard := gd }).run Try.prog w = .ok (.value (.agg entV.toArray)) w := by
  unfold execOp
  simp only [List.map_toArray, List.map_cons, List.map_nil, h1, h2, h3, h4, h5, h6, h7, h8, h9, h10, Sem.run_bind, run_build_ents, Result.andThen_ok, Sem.run_pure]
@[go_sem ↓] theorem ex_store_ents {x y : Operand} (h : MayRow w (ev x) 22) (hv : IsEnts (ev y)) : (execOp ev { dst := dst, op := .store 46 x y, type := ty, pos := pos, after := aft, guard := gd }).run Try.prog w = .ok .skip (putRow w (ev x) (entsCells (ev y))) := by
  have hs : ev y = .agg entV.toArray := hv
  have h1 := run_store_row (P := Try.prog) 46 22 size_ents (ev x) entV h entV_length entV_one
  unfold execOp
  simp only [hs, Sem.run_bind, h1, Result.andThen_ok, Sem.run_pure, entsCells_mk]
theorem run_index_ents (w : World) : ∀ k : Nat, k < 11 → (Instr.index 46 (.agg entV.toArray) (.int .i64 (k : Int))).run Try.prog w = .ok (.agg #[.string (condName k), .string (condType k)]) w := by
  intro k hk
  rcases (show k = 0 ∨ k = 1 ∨ k = 2 ∨ k = 3 ∨ k = 4 ∨ k = 5 ∨ k = 6 ∨ k = 7 ∨ k = 8 ∨ k = 9 ∨ k = 10 by omega) with rfl | rfl | rfl | rfl | rfl | rfl | rfl | rfl | rfl | rfl | rfl <;> kernel_rfl
@[go_sem ↓] theorem ex_index_ents {x y : Operand} (hx : IsEnts (ev x)) (hy : IsEntIx (ev y)) : (execOp ev { dst := dst, op := .index 46 x y, type := ty, pos := pos, after := aft, guard := gd }).run Try.prog w = .ok (.value (entAt (ev y))) w := by
  obtain ⟨k, hk, hy⟩ := hy
  have hs : ev x = .agg entV.toArray := hx
  have h1 := run_index_ents w k hk
  unfold execOp
  simp only [hs, hy, Sem.run_bind, h1, Result.andThen_ok, Sem.run_pure, entAt_mk]
end
theorem isEntIx_of {k : Nat} (h : k < 11) : IsEntIx (.int .i64 (k : Int)) := ⟨k, h, rfl⟩
/-- the end of a function whose result is such a variable. -/
theorem ret_ents {fn : Func} {R : Ending → World → Prop} {a : Act} {w : World} {p : Tmp} (hr : fn.results = #[.cell p 46]) (g : Nat) (hp : a.tmps.getD p undef = .pointer (some ⟨g, 0, none⟩)) (hs : w.rangeAt g 0 entV) (hd : a.defers = [])
    (h : R (.returned (.agg entV.toArray)) w) : bodyPost Try.prog fn R .ret a w := by
  refine bodyPost_ret (v := .agg entV.toArray) ?_ hd h
  have h1 := run_loadVar_mid (P := Try.prog) w g 0 46 entV _ hs Try.underlying46 rfl (by rw [size_ents, entV_length])
  have hp' : a.tmps[p]?.getD undef = .pointer (some ⟨g, 0, none⟩) := by simpa using hp
  simp [results, hr, hp', asAddr, h1]

set_option maxHeartbeats 800000 in
theorem entries_calls (w : World) : Calls Try.prog 16 #[] w fun e w' => e = .returned (.agg entV.toArray) ∧ Keeps w w' [] := by
  have hb := Blk.new w 46 entZ.toArray
  have hm : MayRow (w.alloc (.cells entZ.toArray 46)) (.pointer (some ⟨w.heap.size, 0, none⟩)) 22 := may_of_there (hb.there_ 0 22 (by simp [entZ_length]))
  have hk := (((Keeps.refl w []).alloc (.cells entZ.toArray 46)).setCells (b := w.heap.size) (.inr (Nat.le_refl _)) 0 entV)
  have HK := Lib.hid hk
  have HM := Lib.hid hm
  clear hb hk
  go_enter Try.func16, Try.ntmps16
  go_wp2_with fail
  refine ret_ents rfl w.heap.size rfl ?_ rfl ⟨rfl, HK.out⟩
  exact World.rangeAt_setCells_same _ _ _ _ (by rw [entV_length]; exact HM.out.2)
theorem ent_field0 (w : World) (a b : ByteArray) : (Instr.field 45 (.agg #[.string a, .string b]) 0).run Try.prog w = .ok (.string a) w := by kernel_rfl
theorem ent_field1 (w : World) (a b : ByteArray) : (Instr.field 45 (.agg #[.string a, .string b]) 1).run Try.prog w = .ok (.string b) w := by kernel_rfl
theorem fname_calls (c : Nat) (w : World) (h1 : 1 ≤ c) (h2 : c ≤ 10) : Calls Try.prog 5 #[.int .i64 c] w fun e w' => e = .returned (.string (condName c)) ∧ Keeps w w' [] := by
  have H := Lib.hid (And.intro (known_calls c w h1 h2) (entries_calls w))
  have hx : IsEntIx (.int .i64 (c : Int)) := isEntIx_of (by omega)
  have hf0 := ent_field0
  have hf1 := ent_field1
  clear h1 h2
  go_enter Try.func5, Try.ntmps5
  go_wp2_with fail
  refine H.out.1.mono ?_
  rintro e w1 ⟨rfl, rfl⟩
  go_wp2_with fail
  refine H.out.2.mono ?_
  rintro e w1 ⟨rfl, hk⟩
  have HK := Lib.hid hk
  clear hk
  go_wp2_with fail
  go_ret
  exact ⟨rfl, HK.out⟩
theorem ftype_calls (c : Nat) (w : World) (h1 : 1 ≤ c) (h2 : c ≤ 10) : Calls Try.prog 9 #[.int .i64 c] w fun e w' => e = .returned (.string (condType c)) ∧ Keeps w w' [] := by
  have H := Lib.hid (And.intro (known_calls c w h1 h2) (entries_calls w))
  have hx : IsEntIx (.int .i64 (c : Int)) := isEntIx_of (by omega)
  have hf0 := ent_field0
  have hf1 := ent_field1
  clear h1 h2
  go_enter Try.func9, Try.ntmps9
  go_wp2_with fail
  refine H.out.1.mono ?_
  rintro e w1 ⟨rfl, rfl⟩
  go_wp2_with fail
  refine H.out.2.mono ?_
  rintro e w1 ⟨rfl, hk⟩
  have HK := Lib.hid hk
  clear hk
  go_wp2_with fail
  go_ret
  exact ⟨rfl, HK.out⟩

theorem condName_ne : ∀ c, c ≤ 10 → ∀ k, k < c → (condName k).data.toList ≠ (condName c).data.toList := by decide
theorem condName_beq (c k : Nat) (hc : c ≤ 10) (hk : k < c) : ((condName k).toList == (condName c).toList) = false := by
  rw [ByteArray.toList_eq, ByteArray.toList_eq]
  simpa using condName_ne c hc k hk

set_option maxHeartbeats 1600000 in
theorem fparse_calls (c : Nat) (w : World) (h1 : 1 ≤ c) (h2 : c ≤ 10) : Calls Try.prog 6 #[.string (condName c)] w fun e w' => e = .returned (.tuple #[.int .i64 c, .bool true]) ∧ Keeps w w' [] := by
  have H := Lib.hid (And.intro (known_calls c · h1 h2) (And.intro (entries_calls w) (And.intro h1 h2)))
  obtain ⟨s, hs⟩ : ∃ s, s = condName c := ⟨_, rfl⟩
  rw [← hs]
  have HS := Lib.hid hs
  have hc11 : (c : Int) < 11 := by omega
  clear h1 h2 hs
  go_enter Try.func6, Try.ntmps6
  go_wp2_with fail
  refine H.out.2.1.mono ?_
  rintro e w1 ⟨rfl, hk1⟩
  have HK1 := Lib.hid hk1
  clear hk1
  go_wp2_with fail
  go_loopw [7] (fun i wr => ∃ k : Nat, k ≤ c ∧ i = .int .i64 k ∧ Keeps w wr []) (fun i _ => c + 1 - (intOf i).toNat)
  case atStart => exact ⟨0, by omega, rfl, HK1.out⟩
  case round =>
    obtain ⟨k, hk, rfl, hK⟩ := hrel
    have HK := Lib.hid hK
    have hkx : IsEntIx (.int .i64 (k : Int)) := isEntIx_of (by omega)
    have hk11 : (k : Int) < 11 := by omega
    by_cases hlt : k < c
    · have hne := condName_beq c k H.out.2.2.2 hlt
      rw [← HS.out] at hne
      have hkk := Lib.hid (And.intro hk hlt)
      clear hK hk hlt
      go_wp2_with fail
      go_roundw
      case rel =>
        have := hkk.out.2
        exact ⟨k + 1, by omega, by go_num, HK.out.alloc _⟩
      case measure => have := hkk.out.2; simp [intOf]; omega
    · obtain rfl : k = c := by omega
      have hss : condName k = s := HS.out.symm
      clear hK hk hlt
      go_wp2_with fail
      refine (H.out.1 _).mono ?_
      rintro e w4 ⟨rfl, rfl⟩
      go_wp2_with fail
      go_ret2
      exact ⟨rfl, HK.out.alloc _⟩

end Go.Proofs.Ytbfcgiodpcchnaa
