/-
  CONTRACTS: those's closure, an iterator: which writes survive.
-/
import Derived.RangeFuncNested
import Derived.RangeFuncBound
import Derived.RangeFuncCalls
import Derived.RangeFuncLeaves
import Derived.RangeFuncFrom
import Derived.Shelf.Abstract
import Derived.WalkKit
import Derived.OwnWalkIn
import Derived.TacticsInMore
import Derived.LoopNIn
import Derived.LoopIn
import Derived.Test.YtecjhaohabjkbaaD2
namespace Go.Proofs.Ytecjhaohabjkbaa
open Go.RowKit
set_option linter.unusedVariables false
attribute [local go_sem] Oper.semAt_some

/-- whatever lay below n lies as it lay, but for the blocks fp. -/
structure Low (n : Nat) (fp : List Nat) (w w' : World) : Prop where
  os : w'.os = w.os
  tape : w'.tape = w.tape
  output : w'.output = w.output
  size : w.heap.size ≤ w'.heap.size
  block : ∀ k, k < n → k ∉ fp → w'.heap[k]? = w.heap[k]?
theorem Low.refl (n : Nat) (fp : List Nat) (w : World) : Low n fp w w := ⟨rfl, rfl, rfl, Nat.le_refl _, fun _ _ _ => rfl⟩
theorem Low.trans {n : Nat} {fp : List Nat} {a b c : World} (h : Low n fp a b) (k : Low n fp b c) : Low n fp a c :=
  ⟨k.os.trans h.os, k.tape.trans h.tape, k.output.trans h.output, Nat.le_trans h.size k.size, fun i hi hn => (k.block i hi hn).trans (h.block i hi hn)⟩
theorem Low.putObj {n : Nat} {fp : List Nat} (W : World) (l : Nat) (o o' : Obj) (hl : n ≤ l) (h : W.heap[l]? = some o) : Low n fp W (W.putObj l o') := by
  have hg := grownBy_putObj' W l o'
  refine ⟨hg.os, hg.tape, hg.output, hg.size, fun k hk _ => World.putObj_heap_other (by omega)⟩
theorem Low.ofKeeps {n : Nat} {fp : List Nat} {w w' : World} (h : Keeps w w' fp) (hn : n ≤ w.heap.size) : Low n fp w w' := ⟨h.os, h.tape, h.output, h.size, fun k hk hf => h.block k (by omega) hf⟩
theorem Low.blk {n : Nat} {fp : List Nat} {w w' : World} (h : Low n fp w w') {g : Nat} {t : TypeId} {cs : Array Value} (hb : Blk w g t cs) (hg : g < n) (hn : g ∉ fp) : Blk w' g t cs := hb.to (h.block g hg hn)
theorem Low.own {n : Nat} {fp : List Nat} {w w' : World} (h : Low n fp w w') {e : TypeId} {size m : Nat} {v : Value} {xs : List Value} {f : List Nat} (hb : Own w e size v m xs f) (hg : ∀ k ∈ f, k < n) (hn : ∀ k ∈ f, k ∉ fp) : Own w' e size v m xs f := hb.to fun k hk => h.block k (hg k hk) (hn k hk)

/-- the writes that survive among the first k. -/
def survTo (loose : List Wr) (sv : List Bool) (k : Nat) : List Wr := (((loose.zip sv).take k).filter (·.2)).map (·.1)
def surv (loose : List Wr) (sv : List Bool) : List Wr := ((loose.zip sv).filter (·.2)).map (·.1)
theorem survTo_zero (loose : List Wr) (sv : List Bool) : survTo loose sv 0 = [] := rfl
theorem survTo_all (loose : List Wr) (sv : List Bool) : survTo loose sv (min sv.length loose.length) = surv loose sv := by
  unfold survTo surv
  rw [List.take_of_length_le (by simp; omega)]
theorem survTo_succ (loose : List Wr) (sv : List Bool) (k : Nat) (x : Wr) (s : Bool) (hx : loose[k]? = some x) (hs : sv[k]? = some s) : survTo loose sv (k + 1) = survTo loose sv k ++ (if s then [x] else []) := by
  unfold survTo
  have : (loose.zip sv)[k]? = some (x, s) := by rw [List.getElem?_zip_eq_some]; exact ⟨hx, hs⟩
  rw [List.take_add_one, this, List.filter_append, List.map_append]
  cases s <;> simp
theorem survTo_length (loose : List Wr) (sv : List Bool) (k : Nat) : (survTo loose sv k).length ≤ k := by
  unfold survTo
  rw [List.length_map]
  exact Nat.le_trans (List.length_filter_le _ _) (by simp; omega)

def bools (l : List Bool) : List Value := l.map Value.bool

set_option maxRecDepth 100000 in
set_option maxHeartbeats 2000000 in set_option maxRecDepth 100000 in
theorem those1_in (l bd bs b : Nat) (vL vN : Value) (A S : Option Addr) (cA cS : Nat) (loose : List Wr) (sv : List Bool) (fL fW fS : List Nat) (n₀ : Nat) (hlen : loose.length ≤ 100000) (hsl : sv.length ≤ maxLen)
    (J Jx : List Wr → World → Prop) (W : World)
    (hY : ∀ pre x W1, x ∈ loose → J pre W1 → pre.length < loose.length → YieldAt Fence.wide 2 Try.prog l #[.agg x.cells.toArray] W1 fun e W' =>
      (e = .returned (.bool true) ∧ J (pre ++ [x]) W' ∧ Low n₀ fL W1 W') ∨ (e = .returned (.bool false) ∧ Jx (pre ++ [x]) W'))
    (hJ : AbidesFrom W.heap.size J)
    (hbd : Blk W bd 25 #[.pointer (some ⟨b, 0, none⟩)]) (hbs : Blk W bs 48 #[.slice S sv.length cS]) (hb : Blk W b 91 #[vL, vN, .slice A loose.length cA])
    (hW : Own W 96 65 (.slice A loose.length cA) loose.length (wrs loose) fW) (hS : Reads W 1 S sv.length (bools sv) fS)
    (hl : bd < n₀ ∧ bs < n₀ ∧ b < n₀ ∧ (∀ k ∈ fW, k < n₀) ∧ ∀ k ∈ fS, k < n₀) (hd : bd ∉ fL ∧ bs ∉ fL ∧ b ∉ fL ∧ (∀ k ∈ fW, k ∉ fL) ∧ ∀ k ∈ fS, k ∉ fL) (hn : n₀ ≤ W.heap.size) (h0 : J [] W) :
    CallsIn Fence.wide 3 Try.prog 83 #[.func (.yield l) #[] #[], .pointer (some ⟨bd, 0, none⟩), .pointer (some ⟨bs, 0, none⟩)] W fun e W' => (∃ v, e = .returned v) ∧
      ((∃ ys, ys = surv loose sv ∧ J ys W') ∨ (∃ pre, Jx pre W')) := by
  have d0 := hbd.cell 0
  have d1 := hbs.cell 0
  have d2 := hb.cell 2
  simp at d0 d1 d2
  obtain ⟨m, hml, hms, hall, hif⟩ : ∃ m : Nat, m ≤ loose.length ∧ m ≤ sv.length ∧ survTo loose sv m = surv loose sv ∧ (if loose.length < sv.length then (loose.length : Int) else (sv.length : Int)) = (m : Int) :=
    ⟨min sv.length loose.length, by omega, by omega, survTo_all _ _, by split <;> omega⟩
  have hcA : loose.length ≤ cA := by
    obtain ⟨A', c', h, h2, -⟩ := hW.form
    simp only [Value.slice.injEq] at h
    omega
  have g1 : (0 : Int) ≤ (m : Int) := by omega
  have g2 : (m : Int) ≤ (cA : Int) := by omega
  refine callsIn_of_wp Try.func83 rfl trivial ?_ rfl
  simp only [Try.ntmps83, List.size_toArray, List.length_cons, List.length_nil, Nat.reduceAdd, Nat.reduceSub, Array.replicate_succ, Array.replicate_zero, List.push_toArray, List.append_toArray, List.nil_append, List.cons_append]
  gi_wp2
  refine wpIn_wide.2 ?_
  go_quiet (fail)
  have H := Lib.hid (And.intro hbd (And.intro hbs (And.intro hb (And.intro hW (And.intro hS (And.intro hl (And.intro hd (And.intro hJ (And.intro hY hall)))))))))
  have h0' : J [] (W.drewN nq) := hJ [] W _ none h0 ⟨rfl, rfl, rfl, Nat.le_refl _, fun _ _ _ => rfl⟩ (fun r e => by cases e)
  clear hbd hbs hb hW hS hl hd hJ hY hall d0 d1 d2 hif h0
  gi_wp2
  gi_loopw [20] (fun i wr => ∃ k : Nat, k ≤ m ∧ i = .int .i64 k ∧ J (survTo loose sv k) wr ∧ Low n₀ fL W wr) (fun i _ => m - (intOf i).toNat)
  case atStart => exact ⟨0, Nat.zero_le _, rfl, h0', ⟨rfl, rfl, rfl, Nat.le_refl _, fun _ _ _ => rfl⟩⟩
  case round =>
    obtain ⟨k, hk, rfl, hJs, hnx⟩ := hrel
    by_cases hlt : k < m
    · have hx : loose[k]? = some loose[k] := List.getElem?_eq_getElem (by omega)
      have hs : sv[k]? = some sv[k] := List.getElem?_eq_getElem (by omega)
      obtain ⟨x, hx'⟩ : ∃ x, loose[k]? = some x := ⟨_, hx⟩
      obtain ⟨s, hs'⟩ : ∃ s, sv[k]? = some s := ⟨_, hs⟩
      have hWr := hnx.own H.out.2.2.2.1 H.out.2.2.2.2.2.1.2.2.2.1 H.out.2.2.2.2.2.2.1.2.2.2.1
      obtain ⟨g, c, hA, hfW, hc, hr, ht⟩ := hWr.range Wr.cells 65 Wr.cells_length hx'
      simp only [Value.slice.injEq] at hA
      obtain ⟨rfl, -, rfl⟩ := hA
      have hbs1 := hnx.blk H.out.2.1 H.out.2.2.2.2.2.1.2.1 H.out.2.2.2.2.2.2.1.2.1
      have hS1 : Reads wr 1 S sv.length (bools sv) fS := H.out.2.2.2.2.1.to hnx.size fun i hi => hnx.block i (H.out.2.2.2.2.2.1.2.2.2.2 i hi) (H.out.2.2.2.2.2.2.1.2.2.2.2 i hi)
      obtain ⟨q, o, u, rfl, hq1, hq2, hq3, hqv⟩ := hS1.cellAt (k := k) (by omega)
      obtain rfl : u = .bool s := by
        rw [bools, List.getElem?_map, hs'] at hq3
        simpa using hq3.symm
      obtain ⟨W2, hW2⟩ : ∃ W2, W2 = (wr.alloc (.cells Wr.zero.cells.toArray 96)).setCells wr.heap.size 0 x.cells := ⟨_, rfl⟩
      have hKW : Keeps wr W2 [] := by subst hW2; exact ((Keeps.refl wr []).alloc _).setCells (.inr (Nat.le_refl _)) _ _
      have hLW : Low n₀ fL wr W2 := Low.ofKeeps (hKW.mono (by simp)) (by have := hnx.size; omega)
      have hJ2 : J (survTo loose sv k) W2 := H.out.2.2.2.2.2.2.2.1 _ wr W2 none hJs ⟨hKW.os, hKW.tape, hKW.output, hKW.size, fun i hi _ => hKW.block i hi (by simp)⟩ (fun r e => by cases e)
      have hnz : Blk (wr.alloc (.cells Wr.zero.cells.toArray 96)) wr.heap.size 96 Wr.zero.cells.toArray := Blk.new _ _ _
      have hmay : MayRow (wr.alloc (.cells Wr.zero.cells.toArray 96)) (.pointer (some ⟨wr.heap.size, 0, none⟩)) 65 := may_of_there (hnz.there_ 0 65 (by simp [Wr.cells_length]))
      obtain ⟨hr1, hr2⟩ := row_of_range hr x.cells_length
      have hbox : W2.rangeAt wr.heap.size 0 x.cells := by subst hW2; exact World.rangeAt_setCells_same _ _ _ _ (by rw [x.cells_length]; exact hmay.2)
      obtain ⟨hr3, hr4⟩ := row_of_range hbox x.cells_length
      have e1 : W2.cell? ⟨bs, 0, none⟩ = some (.slice (some ⟨q, o, none⟩) sv.length cS) := (hbs1.keeps hKW (by simp)).cell 0
      have hqk : W2.cell? ⟨q, o + k, none⟩ = some (.bool s) := by
        have hqs : q ∈ fS := by rw [hq1]; simp
        have h9 : W2.heap[q]? = W.heap[q]? := (hLW.block q (H.out.2.2.2.2.2.1.2.2.2.2 q hqs) (H.out.2.2.2.2.2.2.1.2.2.2.2 q hqs)).trans (hnx.block q (H.out.2.2.2.2.2.1.2.2.2.2 q hqs) (H.out.2.2.2.2.2.2.1.2.2.2.2 q hqs))
        have h8 : wr.heap[q]? = W.heap[q]? := hnx.block q (H.out.2.2.2.2.2.1.2.2.2.2 q hqs) (H.out.2.2.2.2.2.2.1.2.2.2.2 q hqs)
        exact (World.cell?_of_block (w := wr) (w' := W2) (a := ⟨q, o + k, none⟩) (h9.trans h8.symm)).trans hqv
      have k1 : (0 : Int) ≤ (k : Int) := by omega
      have k2 : (k : Int) < (m : Int) := by omega
      have k3 : (k : Int) < (sv.length : Int) := by omega
      have HX := Lib.hid (And.intro hx' hs')
      have hRR := Lib.hid (And.intro hJ2 (And.intro hLW hnx))
      cases s with
      | true =>
        obtain ⟨fn, tmps, assign, body, hy, hR⟩   := H.out.2.2.2.2.2.2.2.2.1 _ x W2 (List.mem_of_getElem? hx') hJ2 (by have := survTo_length loose sv k; omega)
        have HR := Lib.hid hR
        rw [hW2] at hr3 hr4 e1 hqk hy
        clear hR hJ2 hLW hKW hnx hJs hbs1 hS1 hWr hx hs hx' hs' hbox hr ht hnz hq3
        gi_wp2
        rw [← hW2]
        refine HR.out.mono ?_
        rintro e W3 (⟨rfl, hJ3, hk3⟩ | ⟨rfl, hJx3⟩)
        · gi_wp2
          go_roundw
          case rel =>
            refine ⟨k + 1, by omega, by go_num, ?_, (hRR.out.2.2.trans hRR.out.2.1).trans hk3⟩
            rw [survTo_succ loose sv k x true HX.out.1 HX.out.2]
            exact hJ3
          case measure => simp [intOf]; omega
        · gi_wp2
          refine bodyPost_ret (results_none rfl _ _ _) rfl ?_
          exact ⟨⟨_, rfl⟩, .inr ⟨_, hJx3⟩⟩
      | false =>
        rw [hW2] at hr3 hr4 e1 hqk
        clear hJ2 hLW hKW hnx hJs hbs1 hS1 hWr hx hs hx' hs' hbox hr ht hnz hq3
        gi_wp2
        refine ⟨fun _ h => (by cases h), ?_⟩
        gi_wp2
        rw [← hW2]
        go_roundw
        case rel =>
          refine ⟨k + 1, by omega, by go_num, ?_, hRR.out.2.2.trans hRR.out.2.1⟩
          rw [survTo_succ loose sv k x false HX.out.1 HX.out.2]
          simpa using hRR.out.1
        case measure => simp [intOf]; omega
    · obtain rfl : k = m := by omega
      gi_wp2
      go_end0
      exact ⟨⟨_, rfl⟩, .inl ⟨_, H.out.2.2.2.2.2.2.2.2.2, hJs⟩⟩

end Go.Proofs.Ytecjhaohabjkbaa
