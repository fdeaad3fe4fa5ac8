/-
  MORE LAWS OF THE WALK (my own; P is any program): copy onto the head of a row that is known whole; a call of a Go function inside a region that draws its order; append onto a slice that has no room.
-/
import Derived.Test.YtecjhaohabjkbaaStar
import Derived.Laws.CopyOwn
import Derived.Deep.RegionLaw
namespace Go.Proofs.Ytecjhaohabjkbaa
open Go.RowKit
set_option linter.unusedVariables false

section
variable {P : Program} (w : World)
theorem run_copy_mine (dT sT ty elem : TypeId) (hu : P.underlying dT = some (.slice elem)) (hs : (P.info? elem).map (·.size) = some 1) (g dLen dCap : Nat) (t : TypeId) (cur : Array Value) (hg : Blk w g t cur) (hd : dLen ≤ cur.size)
    (A : Option Addr) (sLen sCap : Nat) (xs : List Value) (fr : List Nat) (hr : Reads w 1 A sLen xs fr) (h1 : ∀ u ∈ xs, u.oneCell' = true) :
    ∃ w', (Builtin.copy_ #[dT, sT] ty #[.slice (some ⟨g, 0, none⟩) dLen dCap, .slice A sLen sCap]).run P w = .ok (goInt (min sLen dLen : Nat)) w' ∧ Blk w' g t (xs.take dLen ++ cur.toList.drop (min sLen dLen)).toArray ∧ Keeps w w' [g] := by
  have hl : xs.length = sLen := by simpa using hr.1
  rcases Nat.eq_zero_or_pos (min sLen dLen) with h0 | h0
  · refine ⟨w, ?_, ?_, Keeps.refl _ _⟩
    · rw [h0]; exact run_copy_none w dT sT ty elem _ _ _ _ _ _ hu hs h0
    · have e : xs.take dLen = [] := by
        apply List.eq_nil_of_length_eq_zero
        rw [List.length_take, hl, Nat.min_comm]; exact h0
      rw [h0, e]
      simpa using hg
  · rcases hr.2 with ⟨h, _⟩ | ⟨ad, rfl, -, -, hc⟩
    · omega
    · have hlen : (xs.take dLen).length = min sLen dLen := by rw [List.length_take, hl, Nat.min_comm]
      have hrun := run_copy_row (P := P) w dT sT ty elem g 0 dLen dCap ad sLen sCap cur t (xs.take dLen) hu hs hg hlen
        (fun j v hj => hc j v (by rw [List.getElem?_take] at hj; split at hj; · exact hj
                                  · cases hj))
        (by rw [hlen]; omega) (fun v hv => h1 v (List.mem_of_mem_take hv))
      rw [hlen] at hrun
      refine ⟨_, hrun, ?_, ⟨rfl, rfl, rfl, by simp [World.setRow], fun k _ hk => setRow_other w g k _ (fun e => hk (by simp [e]))⟩⟩
      have := setRow_heap w g cur (cur.toList.take 0 ++ xs.take dLen ++ cur.toList.drop (0 + min sLen dLen)).toArray t (0, 0) hg
      unfold Blk
      simpa using this

theorem wp_copy_mine {o : Oper} {a : Act} {K : Act → World → Prop} {Q : Exit → Act → World → Prop} (d s : Operand) (dT sT : TypeId)
    (ho : o.op = .call { callee := .builtin .copy, args := #[d, s], argTypes := #[dT, sT] }) (elem : TypeId) (hu : P.underlying dT = some (.slice elem)) (hs : (P.info? elem).map (·.size) = some 1) (g dLen dCap : Nat) (t : TypeId) (cur : Array Value)
    (hdv : a.eval d = .slice (some ⟨g, 0, none⟩) dLen dCap) (hg : Blk w g t cur) (hd : dLen ≤ cur.size)
    (A : Option Addr) (sLen sCap : Nat) (hsv : a.eval s = .slice A sLen sCap) (xs : List Value) (fr : List Nat) (hr : Reads w 1 A sLen xs fr) (h1 : ∀ u ∈ xs, u.oneCell' = true)
    (h : ∀ w', Blk w' g t (xs.take dLen ++ cur.toList.drop (min sLen dLen)).toArray → Keeps w w' [g] → K (a.put o.dst (goInt (min sLen dLen : Nat))) w') : o.wp P a w K Q := by
  obtain ⟨w', hrun, hb, hk⟩ := run_copy_mine (P := P) w dT sT o.type elem hu hs g dLen dCap t cur hg hd A sLen sCap xs fr hr h1
  unfold Oper.wp execOp
  simp only [ho, resolve, invoke, builtin, Sem.run_bind, Sem.run_pure, Result.andThen_ok, List.map_toArray, List.map_cons, List.map_nil, hdv, hsv, hrun]
  exact h w' hb hk
theorem wpList_copy_mine {ops : Array Oper} {rest : List Oper} {o : Oper} {a : Act} {Q : Exit → Act → World → Prop} (hgd : o.guard = none) (d s : Operand) (dT sT : TypeId)
    (ho : o.op = .call { callee := .builtin .copy, args := #[d, s], argTypes := #[dT, sT] }) (elem : TypeId) (hu : P.underlying dT = some (.slice elem)) (hs : (P.info? elem).map (·.size) = some 1) (g dLen dCap : Nat) (t : TypeId) (cur : Array Value)
    (hdv : a.eval d = .slice (some ⟨g, 0, none⟩) dLen dCap) (hg : Blk w g t cur) (hd : dLen ≤ cur.size)
    (A : Option Addr) (sLen sCap : Nat) (hsv : a.eval s = .slice A sLen sCap) (xs : List Value) (fr : List Nat) (hr : Reads w 1 A sLen xs fr) (h1 : ∀ u ∈ xs, u.oneCell' = true)
    (h : ∀ w', Blk w' g t (xs.take dLen ++ cur.toList.drop (min sLen dLen)).toArray → Keeps w w' [g] → wpList P ops Q rest (a.put o.dst (goInt (min sLen dLen : Nat))) w') : wpList P ops Q (o :: rest) a w :=
  wpList_plain hgd fun _ hK => wp_copy_mine w d s dT sT ho elem hu hs g dLen dCap t cur hdv hg hd A sLen sCap hsv xs fr hr h1 fun w' hb hk => hK _ _ (h w' hb hk)
theorem step_copy_mine {ops : Array Oper} {o : Oper} {a : Act} {K : Act → World → Prop} {Q : Exit → Act → World → Prop} {E : Prop} (hgd : o.guard = none) (d s : Operand) (dT sT : TypeId)
    (ho : o.op = .call { callee := .builtin .copy, args := #[d, s], argTypes := #[dT, sT] }) (elem : TypeId) (hu : P.underlying dT = some (.slice elem)) (hs : (P.info? elem).map (·.size) = some 1) (g dLen dCap : Nat) (t : TypeId) (cur : Array Value)
    (hdv : a.eval d = .slice (some ⟨g, 0, none⟩) dLen dCap) (hg : Blk w g t cur) (hd : dLen ≤ cur.size)
    (A : Option Addr) (sLen sCap : Nat) (hsv : a.eval s = .slice A sLen sCap) (xs : List Value) (fr : List Nat) (hr : Reads w 1 A sLen xs fr) (h1 : ∀ u ∈ xs, u.oneCell' = true)
    (h : ∀ w', Blk w' g t (xs.take dLen ++ cur.toList.drop (min sLen dLen)).toArray → Keeps w w' [g] → K (a.put o.dst (goInt (min sLen dLen : Nat))) w') :
    if Region.wanted o (yielded ops a.tmps) = true then Oper.wp P o a w K Q else E := by
  have hw : Region.wanted o (yielded ops a.tmps) = true := by simp [Region.wanted, hgd]
  rw [if_pos hw]
  exact wp_copy_mine w d s dT sT ho elem hu hs g dLen dCap t cur hdv hg hd A sLen sCap hsv xs fr hr h1 h

/-- a call of a Go function that returns, inside a region that draws its order. -/
theorem step_call {ops : Array Oper} {o : Oper} {a : Act} {K : Act → World → Prop} {Q : Exit → Act → World → Prop} {E : Prop} (hgd : o.guard = none) (f : FuncId) (args : Array Value)
    (hx : (execOp a.eval o).run P w = .ok (.enter f args) w) {R : Ending → World → Prop} (hc : Calls P f args w R) (h : ∀ e w', R e w' → ∃ v, e = .returned v ∧ K (a.put o.dst v) w') :
    if Region.wanted o (yielded ops a.tmps) = true then Oper.wp P o a w K Q else E := by
  have hw : Region.wanted o (yielded ops a.tmps) = true := by simp [Region.wanted, hgd]
  rw [if_pos hw]
  unfold Oper.wp
  rw [hx, Oper.upon_enter]
  refine hc.mono fun e w' hR => ?_
  obtain ⟨v, rfl, hK⟩ := h e w' hR
  exact hK

/-- append ONTO A SLICE THAT HAS NO ROOM (whatever row it lies in): a new row of the call's own. -/
theorem run_append_full (t tx ty e : TypeId) (i : TypeInfo) (z : Value) (size bytes : Nat) (ht : P.underlying t = some (.slice e)) (hi : P.info? e = some i) (hz : i.zero = some z)
    (hsize : i.size = size) (hby : i.bytes = bytes) (hzs : z.cells.size = size) (A : Option Addr) (n : Nat) (xs : List Value) (fp : List Nat) (hr : Reads w size A n xs fp)
    (x : Value) (m : Nat) (news : List Value) (hs : Src P size tx x m news w) (hm : 0 < m) (h63 : n + m ≤ maxLen) (hbytes : (n + m) * bytes ≤ 140737488355328) :
    ∃ v' w' fp', (Builtin.append_ #[t, tx] ty #[.slice A n n, x]).run P w = .ok v' w' ∧ Own w' e size v' (n + m) (xs ++ news) fp' ∧ Keeps w w' [] ∧ ∀ k ∈ fp', w.heap.size ≤ k := by
  subst hsize
  subst hby
  have hlen : (xs ++ news).length = (n + m) * i.size := by rw [List.length_append, hr.1, hs.newsLen, Nat.add_mul]
  have hold : (Builtin.firstCells i.size n (.slice A n n)).run P w.drew = .ok xs.toArray w.drew := by
    rcases hr.2 with ⟨rfl, _⟩ | ⟨ad, rfl, -, -, hc⟩
    · obtain rfl : xs = [] := List.eq_nil_of_length_eq_zero (by simpa using hr.1)
      cases A with
      | none => exact run_firstCells_none w.drew _ _ _ _
      | some a => exact run_firstCells_some w.drew i.size 0 a 0 0 [] (by simp) (by simp)
    · exact run_firstCells_some w.drew i.size n ad n n xs hr.1 hc
  have hr2 := run_append_grow_src (P := P) w t tx ty e i z ht hi hz A n n xs hold x m news hs (by omega) (by simp only [maxLen] at h63; omega) (growslice_fits (by omega) hbytes)
  have hge := grownCap_ge w (n + m) n e
  have hcm : grownCap w (n + m) n e ≤ maxLen := grownCap_le_maxLen w (n + m) n e h63
  refine ⟨_, _, [w.heap.size], hr2, ⟨hlen, .inr ⟨w.heap.size, _, _, rfl, by omega, rfl, Blk.new w.drew _ _, hge, hcm, ?_, ?_⟩⟩, ((Keeps.refl w []).drew).alloc _, by simp⟩
  · simp only [Array.size_append, List.size_toArray, size_zeroCells, hzs, hlen, ← Nat.add_mul]
    congr 1
    omega
  · simp only [Array.toList_append]
    rw [← hlen]
    exact List.take_left
theorem wpList_append_full {ops : Array Oper} {rest : List Oper} {o : Oper} {a : Act} {Q : Exit → Act → World → Prop} (hgd : o.guard = none) (s x : Operand) (t tx : TypeId)
    (ho : o.op = .call { callee := .builtin .append, args := #[s, x], argTypes := #[t, tx] })
    (e : TypeId) (i : TypeInfo) (z : Value) (size bytes : Nat) (ht : P.underlying t = some (.slice e)) (hi : P.info? e = some i) (hz : i.zero = some z)
    (hsize : i.size = size) (hby : i.bytes = bytes) (hzs : z.cells.size = size) (A : Option Addr) (n : Nat) (xs : List Value) (fp : List Nat) (hv : a.eval s = .slice A n n) (hr : Reads w size A n xs fp)
    (y : Value) (m : Nat) (news : List Value) (hx : a.eval x = y) (hs : Src P size tx y m news w) (hm : 0 < m) (h63 : n + m ≤ maxLen) (hbytes : (n + m) * bytes ≤ 140737488355328)
    (h : ∀ v' w' fp', Own w' e size v' (n + m) (xs ++ news) fp' → Keeps w w' [] → (∀ k ∈ fp', w.heap.size ≤ k) → wpList P ops Q rest (a.put o.dst v') w') : wpList P ops Q (o :: rest) a w := by
  refine wpList_plain hgd fun K hK => ?_
  obtain ⟨v', w', fp', hrun, h2, h3, h4⟩ := run_append_full (P := P) w t tx o.type e i z size bytes ht hi hz hsize hby hzs A n xs fp hr y m news hs hm h63 hbytes
  unfold Oper.wp execOp
  simp only [ho, resolve, invoke, builtin, Sem.run_bind, Sem.run_pure, Result.andThen_ok, List.map_toArray, List.map_cons, List.map_nil, hv, hx, hrun]
  exact hK _ _ (h v' w' fp' h2 h3 h4)
end

end Go.Proofs.Ytecjhaohabjkbaa
