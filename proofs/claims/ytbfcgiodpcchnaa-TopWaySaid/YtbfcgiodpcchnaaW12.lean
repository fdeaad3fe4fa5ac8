/-
  PIECES for write.walk's iterator: a stack that pops; append inside a fence; what holds below a block.
-/
import Derived.Test.YtbfcgiodpcchnaaW11
import Derived.Test.YtbfcgiodpcchnaaRangeAll
namespace Go.Proofs.Ytbfcgiodpcchnaa
open Go.RowKit
set_option linter.unusedVariables false
attribute [local go_sem] Oper.semAt_some

theorem Own.typed {w : World} {e : TypeId} {size n : Nat} {v : Value} {xs : List Value} {fp : List Nat} (h : Own w e size v n xs fp) : ∀ k ∈ fp, ∃ cur, w.heap[k]? = some (.cells cur e (0, 0)) := by
  rcases h.2 with ⟨_, _, _, rfl⟩ | ⟨g, cap, cur, rfl, hp, rfl, hb, r⟩
  · simp
  · intro k hk
    have : k = g := by simpa using hk
    subst this
    exact ⟨cur, hb⟩
theorem Own.pop {w : World} {e : TypeId} {n : Nat} {A : Option Addr} {c : Nat} {xs : List Value} {fp : List Nat} (h : Own w e 1 (.slice A (n + 1) c) (n + 1) xs fp) : Own w e 1 (.slice A n c) n xs.dropLast fp := by
  obtain ⟨hl, h⟩ := h
  refine ⟨by rw [List.length_dropLast, hl]; omega, ?_⟩
  rcases h with ⟨_, _, h0, _⟩ | ⟨g, cap, cur, hv, hp, rfl, hb, hn, hm, hc, ht⟩
  · omega
  · simp only [Value.slice.injEq] at hv
    obtain ⟨rfl, -, rfl⟩ := hv
    refine .inr ⟨g, c, cur, rfl, hp, rfl, hb, by omega, hm, hc, ?_⟩
    rw [← ht, List.dropLast_eq_take, List.take_take, List.length_take]
    congr 1
    simp
    omega
/-- append inside a fence. -/
theorem wpListIn_append_mine {F : Fence} {nf : Nat} {P : Program} (w : World) {ops : Array Oper} {rest : List Oper} {o : Oper} {a : Act} {Q : Exit → Act → World → Prop} (hgd : o.guard = none) (s x : Operand) (t tx : TypeId)
    (ho : o.op = .call { callee := .builtin .append, args := #[s, x], argTypes := #[t, tx] })
    (e : TypeId) (i : TypeInfo) (z : Value) (size bytes : Nat) (ht : P.underlying t = some (.slice e)) (hi : P.info? e = some i) (hz : i.zero = some z)
    (hsize : i.size = size) (hby : i.bytes = bytes) (hzs : z.cells.size = size) (v : Value) (n : Nat) (xs : List Value) (fp : List Nat) (hv : a.eval s = v) (hown : Own w e size v n xs fp)
    (y : Value) (m : Nat) (news : List Value) (hx : a.eval x = y) (hs : Src P size tx y m news w) (h63 : n + m ≤ maxLen) (hbytes : (n + m) * bytes ≤ 140737488355328)
    (h : ∀ v' w' fp', Own w' e size v' (n + m) (xs ++ news) fp' → Keeps w w' fp → (∀ k ∈ fp', k ∈ fp ∨ w.heap.size ≤ k) → wpListIn F nf P ops Q rest (a.put o.dst v') w') : wpListIn F nf P ops Q (o :: rest) a w := by
  refine wpListIn_plain hgd fun K hK => ?_
  obtain ⟨v', w', fp', hrun, h2, h3, h4⟩ := run_append_mine (P := P) w t tx o.type e i z size bytes ht hi hz hsize hby hzs v n xs fp hown y m news hs h63 hbytes
  unfold Oper.wpIn
  refine ⟨?_, ?_⟩
  · simp [Oper.about, ho, resolve, Target.leads, Sem.run_pure]
  · rw [Oper.semAt_plain F _ _ (by rw [ho]; intro c hc'; cases hc')]
    simp only [execOp, ho, resolve, invoke, builtin, Sem.run_bind, Sem.run_pure, Result.andThen_ok, List.map_toArray, List.map_cons, List.map_nil, hv, hx, hrun]
    exact hK _ _ (h v' w' fp' h2 h3 h4)

/-- what is leant on below a block lies as it lay. -/
structure TKB (B : Nat) (w w' : World) : Prop where
  size : w.heap.size ≤ w'.heap.size
  same : ∀ (k : Nat) (o : Obj), k < B → w.heap[k]? = some o → safeO o = true → w'.heap[k]? = some o
theorem TKB.refl (B : Nat) (w : World) : TKB B w w := ⟨Nat.le_refl _, fun _ _ _ h _ => h⟩
theorem TKB.trans {B : Nat} {a b c : World} (h : TKB B a b) (k : TKB B b c) : TKB B a c := ⟨Nat.le_trans h.size k.size, fun i o hB hi ho => k.same i o hB (h.same i o hB hi ho) ho⟩
theorem TK.b {w w' : World} (h : TK w w') (B : Nat) : TKB B w w' := ⟨h.size, fun k o _ hk ho => h.same k o hk ho⟩
theorem Keeps.b {w w' : World} {fp : List Nat} (h : Keeps w w' fp) {B : Nat} (hB : B ≤ w.heap.size) (hf : ∀ k ∈ fp, B ≤ k) : TKB B w w' :=
  ⟨h.size, fun k o hk hw _ => (h.block k (by omega) (fun hm => by have := hf k hm; omega)).trans hw⟩
theorem TKB.blk {B : Nat} {w w' : World} (h : TKB B w w') {g : Nat} {t : TypeId} {cs : Array Value} (hb : Blk w g t cs) (hs : safeT t = true) (hg : g < B) : Blk w' g t cs := h.same g _ hg hb hs
theorem AttrsAt.tkb {w w' : World} {A : Option Addr} {c : Nat} {l : AL} (h : AttrsAt w A c l) (k : TKB w.heap.size w w') : AttrsAt w' A c l := by
  refine ⟨h.1, ?_⟩
  rcases h.2 with h | ⟨b, cur, h1, h2, h3⟩
  · exact .inl h
  · exact .inr ⟨b, cur, h1, k.blk h2 (by decide) h2.lt, h3⟩
theorem ToksAt.tkb {w w' : World} {A : Option Addr} {n c : Nat} {ts : List TV} (h : ToksAt w A n c ts) (k : TKB w.heap.size w w') : ToksAt w' A n c ts := by
  refine ⟨h.1, h.2.1, ?_, fun t ht => (h.2.2.2 t ht).tkb k⟩
  rcases h.2.2.1 with h | ⟨b, cur, h1, h2, h3⟩
  · exact .inl h
  · exact .inr ⟨b, cur, h1, k.blk h2 (by decide) h2.lt, h3⟩

/-- what the iterator yields. -/
def walkL (ts : List Tok) : List (Nat × Nat) := (List.range ts.length).map fun i => (i, (opens ts (i + 1)).length)
theorem walkL_length (ts : List Tok) : (walkL ts).length = ts.length := by simp [walkL]
theorem walkL_at (ts : List Tok) {i : Nat} (h : i < ts.length) : (walkL ts)[i]? = some (i, (opens ts (i + 1)).length) := by
  rw [walkL, List.getElem?_map, List.getElem?_range h]
  rfl
theorem opens_le (ts : List Tok) : ∀ i, (opens ts i).length ≤ i
  | 0 => by simp [opens]
  | i + 1 => by
    have h := opens_le ts i
    show (match ts[i]? with | some t => if t.kind = 1 then opens ts i ++ [t.name] else (opens ts i).dropLast | none => opens ts i).length ≤ i + 1
    split
    · split
      · simp; omega
      · simp; omega
    · omega

end Go.Proofs.Ytbfcgiodpcchnaa
