/-
  A RANGE OVER A FUNCTION WHOSE ITERATOR WRITES CELLS OF ITS OWN: the caller's invariant must abide whatever turns from the call's first block on. (The kit's law lets the iterator turn its walks and lay new blocks alone; this one, after it, is for an invariant that speaks of elder blocks only.)
-/
import Derived.RangeFuncNested
import Derived.RangeFuncBound
import Derived.RangeFuncCalls
import Derived.RangeFuncLeaves
import Derived.RangeFuncFrom
import Derived.WalkKit
namespace Go.Proofs.Ytbfcgiodpcchnaa
open Go Go.RowKit
set_option linter.unusedVariables false

def AbidesAll {β : Type} (B : Nat) (J : β → World → Prop) : Prop := ∀ s W W', J s W → Below B W W' → J s W'
theorem AbidesAll.alloc {β : Type} {B : Nat} {I : β → World → Prop} (h : AbidesAll B I) {s : β} {W : World} (o : Obj) (hs : I s W) (hB : B ≤ W.heap.size) : I s (W.alloc o) := h s W _ hs ((Below.refl B W).alloc hB o)
theorem below_putObj {B : Nat} (W : World) (l : Nat) (o : Obj) (hl : B ≤ l) : Below B W (W.putObj l o) := by
  have hg := grownBy_putObj' W l o
  exact ⟨hg.os, hg.tape, hg.output, hg.size, fun k hk => World.putObj_heap_other (by omega)⟩
theorem AbidesAll.putObj {β : Type} {B : Nat} {I : β → World → Prop} (h : AbidesAll B I) {s : β} {W : World} {l : Nat} (o : Obj) (hs : I s W) (hB : B ≤ l) : I s (W.putObj l o) := h s W _ hs (below_putObj W l o hB)
/-- what an iterator promises: the caller's word may lean on elder blocks alone. -/
def SeqAll {α : Type} (F : Fence) (n : Nat) (P : Program) (g : Nat) (lb : Array Value) (encs : α → Array Value) (Kp : World → World → Prop) (S Sp : List α → Prop) (N : Nat) (w : World) : Prop :=
  ∀ (l : Nat) (J Jx : List α → World → Prop) (W : World), Below w.heap.size w W → AbidesAll W.heap.size J → AbidesAll W.heap.size Jx →
    (∀ pre x W1, J pre W1 → pre.length < N → YieldAt F (n - 1) P l (encs x) W1 fun e W' =>
      (e = .returned (.bool true) ∧ J (pre ++ [x]) W' ∧ Kp W1 W') ∨ (e = .returned (.bool false) ∧ Jx (pre ++ [x]) W')) →
    J [] W → CallsIn F n P g (#[.func (.yield l) #[] #[]] ++ lb) W fun e W' => (∃ v, e = .returned v) ∧ ((∃ xs, S xs ∧ J xs W') ∨ (∃ pre, Sp pre ∧ Jx pre W'))

/-- the law's two blocks: the mark's block at s, the loop's record behind it. -/
structure Desk (s : Nat) (r : Loop) (W : World) : Prop where
  loop : W.heap[s + 1]? = some (.loop r)
  mark : W.heap[s]? = some (.deferred (some []))
theorem Desk.others {s : Nat} {r : Loop} {W W' : World} (h : Desk s r W) (k : KeepsOthers W W') : Desk s r W' := ⟨k.same _ _ h.loop rfl, k.same _ _ h.mark rfl⟩
theorem Desk.put {s : Nat} {r : Loop} {W : World} (h : Desk s r W) (r' : Loop) : Desk s r' (W.putObj (s + 1) (.loop r')) :=
  ⟨World.putObj_heap_same (Array.getElem?_eq_some_iff.1 h.loop).1, (World.putObj_heap_other (by omega)).trans h.mark⟩
theorem Desk.below {s B : Nat} {r : Loop} {W W' : World} (h : Desk s r W) (k : Below B W W') (hB : s + 2 ≤ B) : Desk s r W' := ⟨(k.block _ (by omega)).trans h.loop, (k.block _ (by omega)).trans h.mark⟩
theorem Desk.new (W : World) (r : Loop) : Desk W.heap.size r ((W.alloc (.deferred (some []))).alloc (.loop r)) :=
  ⟨by have := World.alloc_heap_new (W.alloc (.deferred (some []))) (.loop r); rwa [World.size_alloc] at this, (Below.heap_alloc _ _ _ (by simp)).trans (World.alloc_heap_new W _)⟩

theorem wpIn_rangeFunc_all {F : Fence} {n : Nat} {P : Program} {α : Type} {g : Operand} {ps : Array Tmp} {assign body : Code} {Q : Exit → Act → World → Prop} {a : Act} {w : World}
    (hro : F.round = none) (h1 : 1 ≤ n) {gf : Nat} {lb : Array Value} (hg : a.eval g = .func (.func gf) #[] lb) (hFg : F.fn gf) (eg : ∀ args w, (callFunc gf args).run P w = .ok (.enter gf args) w)
    {encs : α → Array Value} {Kp : World → World → Prop} {S Sp : List α → Prop} {N : Nat} {w0 : World} (hseq : SeqAll F (n - 1) P gf lb encs Kp S Sp N w0)
    (hKt : ∀ {A B C : World}, Kp A B → Kp B C → Kp A C) (hKb : ∀ (W : World) (l : Nat) (o o' : Obj), W.heap[l]? = some o → o.isCells = false → o.isWalk = false → Kp W (W.putObj l o')) (hb0 : Below w0.heap.size w0 w) (hps : ∀ x, (encs x).size = ps.size)
    (I : List α → World → Prop) (Ix : Code → List α → World → Prop) (hI : AbidesAll w.heap.size I) (hIx : ∀ c, AbidesAll w.heap.size (Ix c)) (h0 : I [] w) (a₁ : α → Act)
    (hassign : ∀ (l : Nat) (x : α) (W : World) (K : Act → World → Prop), K (a₁ x) W →
      assign.wpIn (F.inRound l) (n - 1 - 1) P (Exit.then K (fun _ _ _ => False)) { tmps := (ps.zip (encs x)).foldl (fun t (p, v) => t.setIfInBounds p v) a.tmps, defers := [] } W)
    (hbody : ∀ (l : Nat) (pre : List α) (x : α) (W : World), I pre W → pre.length < N → body.wpIn (F.inRound l) (n - 1 - 1) P (ownPostK Kp I Ix (pre ++ [x]) W) (a₁ x) W)
    (hdone : ∀ (D : Nat) (xs : List α) (W : World), w.heap.size ≤ D → S xs → I xs W → W.heap[D]? = some (.deferred (some [])) → Q .normal { a with defers := { target := .collected D, args := #[] } :: a.defers } W)
    (hstop : ∀ (D : Nat) (c : Code) (pre : List α) (W : World), w.heap.size ≤ D → Sp pre → Ix c pre W → W.heap[D]? = some (.deferred (some [])) → c.wpIn F n P Q { a with defers := { target := .collected D, args := #[] } :: a.defers } W) :
    (Code.rangeFunc g ps assign body).wpIn F n P Q a w := by
  apply wpIn_rangeFunc
  intro fn hfn
  rw [hro]
  have hlay := run_enterLoop_outer (P := P) (w := w) fn a.tmps ps assign body
  generalize hr0 : ({ state := .ready, pending := none, fn := fn, tmps := a.tmps, params := ps, assign := assign, body := body, defers := w.heap.size } : Loop) = r0 at hlay
  have hd := Desk.new w r0
  have hbn : Below w.heap.size w ((w.alloc (.deferred (some []))).alloc (.loop r0)) := ((Below.refl _ w).alloc (Nat.le_refl _) _).alloc (by simp) _
  have hsz : ((w.alloc (.deferred (some []))).alloc (.loop r0)).heap.size = w.heap.size + 2 := by simp
  generalize (w.alloc (.deferred (some []))).alloc (.loop r0) = W1 at hlay hd hbn hsz
  have p1 : r0.state = .ready := by rw [← hr0]
  have p2 : r0.params = ps := by rw [← hr0]
  have p3 : r0.fn = fn := by rw [← hr0]
  have p4 : r0.assign = assign := by rw [← hr0]
  have p5 : r0.body = body := by rw [← hr0]
  have p6 : r0.tmps = a.tmps := by rw [← hr0]
  have p7 : r0.pending = none := by rw [← hr0]
  clear hr0
  have keepDesk : ∀ {s : Nat} {r : Loop} {X Y : World}, s = w.heap.size → Desk s r X → Below W1.heap.size X Y → Desk s r Y := fun e h k => h.below k (by rw [hsz, e]; exact Nat.le_refl _)
  have lift : ∀ {X Y : World}, Below W1.heap.size X Y → Below w.heap.size X Y := fun k => k.mono (by omega)
  have own : ∀ {β : Type} {J : β → World → Prop}, AbidesAll w.heap.size J → ∀ {s : β} {X : World} (r : Loop), J s X → J s (X.putObj (w.heap.size + 1) (.loop r)) := fun h _ _ r hs => h.putObj _ hs (by omega)
  refine ⟨_, _, W1, ⟨.fn (.func gf) lb, #[.func (.yield (w.heap.size + 1)) #[] #[]]⟩, W1, gf, #[.func (.yield (w.heap.size + 1)) #[] #[]] ++ lb, W1, hlay, by simp only [resolve, hg]; simp [go_sem], fun f' hf' => ?_, by simp [invoke, go_sem, eg], fun _ => h1, ?_⟩
  · simp [Target.leads] at hf'
    exact hf' ▸ hFg
  have key := hseq (w.heap.size + 1) (fun pre X => I pre X ∧ Desk w.heap.size r0 X) (fun pre X => ∃ c, Ix c pre X ∧ Desk w.heap.size { r0 with state := .done, pending := some c } X) W1
    (hb0.trans (hbn.mono hb0.size)) (fun s X Y hs k => ⟨hI s X Y hs.1 (lift k), keepDesk rfl hs.2 k⟩)
    (fun s X Y hs k => by
      obtain ⟨c, u, v⟩ := hs
      exact ⟨c, hIx c s X Y u (lift k), keepDesk rfl v k⟩)
    (fun pre x X hs hlen => by
      have hy := run_yield (P := P) (args := encs x) hs.2.loop (by rw [p2]; exact hps x)
      rw [p2, p3, p4, p5, p6] at hy
      refine ⟨_, _, _, _, hy, roundIn_of_wpIn hfn (hassign _ x X _ ⟨_, run_beginRound hs.2.loop p1, ?_⟩)⟩
      have hk := hKb X _ _ (.loop { r0 with state := .busy }) hs.2.loop rfl rfl
      have hdB := hs.2.put { r0 with state := .busy }
      refine wpIn_mono (hbody _ pre x _ (own hI _ hs.1) hlen) ?_
      have stop : ∀ (c : Code) (Y : World), KeepsOthers (X.putObj (w.heap.size + 1) (.loop { r0 with state := .busy })) Y → Ix c (pre ++ [x]) Y →
          ∃ v Y', (Instr.endRound (w.heap.size + 1) (some c)).run P Y = .ok v Y' ∧ ((Ending.returned v = .returned (.bool true) ∧ (I (pre ++ [x]) Y' ∧ Desk w.heap.size r0 Y') ∧ Kp X Y') ∨
            (Ending.returned v = .returned (.bool false) ∧ ∃ c, Ix c (pre ++ [x]) Y' ∧ Desk w.heap.size { r0 with state := .done, pending := some c } Y')) := fun c Y ho hi => by
        have hdY := hdB.others ho
        exact ⟨_, _, run_endRound (some c) hdY.loop, .inr ⟨rfl, c, own (hIx c) _ hi, hdY.put _⟩⟩
      intro e a3 Y hp
      match e, hp with
      | .normal, hp =>
        have hdY := hdB.others hp.1
        refine ⟨_, _, run_endRound none hdY.loop, .inl ⟨rfl, ⟨own hI _ hp.2.2, ?_⟩, hKt (hKt hk hp.2.1) (hKb _ _ _ _ hdY.loop rfl rfl)⟩⟩
        have e0 : ({ ({ r0 with state := .busy } : Loop) with state := if (none : Option Code).isNone then .ready else .done, pending := none } : Loop) = r0 := by
          cases r0
          simp at p1 p7
          simp [p1, p7]
        have := hdY.put r0
        rw [← e0] at this ⊢
        exact this
      | .ret, hp => exact stop _ _ hp.1 hp.2
      | .exit id, hp => exact stop _ _ hp.1 hp.2
      | .goto t, hp => exact stop _ _ hp.1 hp.2)
    ⟨hI _ _ _ h0 hbn, hd⟩
  refine key.mono ?_
  rintro e Y ⟨⟨v, rfl⟩, ⟨xs, hS, hi, hdk⟩ | ⟨pre, hSp, c, hi, hdk⟩⟩
  · refine ⟨_, _, run_endLoop hdk.loop (by rw [p1]; simp), ?_⟩
    rw [p7]
    exact hdone _ xs _ (Nat.le_refl _) hS (own hI _ hi) (hdk.put _).mark
  · exact ⟨_, _, run_endLoop hdk.loop (by simp), hstop _ c pre _ (Nat.le_refl _) hSp (own (hIx c) _ hi) (hdk.put _).mark⟩

end Go.Proofs.Ytbfcgiodpcchnaa
