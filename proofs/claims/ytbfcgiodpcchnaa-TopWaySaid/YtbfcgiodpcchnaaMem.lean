/-
  WORDS FOR MEMORY (my own): a frame by footprints ('Keeps'), a slice that owns a row or has no room ('Own'), a slice that reads as a list ('Reads'), append over both, Clone's like. No Go text, no program: 'P' is any program.
-/
import Derived.WalkKit
import Derived.Below
import Derived.Laws.OwnMore
import Derived.Laws.Rows
import Derived.Deep.Draws
import Derived.Deep.AppendSrc
import Derived.RegionTactic
import Derived.OwnWalk
namespace Go.Proofs.Ytbfcgiodpcchnaa
open Go.RowKit

/-! ## addresses -/
theorem block_of_add (a : Addr) (n : Nat) : (a.add n).block = a.block := by unfold Addr.add; split <;> rfl
theorem add_of_add (a : Addr) (i j : Nat) : (a.add i).add j = a.add (i + j) := by
  unfold Addr.add
  by_cases hi : i = 0 <;> by_cases hj : j = 0 <;> simp [hi, hj, Nat.add_assoc]

/-! ## strings -/
theorem str_ne {a b : ByteArray} (h : a ≠ b) : (a.toList == b.toList) = false := by
  rw [ByteArray.toList_eq, ByteArray.toList_eq]
  simp only [beq_eq_false_iff_ne, ne_eq]
  intro e
  apply h
  cases a; cases b
  simp only [ByteArray.mk.injEq]
  exact Array.toList_inj.1 e

/-! ## a block that is known whole -/
def Blk (w : World) (g : Nat) (t : TypeId) (cs : Array Value) : Prop := w.heap[g]? = some (.cells cs t (0, 0))

section
variable {w w' : World} {g : Nat} {t : TypeId} {cs : Array Value}
theorem Blk.lt (h : Blk w g t cs) : g < w.heap.size := by
  rcases Nat.lt_or_ge g w.heap.size with hlt | hge
  · exact hlt
  · unfold Blk at h; rw [Array.getElem?_eq_none hge] at h; cases h
theorem Blk.cell (h : Blk w g t cs) (i : Nat) : w.cell? ⟨g, i, none⟩ = cs[i]? := cell_of_row w g i cs t (0, 0) h
theorem Blk.frozen (h : Blk w g t cs) (i : Nat) : w.frozen? ⟨g, i, none⟩ = false := by
  unfold Blk at h
  simp [World.frozen?, h]
theorem Blk.new (w : World) (t : TypeId) (cs : Array Value) : Blk (w.alloc (.cells cs t)) w.heap.size t cs := heap_alloc_new w _
theorem Blk.new' (w : World) {n : Nat} (hn : w.heap.size = n) (t : TypeId) (cs : Array Value) : Blk (w.alloc (.cells cs t)) n t cs := hn ▸ heap_alloc_new w _
theorem Blk.drew (h : Blk w g t cs) : Blk w.drew g t cs := h
theorem Blk.drewN (h : Blk w g t cs) (n : Nat) : Blk (w.drewN n) g t cs := h
theorem Blk.alloc (h : Blk w g t cs) (o : Obj) : Blk (w.alloc o) g t cs := (Below.heap_alloc w o g h.lt).trans h
theorem Blk.set_ (h : Blk w g t cs) (i : Nat) (u : Value) : Blk (w.setCell ⟨g, i, none⟩ u) g t (cs.setIfInBounds i u) := by
  unfold Blk at h ⊢
  simp [World.setCell, Array.getElem?_modify, h]
theorem Blk.far (h : Blk w g t cs) {p : Addr} (hp : g ≠ p.block) (u : Value) : Blk (w.setCell p u) g t cs := (Below.heap_setCell w p u g hp).trans h
theorem Blk.to (h : Blk w g t cs) (hb : w'.heap[g]? = w.heap[g]?) : Blk w' g t cs := hb.trans h
end

/-! ## the frame -/
/-- Outside the blocks 'fp' (and but for new blocks) w' is as w was. -/
structure Keeps (w w' : World) (fp : List Nat) : Prop where
  os : w'.os = w.os
  tape : w'.tape = w.tape
  output : w'.output = w.output
  size : w.heap.size ≤ w'.heap.size
  block : ∀ k, k < w.heap.size → k ∉ fp → w'.heap[k]? = w.heap[k]?

section
variable {w w1 w2 : World} {fp fp1 fp2 : List Nat}
theorem Keeps.refl (w : World) (fp : List Nat) : Keeps w w fp := ⟨rfl, rfl, rfl, Nat.le_refl _, fun _ _ _ => rfl⟩
theorem Keeps.mono (h : Keeps w w1 fp) (hs : ∀ k, k < w.heap.size → k ∈ fp → k ∈ fp1) : Keeps w w1 fp1 :=
  ⟨h.os, h.tape, h.output, h.size, fun k hk hn => h.block k hk fun hm => hn (hs k hk hm)⟩
theorem Keeps.trans (h : Keeps w w1 fp) (k : Keeps w1 w2 fp1) (hs : ∀ i, i < w.heap.size → i ∈ fp1 → i ∈ fp) : Keeps w w2 fp :=
  ⟨k.os.trans h.os, k.tape.trans h.tape, k.output.trans h.output, Nat.le_trans h.size k.size,
    fun i hi hn => (k.block i (Nat.lt_of_lt_of_le hi h.size) fun hm => hn (hs i hi hm)).trans (h.block i hi hn)⟩
theorem Keeps.drew (h : Keeps w w1 fp) : Keeps w w1.drew fp := ⟨h.os, h.tape, h.output, h.size, h.block⟩
theorem Keeps.drewN (h : Keeps w w1 fp) (n : Nat) : Keeps w (w1.drewN n) fp := ⟨h.os, h.tape, h.output, h.size, h.block⟩
theorem Keeps.alloc (h : Keeps w w1 fp) (o : Obj) : Keeps w (w1.alloc o) fp :=
  ⟨h.os, h.tape, h.output, Nat.le_trans h.size (by simp), fun k hk hn => (Below.heap_alloc w1 o k (Nat.lt_of_lt_of_le hk h.size)).trans (h.block k hk hn)⟩
theorem Keeps.setCell (h : Keeps w w1 fp) {p : Addr} (hp : p.block ∈ fp ∨ w.heap.size ≤ p.block) (u : Value) : Keeps w (w1.setCell p u) fp :=
  ⟨h.os, h.tape, h.output, by simpa [World.setCell] using h.size, fun k hk hn => (Below.heap_setCell w1 p u k (by
    rintro rfl
    rcases hp with hp | hp
    · exact hn hp
    · omega)).trans (h.block k hk hn)⟩
theorem Keeps.grown (h : Keeps w w1 fp) {row : Option Nat} (hg : w1.grownBy w2 row) (hr : ∀ k, row = some k → k ∈ fp ∨ w.heap.size ≤ k) : Keeps w w2 fp :=
  ⟨hg.os.trans h.os, hg.tape.trans h.tape, hg.output.trans h.output, Nat.le_trans h.size hg.size, fun k hk hn =>
    (hg.block k (Nat.lt_of_lt_of_le hk h.size) (fun e => by
      rcases hr k e.symm with h1 | h1
      · exact hn h1
      · omega)).trans (h.block k hk hn)⟩
theorem Keeps.ofDrew (h : Keeps w.drew w1 fp) : Keeps w w1 fp := ⟨h.os, h.tape, h.output, h.size, h.block⟩
theorem Keeps.ofDrewN {n : Nat} (h : Keeps (w.drewN n) w1 fp) : Keeps w w1 fp := ⟨h.os, h.tape, h.output, h.size, h.block⟩
theorem Keeps.below {B : Nat} (h : Keeps w w1 fp) (hB : B ≤ w.heap.size) (hf : ∀ k ∈ fp, B ≤ k) : Below B w w1 :=
  ⟨h.os, h.tape, h.output, h.size, fun k hk => h.block k (by omega) fun hm => by have := hf k hm; omega⟩
theorem Keeps.ofBelow (h : Below w.heap.size w w1) (fp : List Nat) : Keeps w w1 fp := ⟨h.os, h.tape, h.output, h.size, fun k hk _ => h.block k hk⟩
theorem Keeps.cell (h : Keeps w w1 fp) {p : Addr} (hp : p.block < w.heap.size) (hn : p.block ∉ fp) : w1.cell? p = w.cell? p := World.cell?_of_block (w := w) (h.block p.block hp hn)
theorem Keeps.frozen (h : Keeps w w1 fp) {p : Addr} (hp : p.block < w.heap.size) (hn : p.block ∉ fp) : w1.frozen? p = w.frozen? p := World.frozen?_of_block (w := w) (h.block p.block hp hn)
theorem Blk.keeps {g : Nat} {t : TypeId} {cs : Array Value} (h : Blk w g t cs) (hk : Keeps w w1 fp) (hn : g ∉ fp) : Blk w1 g t cs := h.to (hk.block g h.lt hn)
end

/-! ## a slice that reads as a list -/
/-- The slice '.slice A n c' (c whatever) holds the cells xs; they lie in the blocks fp (one, or none where it is empty). -/
def Reads (w : World) (size : Nat) (A : Option Addr) (n : Nat) (xs : List Value) (fp : List Nat) : Prop :=
  xs.length = n * size ∧ ((n = 0 ∧ fp = []) ∨ ∃ ad, A = some ad ∧ fp = [ad.block] ∧ ad.block < w.heap.size ∧ ∀ j u, xs[j]? = some u → w.cell? (ad.add j) = some u)

section
variable {w w' : World} {size n : Nat} {A : Option Addr} {xs : List Value} {fp fp' : List Nat}
theorem Reads.zero (w : World) (size : Nat) (A : Option Addr) : Reads w size A 0 [] [] := ⟨by simp, .inl ⟨rfl, rfl⟩⟩
theorem Reads.to (h : Reads w size A n xs fp) (hs : w.heap.size ≤ w'.heap.size) (hk : ∀ k ∈ fp, w'.heap[k]? = w.heap[k]?) : Reads w' size A n xs fp := by
  refine ⟨h.1, ?_⟩
  rcases h.2 with h2 | ⟨ad, e, rfl, hb, hc⟩
  · exact .inl h2
  · exact .inr ⟨ad, e, rfl, by omega, fun j u hu => (World.cell?_of_block (by rw [block_of_add]; exact hk _ (by simp))).trans (hc j u hu)⟩
theorem Reads.lt (h : Reads w size A n xs fp) : ∀ k ∈ fp, k < w.heap.size := by
  rcases h.2 with ⟨_, rfl⟩ | ⟨ad, e, rfl, hb, hc⟩
  · simp
  · simpa using hb
theorem Reads.keeps (h : Reads w size A n xs fp) (hk : Keeps w w' fp') (hd : ∀ k ∈ fp, k ∉ fp') : Reads w' size A n xs fp :=
  h.to hk.size fun k hm => hk.block k (h.lt k hm) (hd k hm)
theorem Reads.drew (h : Reads w size A n xs fp) : Reads w.drew size A n xs fp := h
theorem Reads.drewN (h : Reads w size A n xs fp) (k : Nat) : Reads (w.drewN k) size A n xs fp := h
theorem Reads.set (h : Reads w size A n xs fp) {p : Addr} (hp : p.block ∉ fp) (u : Value) : Reads (w.setCell p u) size A n xs fp :=
  h.to (by simp [World.setCell]) fun k hm => Below.heap_setCell w p u k (by rintro rfl; exact hp hm)
theorem Reads.alloc (h : Reads w size A n xs fp) (o : Obj) : Reads (w.alloc o) size A n xs fp := h.to (by simp) fun k hm => Below.heap_alloc w o k (h.lt k hm)
theorem Reads.at_ {k : Nat} (h : Reads w 1 A n xs fp) (hk : k < n) : ∃ ad u, A = some ad ∧ fp = [ad.block] ∧ ad.block < w.heap.size ∧ xs[k]? = some u ∧ w.cell? (ad.add k) = some u := by
  rcases h.2 with ⟨rfl, _⟩ | ⟨ad, e, rfl, hb, hc⟩
  · omega
  · have hl : k < xs.length := by have := h.1; omega
    exact ⟨ad, xs[k], e, rfl, hb, List.getElem?_eq_getElem hl, hc k _ (List.getElem?_eq_getElem hl)⟩
theorem Reads.cellAt {k : Nat} (h : Reads w 1 A n xs fp) (hk : k < n) : ∃ b o u, A = some ⟨b, o, none⟩ ∧ fp = [b] ∧ b < w.heap.size ∧ xs[k]? = some u ∧ w.cell? ⟨b, o + k, none⟩ = some u := by
  obtain ⟨⟨b, o, sp⟩, u, e, hf, hb, hx, hc⟩ := h.at_ hk
  have hsp : sp = none := by
    obtain ⟨ad0, u0, e0, -, -, -, hc0⟩ := h.at_ (show 0 < n by omega)
    rw [e] at e0
    injection e0 with e0
    subst e0
    simpa [Addr.add] using World.cell?_spot hc0
  subst hsp
  exact ⟨b, o, u, e, hf, hb, hx, by rw [Addr.add_lit] at hc; exact hc⟩
theorem Reads.drop {k cap : Nat} (h : Reads w size A n xs fp) (hk : k ≤ n) (hc : n ≤ cap) :
    ∃ fp1, Reads w size (if cap = k then A else A.map (·.add (k * size))) (n - k) (xs.drop (k * size)) fp1 ∧ ∀ i ∈ fp1, i ∈ fp := by
  rcases Nat.eq_or_lt_of_le hk with rfl | hlt
  · refine ⟨[], ⟨by rw [List.length_drop, h.1, Nat.sub_self, Nat.sub_self, Nat.zero_mul], .inl ⟨by omega, rfl⟩⟩, by simp⟩
  · rcases h.2 with ⟨rfl, _⟩ | ⟨ad, rfl, rfl, hb, hcell⟩
    · omega
    · refine ⟨[ad.block], ⟨by rw [List.length_drop, h.1, Nat.sub_mul], .inr ⟨ad.add (k * size), ?_, ?_, ?_, fun j u hu => ?_⟩⟩, by simp⟩
      · rw [if_neg (by omega)]; rfl
      · rw [block_of_add]
      · rw [block_of_add]; exact hb
      · rw [add_of_add]
        exact hcell _ u (by rw [← hu, List.getElem?_drop])
theorem Reads.take {k : Nat} (h : Reads w size A n xs fp) (hk : k ≤ n) : ∃ fp1, Reads w size A k (xs.take (k * size)) fp1 ∧ ∀ i ∈ fp1, i ∈ fp := by
  rcases Nat.eq_zero_or_pos k with rfl | hpos
  · exact ⟨[], ⟨by simp, .inl ⟨rfl, rfl⟩⟩, by simp⟩
  · rcases h.2 with ⟨rfl, _⟩ | ⟨ad, rfl, rfl, hb, hcell⟩
    · omega
    · refine ⟨[ad.block], ⟨by rw [List.length_take, h.1]; exact Nat.min_eq_left (Nat.mul_le_mul_right _ hk), .inr ⟨ad, rfl, rfl, hb, fun j u hu => hcell j u ?_⟩⟩, by simp⟩
      rw [List.getElem?_take] at hu
      split at hu
      · exact hu
      · cases hu
theorem Reads.src {P : Program} {tx e' : TypeId} (hk : P.underlying tx = some (.slice e')) (h : Reads w size A n xs fp) (h1 : ∀ u ∈ xs, u.oneCell' = true) (c : Nat) : Src P size tx (.slice A n c) n xs w := by
  rcases h.2 with ⟨rfl, rfl⟩ | ⟨ad, rfl, rfl, hb, hcell⟩
  · obtain rfl : xs = [] := List.eq_nil_of_length_eq_zero (by simpa using h.1)
    cases A with
    | none => exact Src.ofNil w hk c
    | some ad => exact Src.ofSlice w hk ad 0 c [] (by simp) (by simp) (by simp)
  · exact Src.ofSlice w hk ad n c xs h.1 hcell h1
end

/-- the elements of a block that is known whole, as a source of append. -/
theorem Blk.src {P : Program} {w : World} {tx e' g t : TypeId} {cs : Array Value} {size n : Nat} (h : Blk w g t cs) (hk : P.underlying tx = some (.slice e')) (c : Nat) (hl : cs.size = n * size) (h1 : ∀ u ∈ cs.toList, u.oneCell' = true) :
    Src P size tx (.slice (some ⟨g, 0, none⟩) n c) n cs.toList w :=
  Src.ofSlice w hk _ n c cs.toList (by simpa using hl) (fun j u hj => by rw [Addr.add_lit, h.cell]; simpa using hj) h1

/-! ## a slice that owns its row, or has no room -/
def Own (w : World) (e : TypeId) (size : Nat) (v : Value) (n : Nat) (xs : List Value) (fp : List Nat) : Prop :=
  xs.length = n * size ∧ ((∃ A, v = .slice A 0 0 ∧ n = 0 ∧ fp = []) ∨
    ∃ g cap cur, v = .slice (some ⟨g, 0, none⟩) n cap ∧ 0 < cap ∧ fp = [g] ∧ Blk w g e cur ∧ n ≤ cap ∧ cap ≤ maxLen ∧ cur.size = cap * size ∧ cur.toList.take (n * size) = xs)

section
variable {w w' : World} {e : TypeId} {size n : Nat} {v : Value} {xs : List Value} {fp fp' : List Nat}
theorem Own.bare (w : World) (e : TypeId) (size : Nat) (A : Option Addr) : Own w e size (.slice A 0 0) 0 [] [] := ⟨by simp, .inl ⟨A, rfl, rfl, rfl⟩⟩
theorem Own.to (h : Own w e size v n xs fp) (hk : ∀ k ∈ fp, w'.heap[k]? = w.heap[k]?) : Own w' e size v n xs fp := by
  refine ⟨h.1, ?_⟩
  rcases h.2 with h2 | ⟨g, cap, cur, rfl, hp, rfl, hb, r⟩
  · exact .inl h2
  · exact .inr ⟨g, cap, cur, rfl, hp, rfl, hb.to (hk g (by simp)), r⟩
theorem Own.lt (h : Own w e size v n xs fp) : ∀ k ∈ fp, k < w.heap.size := by
  rcases h.2 with ⟨_, _, _, rfl⟩ | ⟨g, cap, cur, rfl, hp, rfl, hb, r⟩
  · simp
  · simpa using hb.lt
theorem Own.keeps (h : Own w e size v n xs fp) (hk : Keeps w w' fp') (hd : ∀ k ∈ fp, k ∉ fp') : Own w' e size v n xs fp :=
  h.to fun k hm => hk.block k (h.lt k hm) (hd k hm)
theorem Own.drew (h : Own w e size v n xs fp) : Own w.drew e size v n xs fp := h
theorem Own.drewN (h : Own w e size v n xs fp) (k : Nat) : Own (w.drewN k) e size v n xs fp := h
theorem Own.set (h : Own w e size v n xs fp) {p : Addr} (hp : p.block ∉ fp) (u : Value) : Own (w.setCell p u) e size v n xs fp :=
  h.to fun k hm => Below.heap_setCell w p u k (by rintro rfl; exact hp hm)
theorem Own.alloc (h : Own w e size v n xs fp) (o : Obj) : Own (w.alloc o) e size v n xs fp := h.to fun k hm => Below.heap_alloc w o k (h.lt k hm)
theorem Own.form (h : Own w e size v n xs fp) : ∃ A c, v = .slice A n c ∧ n ≤ c ∧ ∃ fr, Reads w size A n xs fr ∧ ∀ k ∈ fr, k ∈ fp := by
  rcases h.2 with ⟨A, rfl, rfl, rfl⟩ | ⟨g, cap, cur, rfl, hp, rfl, hb, hn, hm, hc, ht⟩
  · exact ⟨A, 0, rfl, Nat.le_refl _, [], ⟨h.1, .inl ⟨rfl, rfl⟩⟩, by simp⟩
  · refine ⟨_, cap, rfl, hn, ?_⟩
    rcases Nat.eq_zero_or_pos n with rfl | hpos
    · exact ⟨[], ⟨h.1, .inl ⟨rfl, rfl⟩⟩, by simp⟩
    · refine ⟨[g], ⟨h.1, .inr ⟨_, rfl, rfl, hb.lt, fun j u hu => ?_⟩⟩, by simp⟩
      rw [Addr.add_lit, hb.cell]
      rw [← ht, List.getElem?_take] at hu
      split at hu
      · simpa using hu
      · cases hu
/-- What a law of the kit leaves ('ownsRow') is mine. -/
theorem Own.ofRow {base : Nat} (h : w.ownsRow base e size v n xs) (hn : 0 < n) : ∃ g, Own w e size v n xs [g] ∧ v.ownBlock = some g := by
  rcases h.2 with ⟨_, h0⟩ | ⟨g, cap, cur, rfl, _, hb, hnc, hm, hs, ht⟩
  · omega
  · exact ⟨g, ⟨h.1, .inr ⟨g, cap, cur, rfl, by omega, rfl, hb, hnc, hm, hs, ht⟩⟩, rfl⟩

/-- append ONTO SUCH A SLICE, from whatever source. -/
theorem run_append_mine {P : Program} (w : World) (t tx ty e : TypeId) (i : TypeInfo) (z : Value) (size bytes : Nat) (ht : P.underlying t = some (.slice e)) (hi : P.info? e = some i) (hz : i.zero = some z)
    (hsize : i.size = size) (hby : i.bytes = bytes) (hzs : z.cells.size = size) (v : Value) (n : Nat) (xs : List Value) (fp : List Nat) (hown : Own w e size v n xs fp)
    (x : Value) (m : Nat) (news : List Value) (hs : Src P size tx x m news w) (h63 : n + m ≤ maxLen) (hbytes : (n + m) * bytes ≤ 140737488355328) :
    ∃ v' w' fp', (Builtin.append_ #[t, tx] ty #[v, x]).run P w = .ok v' w' ∧ Own w' e size v' (n + m) (xs ++ news) fp' ∧ Keeps w w' fp ∧ ∀ k ∈ fp', k ∈ fp ∨ w.heap.size ≤ k := by
  subst hsize
  subst hby
  have hlen : (xs ++ news).length = (n + m) * i.size := by rw [List.length_append, hown.1, hs.newsLen, Nat.add_mul]
  have h63' : ((n + m : Nat) : Int) ≤ 9223372036854775807 := by simp only [maxLen] at h63; omega
  -- the arm that grows
  have grow : ∀ (A : Option Addr) (cap : Nat), v = .slice A n cap → cap < n + m →
      (Builtin.firstCells i.size n (.slice A n cap)).run P w.drew = .ok xs.toArray w.drew →
      ∃ v' w' fp', (Builtin.append_ #[t, tx] ty #[v, x]).run P w = .ok v' w' ∧ Own w' e i.size v' (n + m) (xs ++ news) fp' ∧ Keeps w w' fp ∧ ∀ k ∈ fp', k ∈ fp ∨ w.heap.size ≤ k := by
    rintro A cap rfl hg hold
    have hr := run_append_grow_src (P := P) w t tx ty e i z ht hi hz A n cap xs hold x m news hs hg h63' (growslice_fits hg hbytes)
    have hge := grownCap_ge w (n + m) cap e
    have hcm : grownCap w (n + m) cap e ≤ maxLen := grownCap_le_maxLen w (n + m) cap e h63
    refine ⟨_, _, [w.heap.size], hr, ⟨hlen, .inr ⟨w.heap.size, _, _, rfl, by omega, rfl, Blk.new w.drew _ _, hge, hcm, ?_, ?_⟩⟩, ((Keeps.refl w fp).drew).alloc _, by simp⟩
    · simp only [Array.size_append, List.size_toArray, size_zeroCells, hzs, hlen, ← Nat.add_mul]
      congr 1
      omega
    · simp only [Array.toList_append]
      rw [← hlen]
      exact List.take_left
  rcases hown.2 with ⟨A, rfl, rfl, rfl⟩ | ⟨g, cap, cur, rfl, hp, rfl, hb, hnc, hcm, hcs, htake⟩
  · obtain rfl : xs = [] := List.eq_nil_of_length_eq_zero (by simpa using hown.1)
    rcases Nat.eq_zero_or_pos m with rfl | hm
    · obtain rfl : news = [] := List.eq_nil_of_length_eq_zero (by simpa using hs.newsLen)
      refine ⟨.slice A 0 0, w, [], ?_, by simpa using Own.bare w e i.size A, Keeps.refl _ _, by simp⟩
      rcases hs.kind with ⟨e', hk⟩ | hk <;> cases A <;>
        simp [Builtin.append_, run_underlying ht, run_underlying hk, sizeOf, typeInfo, hi, hs.len, hs.cells, storeCells]
    · exact grow A 0 rfl (by omega) (by
        cases A with
        | none => exact run_firstCells_none w.drew _ _ _ _
        | some a => exact run_firstCells_some w.drew i.size 0 a 0 0 [] (by simp) (by simp))
  · by_cases hroom : n + m ≤ cap
    · have hfit : n * i.size + news.length ≤ cur.size := by rw [hs.newsLen, hcs, ← Nat.add_mul]; exact Nat.mul_le_mul_right _ hroom
      have hst := run_storeCells_at P g (n * i.size) e news 0 cur w hb (by simpa using hfit) hs.one
      simp only [Nat.add_zero] at hst
      have hr : (Builtin.append_ #[t, tx] ty #[.slice (some ⟨g, 0, none⟩) n cap, x]).run P w =
          .ok (.slice (some ⟨g, 0, none⟩) (n + m) cap) (w.setRow g (cur.toList.take (n * i.size) ++ news ++ cur.toList.drop (n * i.size + news.length)).toArray) := by
        rcases hs.kind with ⟨e', hk⟩ | hk <;>
          simp [Builtin.append_, run_underlying ht, run_underlying hk, sizeOf, typeInfo, hi, hs.len, hroom, hs.cells, Addr.add_lit, hst]
      refine ⟨_, _, [g], hr, ⟨hlen, .inr ⟨g, cap, _, rfl, hp, rfl, setRow_heap w g cur _ e _ hb, hroom, hcm, ?_, ?_⟩⟩, ⟨rfl, rfl, rfl, by simp, fun k _ hk => setRow_other w g k _ (fun e => hk (by simp [e]))⟩, by simp⟩
      · simp only [List.size_toArray, List.length_append, List.length_take, List.length_drop, Array.length_toList]
        omega
      · rw [htake, ← hlen]
        simp only
        exact List.take_left
    · refine grow _ cap rfl (by omega) ?_
      refine run_firstCells_some w.drew i.size n _ n cap xs hown.1 (fun j u hu => ?_)
      rw [Addr.add_lit]
      show w.cell? _ = _
      rw [hb.cell]
      rw [← htake, List.getElem?_take] at hu
      split at hu
      · simpa using hu
      · cases hu
end

section
variable {P : Program} (w : World)
theorem wp_append_mine {o : Oper} {a : Act} {K : Act → World → Prop} {Q : Exit → Act → World → Prop} (s x : Operand) (t tx : TypeId)
    (ho : o.op = .call { callee := .builtin .append, args := #[s, x], argTypes := #[t, tx] })
    (e : TypeId) (i : TypeInfo) (z : Value) (size bytes : Nat) (ht : P.underlying t = some (.slice e)) (hi : P.info? e = some i) (hz : i.zero = some z)
    (hsize : i.size = size) (hby : i.bytes = bytes) (hzs : z.cells.size = size) (v : Value) (n : Nat) (xs : List Value) (fp : List Nat) (hv : a.eval s = v) (hown : Own w e size v n xs fp)
    (y : Value) (m : Nat) (news : List Value) (hx : a.eval x = y) (hs : Src P size tx y m news w) (h63 : n + m ≤ maxLen) (hbytes : (n + m) * bytes ≤ 140737488355328)
    (h : ∀ v' w' fp', Own w' e size v' (n + m) (xs ++ news) fp' → Keeps w w' fp → (∀ k ∈ fp', k ∈ fp ∨ w.heap.size ≤ k) → K (a.put o.dst v') w') : o.wp P a w K Q := by
  obtain ⟨v', w', fp', hrun, h2, h3, h4⟩ := run_append_mine (P := P) w t tx o.type e i z size bytes ht hi hz hsize hby hzs v n xs fp hown y m news hs h63 hbytes
  unfold Oper.wp execOp
  simp only [ho, resolve, invoke, builtin, Sem.run_bind, Sem.run_pure, Result.andThen_ok, List.map_toArray, List.map_cons, List.map_nil, hv, hx, hrun]
  exact h v' w' fp' h2 h3 h4

theorem wpList_append_mine {ops : Array Oper} {rest : List Oper} {o : Oper} {a : Act} {Q : Exit → Act → World → Prop} (hgd : o.guard = none) (s x : Operand) (t tx : TypeId)
    (ho : o.op = .call { callee := .builtin .append, args := #[s, x], argTypes := #[t, tx] })
    (e : TypeId) (i : TypeInfo) (z : Value) (size bytes : Nat) (ht : P.underlying t = some (.slice e)) (hi : P.info? e = some i) (hz : i.zero = some z)
    (hsize : i.size = size) (hby : i.bytes = bytes) (hzs : z.cells.size = size) (v : Value) (n : Nat) (xs : List Value) (fp : List Nat) (hv : a.eval s = v) (hown : Own w e size v n xs fp)
    (y : Value) (m : Nat) (news : List Value) (hx : a.eval x = y) (hs : Src P size tx y m news w) (h63 : n + m ≤ maxLen) (hbytes : (n + m) * bytes ≤ 140737488355328)
    (h : ∀ v' w' fp', Own w' e size v' (n + m) (xs ++ news) fp' → Keeps w w' fp → (∀ k ∈ fp', k ∈ fp ∨ w.heap.size ≤ k) → wpList P ops Q rest (a.put o.dst v') w') : wpList P ops Q (o :: rest) a w :=
  wpList_plain hgd fun _ hK => wp_append_mine w s x t tx ho e i z size bytes ht hi hz hsize hby hzs v n xs fp hv hown y m news hx hs h63 hbytes fun v' w' fp' h2 h3 h4 => hK _ _ (h v' w' fp' h2 h3 h4)

theorem step_append_mine {ops : Array Oper} {o : Oper} {a : Act} {K : Act → World → Prop} {Q : Exit → Act → World → Prop} {E : Prop} (hgd : o.guard = none) (s x : Operand) (t tx : TypeId)
    (ho : o.op = .call { callee := .builtin .append, args := #[s, x], argTypes := #[t, tx] })
    (e : TypeId) (i : TypeInfo) (z : Value) (size bytes : Nat) (ht : P.underlying t = some (.slice e)) (hi : P.info? e = some i) (hz : i.zero = some z)
    (hsize : i.size = size) (hby : i.bytes = bytes) (hzs : z.cells.size = size) (v : Value) (n : Nat) (xs : List Value) (fp : List Nat) (hv : a.eval s = v) (hown : Own w e size v n xs fp)
    (y : Value) (m : Nat) (news : List Value) (hx : a.eval x = y) (hs : Src P size tx y m news w) (h63 : n + m ≤ maxLen) (hbytes : (n + m) * bytes ≤ 140737488355328)
    (h : ∀ v' w' fp', Own w' e size v' (n + m) (xs ++ news) fp' → Keeps w w' fp → (∀ k ∈ fp', k ∈ fp ∨ w.heap.size ≤ k) → K (a.put o.dst v') w') :
    if Region.wanted o (yielded ops a.tmps) = true then Oper.wp P o a w K Q else E := by
  have hw : Region.wanted o (yielded ops a.tmps) = true := by simp [Region.wanted, hgd]
  rw [if_pos hw]
  exact wp_append_mine w s x t tx ho e i z size bytes ht hi hz hsize hby hzs v n xs fp hv hown y m news hx hs h63 hbytes h
end

end Go.Proofs.Ytbfcgiodpcchnaa
