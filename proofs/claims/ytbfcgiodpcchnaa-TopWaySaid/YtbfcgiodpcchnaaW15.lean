/-
  PIECES: tokens in memory that are written.
-/
import Derived.Test.YtbfcgiodpcchnaaW12
namespace Go.Proofs.Ytbfcgiodpcchnaa
open Go.RowKit
set_option linter.unusedVariables false
attribute [local go_sem] Oper.semAt_some

theorem info_token2 : (Try.prog.info? 66).map (fun i => (i.zero, i.size, i.bytes)) = some (some (.agg #[.int .u8 0, .string ⟨#[]⟩, .slice none 0 0, .string ⟨#[]⟩]), 4, 64) := by kernel_rfl
theorem tvsC_length (l : List TV) : (tvsC l).length = l.length * 4 := flat_length TV.cells 4 TV.cells_length l
def TV.with_ (t : TV) (A : Option Addr) (c : Nat) : TV := { t with A := A, c := c }
theorem TV.with_tok (t : TV) (A : Option Addr) (c : Nat) : (t.with_ A c).tok = t.tok := rfl
theorem TV.with_attrs (t : TV) (A : Option Addr) (c : Nat) : (t.with_ A c).attrs = t.attrs := rfl
theorem tvsC_set : ∀ (ts : List TV) (i : Nat) (t : TV) (A : Option Addr) (c : Nat), ts[i]? = some t → tvsC (ts.set i (t.with_ A c)) = (tvsC ts).set (i * 4 + 2) (.slice A t.attrs.length c)
  | [], i, t, A, c, h => by simp at h
  | x :: r, 0, t, A, c, h => by
    have : x = t := by simpa using h
    subst this
    rfl
  | x :: r, i + 1, t, A, c, h => by
    have ih := tvsC_set r i t A c (by simpa using h)
    rw [List.set_cons_succ]
    show x.cells ++ tvsC (r.set i (t.with_ A c)) = (x.cells ++ tvsC r).set ((i + 1) * 4 + 2) _
    rw [ih, List.set_append_right _ _ (by rw [TV.cells_length]; omega), TV.cells_length]
    congr 2
    omega
theorem map_tok_set (ts : List TV) (i : Nat) (t : TV) (A : Option Addr) (c : Nat) (h : ts[i]? = some t) : (ts.set i (t.with_ A c)).map TV.tok = ts.map TV.tok := by
  rw [List.map_set, TV.with_tok]
  apply List.ext_getElem?
  intro j
  rw [List.getElem?_set]
  split
  · rename_i e
    subst e
    rw [List.getElem?_map, h]
    split
    · rfl
    · rename_i h2
      exfalso
      apply h2
      rw [List.length_map]
      exact (List.getElem?_eq_some_iff.1 h).1
  · rfl
theorem AttrsAt.far {w : World} {A : Option Addr} {c : Nat} {l : AL} (h : AttrsAt w A c l) {g : Nat} {cur : Array Value} (hg : Blk w g 66 cur) (j : Nat) (u : Value) : AttrsAt (w.setCell ⟨g, j, none⟩ u) A c l := by
  refine ⟨h.1, ?_⟩
  rcases h.2 with h | ⟨b, cb, h1, h2, h3⟩
  · exact .inl h
  · refine .inr ⟨b, cb, h1, h2.far (fun e => ?_) u, h3⟩
    have e' : b = g := e
    subst e'
    have h5 : w.heap[b]? = some (.cells cur 66) := hg
    have h6 : w.heap[b]? = some (.cells cb 56) := h2
    rw [h5] at h6
    cases h6
theorem ToksAt.put {w : World} {g n c : Nat} {ts : List TV} (h : ToksAt w (some ⟨g, 0, none⟩) n c ts) {i : Nat} {t : TV} (ht : ts[i]? = some t) {A : Option Addr} {c' : Nat} (ha : AttrsAt w A c' t.attrs) :
    ToksAt (w.setCell ⟨g, i * 4 + 2, none⟩ (.slice A t.attrs.length c')) (some ⟨g, 0, none⟩) n c (ts.set i (t.with_ A c')) := by
  have hl := (List.getElem?_eq_some_iff.1 ht).1
  rcases h.2.2.1 with h0 | ⟨b, cur, he, hb, hc⟩
  · have := h.1; omega
  · obtain rfl : g = b := by simpa using he
    refine ⟨by rw [List.length_set]; exact h.1, h.2.1, .inr ⟨g, _, rfl, hb.set_ _ _, ?_⟩, ?_⟩
    · intro j u hu
      rw [tvsC_set ts i t A c' ht] at hu
      by_cases e : j = i * 4 + 2
      · subst e
        have hlt : i * 4 + 2 < (tvsC ts).length := by rw [tvsC_length]; omega
        rw [List.getElem?_set_self hlt] at hu
        have hcur : i * 4 + 2 < cur.size := by
          have := hc (i * 4 + 2) _ (List.getElem?_eq_getElem hlt)
          exact (Array.getElem?_eq_some_iff.1 this).1
        rw [Array.getElem?_setIfInBounds_self_of_lt hcur]
        exact hu
      · rw [List.getElem?_set_ne (fun h => e h.symm)] at hu
        rw [Array.getElem?_setIfInBounds_ne (fun h => e h.symm)]
        exact hc j u hu
    · intro t' ht'
      rcases List.mem_or_eq_of_mem_set ht' with h1 | h1
      · exact (h.2.2.2 t' h1).far hb _ _
      · subst h1
        exact ha.far hb _ _
theorem ToksAt.froz {w : World} {g n c : Nat} {ts : List TV} (h : ToksAt w (some ⟨g, 0, none⟩) n c ts) (hn : 0 < n) (j : Nat) : w.frozen? ⟨g, j, none⟩ = false := by
  rcases h.2.2.1 with h0 | ⟨b, cur, he, hb, hc⟩
  · omega
  · obtain rfl : g = b := by simpa using he
    exact hb.frozen j
theorem ToksAt.ofOwn {w : World} {A : Option Addr} {n c : Nat} {ts : List TV} {fp : List Nat} (h : Own w 66 4 (.slice A n c) n (tvsC ts) fp) (ha : ∀ t ∈ ts, AttrsAt w t.A t.c t.attrs) : ToksAt w A n c ts := by
  have hl : ts.length = n := by have := h.1; rw [tvsC_length] at this; omega
  rcases h.2 with ⟨A', hv, h0, -⟩ | ⟨g, cap, cur, hv, hp, rfl, hb, hn, hm, hc, ht⟩
  · exact ⟨hl, by omega, .inl h0, ha⟩
  · simp only [Value.slice.injEq] at hv
    obtain ⟨rfl, -, rfl⟩ := hv
    refine ⟨hl, hn, .inr ⟨g, cur, rfl, hb, fun j u hu => ?_⟩, ha⟩
    rw [← ht, List.getElem?_take] at hu
    split at hu
    · simpa using hu
    · cases hu
theorem ToksAt.reads {w : World} {A : Option Addr} {n c : Nat} {ts : List TV} (h : ToksAt w A n c ts) : ∃ fp, Reads w 4 A n (tvsC ts) fp ∧ ∀ k ∈ fp, ∃ cur, w.heap[k]? = some (.cells cur 66) := by
  rcases h.2.2.1 with h0 | ⟨b, cur, rfl, h2, h3⟩
  · have h1 := h.1
    rw [h0] at h1 ⊢
    obtain rfl := List.eq_nil_of_length_eq_zero h1
    exact ⟨[], Reads.zero _ _ _, by simp⟩
  · rcases Nat.eq_zero_or_pos n with h0 | h0
    · have h1 := h.1
      rw [h0] at h1 ⊢
      obtain rfl := List.eq_nil_of_length_eq_zero h1
      exact ⟨[], Reads.zero _ _ _, by simp⟩
    · refine ⟨[b], ⟨by rw [tvsC_length, h.1], .inr ⟨⟨b, 0, none⟩, rfl, rfl, h2.lt, fun j u hu => ?_⟩⟩, fun k hk => ⟨cur, ?_⟩⟩
      · rw [Addr.add_lit, Nat.zero_add, h2.cell]
        exact h3 j u hu
      · obtain rfl : k = b := by simpa using hk
        exact h2
/-- attributes that a Clone left. -/
theorem AttrsAt.ofOwn {w : World} {A : Option Addr} {c : Nat} {l : AL} {fp : List Nat} (h : Own w 56 2 (.slice A l.length c) l.length (attrsC l) fp) : AttrsAt w A c l := by
  rcases h.2 with ⟨A', hv, h0, -⟩ | ⟨g, cap, cur, hv, hp, rfl, hb, hn, hm, hc, ht⟩
  · exact ⟨by omega, .inl (List.eq_nil_of_length_eq_zero h0)⟩
  · simp only [Value.slice.injEq] at hv
    obtain ⟨rfl, -, rfl⟩ := hv
    refine ⟨hn, .inr ⟨g, cur, rfl, hb, fun j u hu => ?_⟩⟩
    rw [← ht, List.getElem?_take] at hu
    split at hu
    · simpa using hu
    · cases hu
theorem AttrsAt.nil (w : World) (A : Option Addr) (c : Nat) : AttrsAt w A c [] := ⟨Nat.zero_le _, .inl rfl⟩
theorem ToksAt.nil (w : World) (A : Option Addr) (c : Nat) : ToksAt w A 0 c [] := ⟨rfl, Nat.zero_le _, .inl rfl, by simp⟩
/-- what a maker of tokens leaves. -/
def NewToks (w : World) (T : List Tok) (e : Ending) (w' : World) : Prop :=
  ∃ A c ts, e = .returned (.slice A T.length c) ∧ ToksAt w' A T.length c ts ∧ ts.map TV.tok = T ∧ Keeps w w' []
/-- tokens new since a world. -/
def Fresh (B : Nat) (A : Option Addr) (n : Nat) : Prop := n = 0 ∨ ∃ b, A = some ⟨b, 0, none⟩ ∧ B ≤ b

end Go.Proofs.Ytbfcgiodpcchnaa
