/-
  TOKENS IN MEMORY, by types; write.right of a good token.
-/
import Derived.Test.YtbfcgiodpcchnaaW10
namespace Go.Proofs.Ytbfcgiodpcchnaa
open Go.RowKit
set_option linter.unusedVariables false

def AttrsAt (w : World) (A : Option Addr) (c : Nat) (l : AL) : Prop := l.length ≤ c ∧ (l = [] ∨ ∃ b cur, A = some ⟨b, 0, none⟩ ∧ Blk w b 56 cur ∧ ∀ (j : Nat) u, (attrsC l)[j]? = some u → cur[j]? = some u)
def ToksAt (w : World) (A : Option Addr) (n c : Nat) (ts : List TV) : Prop := ts.length = n ∧ n ≤ c ∧ (n = 0 ∨ ∃ b cur, A = some ⟨b, 0, none⟩ ∧ Blk w b 66 cur ∧ ∀ (j : Nat) u, (tvsC ts)[j]? = some u → cur[j]? = some u) ∧ ∀ t ∈ ts, AttrsAt w t.A t.c t.attrs
theorem AttrsAt.tk {w w' : World} {A : Option Addr} {c : Nat} {l : AL} (h : AttrsAt w A c l) (k : TK w w') : AttrsAt w' A c l := by
  refine ⟨h.1, ?_⟩
  rcases h.2 with h | ⟨b, cur, h1, h2, h3⟩
  · exact .inl h
  · exact .inr ⟨b, cur, h1, k.blk h2 (by decide), h3⟩
theorem ToksAt.tk {w w' : World} {A : Option Addr} {n c : Nat} {ts : List TV} (h : ToksAt w A n c ts) (k : TK w w') : ToksAt w' A n c ts := by
  refine ⟨h.1, h.2.1, ?_, fun t ht => (h.2.2.2 t ht).tk k⟩
  rcases h.2.2.1 with h | ⟨b, cur, h1, h2, h3⟩
  · exact .inl h
  · exact .inr ⟨b, cur, h1, k.blk h2 (by decide), h3⟩
theorem attrsC_length (l : AL) : (attrsC l).length = l.length * 2 := flat_length attrC 2 attrC_length l
theorem AttrsAt.reads {w : World} {A : Option Addr} {c : Nat} {l : AL} (h : AttrsAt w A c l) : ∃ fp, Reads w 2 A l.length (attrsC l) fp := by
  rcases h.2 with rfl | ⟨b, cur, rfl, h2, h3⟩
  · exact ⟨[], Reads.zero _ _ _⟩
  · rcases Nat.eq_zero_or_pos l.length with h0 | h0
    · obtain rfl := List.eq_nil_of_length_eq_zero h0
      exact ⟨[], Reads.zero _ _ _⟩
    · refine ⟨[b], attrsC_length l, .inr ⟨⟨b, 0, none⟩, rfl, rfl, h2.lt, fun j u hu => ?_⟩⟩
      rw [Addr.add_lit, Nat.zero_add, h2.cell]
      exact h3 j u hu
theorem right_tok (t : TV) (w : World) (hg : goodTok t.tok) (ha : AttrsAt w t.A t.c t.attrs) :
    Calls Try.prog 38 #[.agg #[.int .u8 t.kind, .string t.name, .slice t.A t.attrs.length t.c, .string t.text]] w fun e w' => e = .returned (.bool true) ∧ Keeps w w' [] := by
  obtain ⟨k, nm, A, c, l, tx⟩ := t
  obtain ⟨h1, h2, h3⟩ := hg
  simp only [TV.tok] at h1 h2 h3
  subst h2
  rcases h3 with ⟨rfl, h3⟩ | ⟨rfl, rfl⟩
  · obtain ⟨fp, hr⟩ := ha.reads
    exact right_begin nm A c l fp w h1 h3 hr ha.1
  · exact right_end nm A c w h1
/-- a token's four cells. -/
theorem ToksAt.at_ {w : World} {A : Option Addr} {n c : Nat} {ts : List TV} (h : ToksAt w A n c ts) {i : Nat} {t : TV} (ht : ts[i]? = some t) :
    ∃ b, A = some ⟨b, 0, none⟩ ∧ b < w.heap.size ∧ w.cell? ⟨b, i * 4, none⟩ = some (.int .u8 t.kind) ∧ w.cell? ⟨b, i * 4 + 1, none⟩ = some (.string t.name) ∧ w.cell? ⟨b, i * 4 + 2, none⟩ = some (.slice t.A t.attrs.length t.c) ∧ w.cell? ⟨b, i * 4 + 3, none⟩ = some (.string t.text) := by
  have hl := (List.getElem?_eq_some_iff.1 ht).1
  rcases h.2.2.1 with h0 | ⟨b, cur, rfl, hb, hc⟩
  · have := h.1; omega
  · have g := fun j u => flat_get (f := TV.cells) (size := 4) TV.cells_length ht j u
    refine ⟨b, rfl, hb.lt, ?_, ?_, ?_, ?_⟩
    · rw [hb.cell]; exact hc _ _ (g 0 _ rfl)
    · rw [hb.cell]; exact hc _ _ (g 1 _ rfl)
    · rw [hb.cell]; exact hc _ _ (g 2 _ rfl)
    · rw [hb.cell]; exact hc _ _ (g 3 _ rfl)

end Go.Proofs.Ytbfcgiodpcchnaa
