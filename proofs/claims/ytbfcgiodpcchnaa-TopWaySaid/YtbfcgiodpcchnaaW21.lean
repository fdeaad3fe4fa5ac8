/-
  PLAIN: the stanzas of TopWay are one element each.
-/
import Derived.Test.YtbfcgiodpcchnaaW18
import Derived.Test.YtbfcgiodpcchnaaW20
namespace Go.Proofs.Ytbfcgiodpcchnaa
open Go.RowKit
set_option linter.unusedVariables false

instance (c : Nat) : Decidable (partC c) := by unfold partC; infer_instance
instance (i c : Nat) : Decidable (nameC i c) := by unfold nameC; infer_instance
instance (s : ByteArray) : Decidable (isName s) := by unfold isName; infer_instance
instance (s : ByteArray) : Decidable (plainT s) := by unfold plainT; infer_instance
theorem part_plain : ∀ c, c < 256 → partC c → 32 < c ∧ c < 127 := by decide +kernel
def allP (l : List UInt8) : Prop := ∀ b ∈ l, 32 < b.toNat ∧ b.toNat < 127
theorem allP_part {s : ByteArray} (h : isPart s) : allP s.data.toList := by
  intro b hb
  obtain ⟨i, hi⟩ := List.getElem?_of_mem hb
  have hlt : i < s.size := by have := (List.getElem?_eq_some_iff.1 hi).1; simpa using this
  have h1 := h.1 i hlt
  have e : byteAt s i = b.toNat := by unfold byteAt; rw [List.getD_eq_getElem?_getD, hi]; rfl
  rw [e] at h1
  exact part_plain _ b.toNat_lt h1
theorem plain_of {s : ByteArray} (h : allP s.data.toList) (hs : s.size ≤ 512) : plainT s := by
  refine ⟨fun i hi => ?_, hs⟩
  have hlt : i < s.data.toList.length := by simpa using hi
  have e : byteAt s i = (s.data.toList[i]).toNat := by unfold byteAt; rw [List.getD_eq_getElem?_getD, List.getElem?_eq_getElem hlt]; rfl
  rw [e]
  exact h _ (List.getElem_mem hlt)
theorem allP_append {a b : ByteArray} (h : allP a.data.toList) (k : allP b.data.toList) : allP (a ++ b).data.toList := by
  intro x hx
  rw [ByteArray.data_append, Array.toList_append] at hx
  rcases List.mem_append.1 hx with h1 | h1
  · exact h x h1
  · exact k x h1
theorem plain_join {l d r : ByteArray} (h : isRight l d r) : plainT (joinB l d r) := by
  refine plain_of ?_ (by have := h.2.2.2; omega)
  have hd := allP_part h.1
  have h64 : allP (⟨#[64]⟩ : ByteArray).data.toList := by intro b hb; simp at hb; subst hb; decide
  have h47 : allP (⟨#[47]⟩ : ByteArray).data.toList := by intro b hb; simp at hb; subst hb; decide
  have hl : l.size ≠ 0 → allP l.data.toList := fun h0 => by
    rcases h.2.1 with h1 | h1
    · exact absurd h1 h0
    · exact allP_part h1
  have hr : r.size ≠ 0 → allP r.data.toList := fun h0 => by
    rcases h.2.2.1 with h1 | h1
    · exact absurd h1 h0
    · exact allP_part h1
  unfold joinB
  split
  · split
    · exact hd
    · rename_i h2
      exact allP_append (allP_append (hl h2) h64) hd
  · rename_i h1
    refine allP_append (allP_append ?_ h47) (hr h1)
    split
    · exact hd
    · rename_i h2
      exact allP_append (allP_append (hl h2) h64) hd

theorem cond_good : ∀ c, c ≤ 10 → 1 ≤ c → isName (condName c) ∧ plainT (condType c) := by decide +kernel
theorem name_consts : isName iqT ∧ isName errorT ∧ isName ⟨#[116, 121, 112, 101]⟩ ∧ isName ⟨#[102, 114, 111, 109]⟩ ∧ isName ⟨#[116, 111]⟩ ∧ isName ⟨#[105, 100]⟩ := by decide +kernel
theorem plain_consts : plainT setT ∧ plainT errorT ∧ plainT resultT ∧ plainT ⟨#[55]⟩ := by decide +kernel
theorem good_head {ty f t id : ByteArray} (h1 : plainT ty) (h2 : plainT f) (h3 : plainT t) (h4 : plainT id) : goodAttrs (headL ty f t id) := by
  refine ⟨by simp [headL], ?_, ?_⟩
  · intro p hp
    simp [headL] at hp
    rcases hp with rfl | rfl | rfl | rfl
    · exact ⟨name_consts.2.2.1, h1⟩
    · exact ⟨name_consts.2.2.2.1, h2⟩
    · exact ⟨name_consts.2.2.2.2.1, h3⟩
    · exact ⟨name_consts.2.2.2.2.2, h4⟩
  · simp [headL]
theorem good_one {kd : ByteArray} (h : plainT kd) : goodAttrs [(⟨#[116, 121, 112, 101]⟩, kd)] := by
  refine ⟨by simp, ?_, by simp⟩
  intro p hp
  obtain rfl : p = (⟨#[116, 121, 112, 101]⟩, kd) := by simpa using hp
  exact ⟨name_consts.2.2.1, h⟩
theorem good_none : goodAttrs [] := ⟨by simp, by simp, by simp⟩
theorem one_two {ty f t id : ByteArray} (h1 : plainT ty) (h2 : plainT f) (h3 : plainT t) (h4 : plainT id) : oneElement (stanzaT ty f t id []) := by
  have hh := good_head h1 h2 h3 h4
  refine ⟨⟨by simp [stanzaT], ?_⟩, by simp [stanzaT, opens], ?_⟩
  · intro i x hx
    rcases i with _ | _ | i
    · obtain rfl : _ = x := by simpa [stanzaT] using hx
      exact ⟨⟨name_consts.1, rfl, .inl ⟨rfl, hh⟩⟩, .inl ⟨rfl, by simp [opens]⟩⟩
    · obtain rfl : _ = x := by simpa [stanzaT] using hx
      exact ⟨⟨name_consts.1, rfl, .inr ⟨rfl, rfl⟩⟩, .inr ⟨rfl, by simp [opens, stanzaT]⟩⟩
    · simp [stanzaT] at hx
  · intro k hk hk2
    have : k = 1 := by simp [stanzaT] at hk2; omega
    subst this
    simp [opens, stanzaT]
theorem one_six {ty f t id nm kd : ByteArray} (h1 : plainT ty) (h2 : plainT f) (h3 : plainT t) (h4 : plainT id) (h5 : isName nm) (h6 : plainT kd) : oneElement (stanzaT ty f t id (errT nm kd)) := by
  have hh := good_head h1 h2 h3 h4
  refine ⟨⟨by simp [stanzaT, errT], ?_⟩, by simp [stanzaT, opens, errT], ?_⟩
  · intro i x hx
    rcases i with _ | _ | _ | _ | _ | _ | i
    · obtain rfl : _ = x := by simpa [stanzaT, errT] using hx
      exact ⟨⟨name_consts.1, rfl, .inl ⟨rfl, hh⟩⟩, .inl ⟨rfl, by simp [opens]⟩⟩
    · obtain rfl : _ = x := by simpa [stanzaT, errT] using hx
      exact ⟨⟨name_consts.2.1, rfl, .inl ⟨rfl, good_one h6⟩⟩, .inl ⟨rfl, by simp [opens, stanzaT, errT]⟩⟩
    · obtain rfl : _ = x := by simpa [stanzaT, errT] using hx
      exact ⟨⟨h5, rfl, .inl ⟨rfl, good_none⟩⟩, .inl ⟨rfl, by simp [opens, stanzaT, errT]⟩⟩
    · obtain rfl : _ = x := by simpa [stanzaT, errT] using hx
      exact ⟨⟨h5, rfl, .inr ⟨rfl, rfl⟩⟩, .inr ⟨rfl, by simp [opens, stanzaT, errT]⟩⟩
    · obtain rfl : _ = x := by simpa [stanzaT, errT] using hx
      exact ⟨⟨name_consts.2.1, rfl, .inr ⟨rfl, rfl⟩⟩, .inr ⟨rfl, by simp [opens, stanzaT, errT]⟩⟩
    · obtain rfl : _ = x := by simpa [stanzaT, errT] using hx
      exact ⟨⟨name_consts.1, rfl, .inr ⟨rfl, rfl⟩⟩, .inr ⟨rfl, by simp [opens, stanzaT, errT]⟩⟩
    · simp [stanzaT, errT] at hx
  · intro k hk hk2
    have h6 : k < 6 := by simpa [stanzaT, errT] using hk2
    obtain rfl | rfl | rfl | rfl | rfl : k = 1 ∨ k = 2 ∨ k = 3 ∨ k = 4 ∨ k = 5 := by omega
    all_goals simp [opens, stanzaT, errT]

end Go.Proofs.Ytbfcgiodpcchnaa
