/-
  CONTRACTS: slices.Clone at []string, the methods of ack.Queue.
-/
import Derived.Test.YtgkbkggegdmcgaaProg
import Derived.Test.YtgkbkggegdmcgaaMem
import Derived.Lib.Hide
import Derived.Lib.SliceRun
import Derived.WalkLawsBesides
import Derived.WalkSpells
import Derived.IntWalk
import Derived.Outline
import Derived.LoopTactic
namespace Go.Proofs.Ytgkbkggegdmcgaa
open Go.RowKit
set_option linter.unusedVariables false

theorem strInfo : (Try.prog.info? 9).map (fun i => (i.zero, i.size, i.bytes)) = some (some (.string ⟨#[]⟩), 1, 16) := by kernel_rfl

/-- A list of strings as cells. -/
def strs (ss : List ByteArray) : List Value := ss.map Value.string
theorem strs_one (ss : List ByteArray) : ∀ u ∈ strs ss, u.oneCell' = true := by
  intro u hu
  obtain ⟨s, _, rfl⟩ := List.mem_map.1 hu
  rfl
theorem strs_length (ss : List ByteArray) : (strs ss).length = ss.length := by simp [strs]

/-- what a call that makes a new slice of strings of its own leaves. -/
def NewStrs (w : World) (n : Nat) (ss : List ByteArray) (e : Ending) (w' : World) : Prop :=
  ∃ v fv, e = .returned v ∧ Own w' 9 1 v n (strs ss) fv ∧ Keeps w w' [] ∧ ∀ k ∈ fv, w.heap.size ≤ k

set_option maxHeartbeats 400000 in
theorem clone_calls (A : Option Addr) (n c : Nat) (ss : List ByteArray) (fp : List Nat) (w : World) (hr : Reads w 1 A n (strs ss) fp) (hn : n ≤ 1000000) :
    Calls Try.prog 27 #[.slice A n c] w (NewStrs w n ss) := by
  obtain ⟨i0, hi, hz0, hz1, hz2⟩ := info_parts strInfo
  have heq := fun (w : World) (a : Option Addr) (n c : Nat) => Lib.run_eql_slice_nil (P := Try.prog) w 22 9 a n c 0 0 Try.underlying22
  cases A with
  | none =>
    obtain rfl : n = 0 := by
      rcases hr.2 with ⟨h, _⟩ | ⟨ad, h, _⟩
      · exact h
      · cases h
    obtain rfl : ss = [] := List.eq_nil_of_length_eq_zero (by simpa [strs] using hr.1)
    go_enter Try.func27, Try.ntmps27
    go_wp2_with fail
    go_ret
    exact ⟨_, [], rfl, Own.bare _ _ _ _, Keeps.refl _ _, by simp⟩
  | some ad =>
    go_enter Try.func27, Try.ntmps27
    go_wp2_with (at_builtin; refine wpList_append_mine _ rfl (.tmp 5) (.tmp 6) _ _ rfl 9 i0 _ 1 16 Try.underlying22 hi hz0 hz1 hz2 rfl _ 0 [] [] rfl (Own.bare _ _ _ _) _ n (strs ss) rfl ?src ?c1 ?c2 ?next)
    case src => exact (hr.to (by simp) (fun k hk => Below.heap_alloc _ _ _ (hr.lt k hk))).src Try.underlying22 (strs_one ss) c
    case c1 => unfold maxLen; omega
    case c2 => omega
    case next =>
      intro v w1 fv hown hkeep hfv
      go_wp2_with fail
      go_ret
      refine ⟨_, fv, rfl, by simpa using hown, ((Keeps.refl w []).alloc _).trans hkeep (by simp), fun k hk => ?_⟩
      have := hfv k hk
      omega


/-- The queue at block b: how many were sent, how many were got, what waits; its blocks. -/
def QRep (w : World) (b : Nat) (sent got : Int) (ss : List ByteArray) (fp : List Nat) : Prop :=
  ∃ v fv, Blk w b 58 #[.int .u32 sent, .int .u32 got, v] ∧ Own w 9 1 v ss.length (strs ss) fv ∧ b ∉ fv ∧ fp = b :: fv

section
variable {w w' : World} {b : Nat} {sent got : Int} {ss : List ByteArray} {fp fp' : List Nat}
theorem QRep.lt (h : QRep w b sent got ss fp) : ∀ k ∈ fp, k < w.heap.size := by
  obtain ⟨v, fv, hb, ho, _, rfl⟩ := h
  intro k hk
  rcases List.mem_cons.1 hk with rfl | hk
  · exact hb.lt
  · exact ho.lt k hk
theorem QRep.keeps (h : QRep w b sent got ss fp) (hk : Keeps w w' fp') (hd : ∀ k ∈ fp, k ∉ fp') : QRep w' b sent got ss fp := by
  obtain ⟨v, fv, hb, ho, hn, rfl⟩ := h
  exact ⟨v, fv, hb.keeps hk (hd b (by simp)), ho.keeps hk (fun k hm => hd k (by simp [hm])), hn, rfl⟩
end

/-- what a call leaves that turns the queue at b (its blocks were fp) and answers r. -/
def QStep (w : World) (fp : List Nat) (r : Value) (b : Nat) (sent got : Int) (ss : List ByteArray) (e : Ending) (w' : World) : Prop :=
  ∃ fp', e = .returned r ∧ QRep w' b sent got ss fp' ∧ Keeps w w' fp ∧ ∀ k ∈ fp', k ∈ fp ∨ w.heap.size ≤ k

set_option maxHeartbeats 400000 in
theorem new_calls (w : World) : Calls Try.prog 12 #[] w (QStep w [] (.pointer (some ⟨w.heap.size, 0, none⟩)) w.heap.size 0 0 []) := by
  go_enter Try.func12, Try.ntmps12
  go_wp2_with fail
  go_ret
  exact ⟨[w.heap.size], rfl, ⟨.slice none 0 0, [], Blk.new _ _ _, Own.bare _ _ _ _, by simp, rfl⟩, (Keeps.refl w []).alloc _, by simp⟩

set_option maxHeartbeats 400000 in
theorem send_room (b : Nat) (sent got : Int) (ss : List ByteArray) (fp : List Nat) (s : ByteArray) (w : World) (hq : QRep w b sent got ss fp) (hl : ss.length < 16) :
    Calls Try.prog 13 #[.pointer (some ⟨b, 0, none⟩), .string s] w (QStep w fp (.int .i64 0) b ((sent + 1) % 4294967296) got (ss ++ [s])) := by
  obtain ⟨i0, hi, hz0, hz1, hz2⟩ := info_parts strInfo
  obtain ⟨v, fv, hb, ho, hbf, rfl⟩ := hq
  obtain ⟨A, c, rfl, hc, -⟩ := ho.form
  have c0 : w.cell? ⟨b, 0, none⟩ = some (.int .u32 sent) := hb.cell 0
  have c1 : w.cell? ⟨b, 1, none⟩ = some (.int .u32 got) := hb.cell 1
  have c2 : w.cell? ⟨b, 2, none⟩ = some (.slice A ss.length c) := hb.cell 2
  have f0 := hb.frozen 0
  have f1 := hb.frozen 1
  have f2 := hb.frozen 2
  have h16 : ((ss.length : Int) == 16) = false := by simp; omega
  go_enter Try.func13, Try.ntmps13
  go_wp2_with (at_builtin; refine wpList_append_mine _ rfl (.tmp 26) (.tmp 28) _ _ rfl 9 i0 _ 1 16 Try.underlying22 hi hz0 hz1 hz2 rfl _ ss.length (strs ss) fv rfl ?own _ 1 (strs [s]) rfl ?src ?c1 ?c2 ?next)
  case own => exact (ho.keeps (((Keeps.refl w [b]).setCell (p := ⟨b, 0, none⟩) (.inl (by simp)) _).alloc _) (fun k hk => by simp; rintro rfl; exact hbf hk))
  case src => exact (Blk.new' (w.setCell ⟨b, 0, none⟩ _) (n := w.heap.size) (by simp) 9 #[.string s]).src Try.underlying22 1 rfl (strs_one [s])
  case c1 => unfold maxLen; omega
  case c2 => omega
  case next =>
    intro v w1 fv1 hown hkeep hfv1
    have hb1 := ((hb.set_ 0 (.int .u32 ((sent + 1) % 4294967296))).alloc (.cells #[.string s] 9)).keeps hkeep hbf
    have d2 : w1.cell? ⟨b, 2, none⟩ = some (.slice A ss.length c) := hb1.cell 2
    have e2 := hb1.frozen 2
    obtain ⟨A1, n1, rfl, -, -⟩ := hown.form
    go_wp2_with fail
    go_ret
    have hb9 : b ∉ fv1 := fun hm => by
      rcases hfv1 b hm with h | h
      · exact hbf h
      · have := hb.lt; omega
    refine ⟨b :: fv1, rfl, ⟨_, fv1, hb1.set_ 2 _, ?_, hb9, rfl⟩, ?_, ?_⟩
    · have := hown.keeps ((Keeps.refl w1 [b]).setCell (p := ⟨b, 2, none⟩) (.inl (by simp)) (.slice A1 (ss.length + 1) n1)) (fun k hk => by simp; rintro rfl; exact hb9 hk)
      simpa [strs] using this
    · exact ((((Keeps.refl w (b :: fv)).setCell (p := ⟨b, 0, none⟩) (.inl (by simp)) _).alloc _).trans hkeep (fun i _ hi => by simp [hi])).setCell (.inl (by simp)) _
    · intro k hk
      rcases List.mem_cons.1 hk with rfl | hk
      · simp
      · rcases hfv1 k hk with h | h
        · simp [h]
        · right; omega

set_option maxHeartbeats 400000 in
theorem send_full (b : Nat) (sent got : Int) (ss : List ByteArray) (fp : List Nat) (s : ByteArray) (w : World) (hq : QRep w b sent got ss fp) (hl : ss.length = 16) :
    Calls Try.prog 13 #[.pointer (some ⟨b, 0, none⟩), .string s] w fun e w' => e = .returned (.int .i64 4) ∧ w = w' := by
  obtain ⟨v, fv, hb, ho, hbf, rfl⟩ := hq
  obtain ⟨A, c, rfl, hc, -⟩ := ho.form
  have c2 : w.cell? ⟨b, 2, none⟩ = some (.slice A ss.length c) := hb.cell 2
  have h16 : ((ss.length : Int) == 16) = true := by simp; omega
  clear hl
  go_enter Try.func13, Try.ntmps13
  go_wp2_with fail
  go_ret
  exact ⟨rfl, rfl⟩

set_option maxHeartbeats 400000 in
theorem ack_range (b : Nat) (sent got : Int) (ss : List ByteArray) (fp : List Nat) (h : Int) (L : Nat) (w : World) (hq : QRep w b sent got ss fp) (hL : (sent - h) % 4294967296 = L) (hl : ss.length < L) (hL2 : L < 4294967296) :
    Calls Try.prog 14 #[.pointer (some ⟨b, 0, none⟩), .int .u32 h] w fun e w' => e = .returned (.tuple #[.slice none 0 0, .int .i64 2]) ∧ w = w' := by
  obtain ⟨v, fv, hb, ho, hbf, rfl⟩ := hq
  obtain ⟨A, c, rfl, hc, -⟩ := ho.form
  have c0 : w.cell? ⟨b, 0, none⟩ = some (.int .u32 sent) := hb.cell 0
  have c2 : w.cell? ⟨b, 2, none⟩ = some (.slice A ss.length c) := hb.cell 2
  have hlt : (ss.length : Int) < (L : Int) := by omega
  have hlt2 : (L : Int) < 4294967296 := by omega
  go_enter Try.func14, Try.ntmps14
  go_wp2_with fail
  go_ret2
  exact ⟨rfl, rfl⟩

/-- what Ack leaves: the first k are answered, out of the old blocks; the rest waits. -/
def AckLeft (w : World) (fp : List Nat) (b : Nat) (sent got : Int) (ss : List ByteArray) (k : Nat) (e : Ending) (w' : World) : Prop :=
  ∃ fp' A c fo, e = .returned (.tuple #[.slice A k c, .int .i64 0]) ∧ QRep w' b sent got (ss.drop k) fp' ∧ Reads w' 1 A k (strs (ss.take k)) fo ∧ (∀ j ∈ fo, j ∈ fp ∧ j ∉ fp') ∧ Keeps w w' fp ∧ ∀ j ∈ fp', j ∈ fp ∨ w.heap.size ≤ j

set_option maxHeartbeats 400000 in
theorem ack_ok (b : Nat) (sent got : Int) (ss : List ByteArray) (fp : List Nat) (h : Int) (L : Nat) (w : World) (hq : QRep w b sent got ss fp) (hL : (sent - h) % 4294967296 = L) (hl : L ≤ ss.length) (hm : ss.length ≤ 16) :
    Calls Try.prog 14 #[.pointer (some ⟨b, 0, none⟩), .int .u32 h] w (AckLeft w fp b sent got ss (ss.length - L)) := by
  obtain ⟨v, fv, hb, ho, hbf, rfl⟩ := hq
  obtain ⟨A, c, rfl, hc, fr, hr, hfr⟩ := ho.form
  have c0 : w.cell? ⟨b, 0, none⟩ = some (.int .u32 sent) := hb.cell 0
  have c2 : w.cell? ⟨b, 2, none⟩ = some (.slice A ss.length c) := hb.cell 2
  have hlt : (L : Int) ≤ (ss.length : Int) := by omega
  have hlt2 : (ss.length : Int) ≤ 16 := by omega
  have H := Lib.hid (And.intro (hr.drop (k := ss.length - L) (cap := c) (by omega) hc) (And.intro (hr.take (k := ss.length - L) (by omega)) hfr))
  clear hr hfr
  go_enter Try.func14, Try.ntmps14
  go_wp2_with fail
  all_goals
    obtain ⟨⟨fd, hd, hfd⟩, ⟨ft, ht, hft⟩, hfr⟩ := H.out
    clear H
    refine Calls.mono (clone_calls _ _ _ (ss.drop (ss.length - L)) fd _ ?_ (by omega)) ?_
    · simpa [strs, *] using hd
    rintro e w1 ⟨v, fv1, rfl, hown, hkeep, hfv1⟩
    have hb1 := hb.keeps hkeep (by simp)
    have d2 : w1.cell? ⟨b, 2, none⟩ = some (.slice A ss.length _) := hb1.cell 2
    have e2 := hb1.frozen 2
    obtain ⟨A1, n1, rfl, -, -⟩ := hown.form
    go_wp2_with fail
    go_ret2
    have hb9 : b ∉ fv1 := fun hm => by
      have h1 := hfv1 b hm
      have h2 := hb.lt
      omega
    refine ⟨b :: fv1, _, _, ft, rfl, ⟨_, fv1, hb1.set_ 2 _, ?_, hb9, rfl⟩, ?_, ?_, ?_, ?_⟩
    · rw [List.length_drop]
      exact hown.set (p := ⟨b, 2, none⟩) hb9 _
    · have h1 := fun u => (ht.keeps hkeep (by simp)).set (p := ⟨b, 2, none⟩) (fun hm => hbf (hfr _ (hft _ hm))) u
      simpa [strs] using h1 _
    · intro j hj
      refine ⟨by simp [hfr _ (hft _ hj)], ?_⟩
      intro hm
      rcases List.mem_cons.1 hm with rfl | hm
      · exact hbf (hfr _ (hft _ hj))
      · have h1 := hfv1 _ hm
        have h2 := ht.lt _ hj
        omega
    · exact ((Keeps.refl w (b :: fv)).trans hkeep (by simp)).setCell (.inl (by simp)) _
    · intro j hj
      rcases List.mem_cons.1 hj with rfl | hj
      · simp
      · exact .inr (hfv1 _ hj)

end Go.Proofs.Ytgkbkggegdmcgaa
