/-
  CONTRACTS: heliographref10.Queue.
-/
import Derived.Test.YtgkbkggegdmcgaaQ2
namespace Go.Proofs.Ytgkbkggegdmcgaa
open Go.RowKit
set_option linter.unusedVariables false

/-- The reference's queue at block b: what waits, how many were acknowledged, got; its blocks. -/
def RRep (w : World) (b : Nat) (acked got : Int) (ss : List ByteArray) (fp : List Nat) : Prop :=
  ∃ v fv, Blk w b 62 #[v, .int .u32 acked, .int .u32 got] ∧ Own w 9 1 v ss.length (strs ss) fv ∧ b ∉ fv ∧ fp = b :: fv

section
variable {w w' : World} {b : Nat} {acked got : Int} {ss : List ByteArray} {fp fp' : List Nat}
theorem RRep.lt (h : RRep w b acked got ss fp) : ∀ k ∈ fp, k < w.heap.size := by
  obtain ⟨v, fv, hb, ho, _, rfl⟩ := h
  intro k hk
  rcases List.mem_cons.1 hk with rfl | hk
  · exact hb.lt
  · exact ho.lt k hk
theorem RRep.keeps (h : RRep w b acked got ss fp) (hk : Keeps w w' fp') (hd : ∀ k ∈ fp, k ∉ fp') : RRep w' b acked got ss fp := by
  obtain ⟨v, fv, hb, ho, hn, rfl⟩ := h
  exact ⟨v, fv, hb.keeps hk (hd b (by simp)), ho.keeps hk (fun k hm => hd k (by simp [hm])), hn, rfl⟩
end

def RStep (w : World) (fp : List Nat) (r : Value) (b : Nat) (acked got : Int) (ss : List ByteArray) (e : Ending) (w' : World) : Prop :=
  ∃ fp', e = .returned r ∧ RRep w' b acked got ss fp' ∧ Keeps w w' fp ∧ ∀ k ∈ fp', k ∈ fp ∨ w.heap.size ≤ k

theorem rnew_calls (w : World) : Calls Try.prog 28 #[] w (RStep w [] (.pointer (some ⟨w.heap.size, 0, none⟩)) w.heap.size 0 0 []) := by
  go_enter Try.func28, Try.ntmps28
  go_wp2_with fail
  go_ret
  exact ⟨[w.heap.size], rfl, ⟨.slice none 0 0, [], Blk.new _ _ _, Own.bare _ _ _ _, by simp, rfl⟩, (Keeps.refl w []).alloc _, by simp⟩

section
variable (b : Nat) (acked got : Int) (ss : List ByteArray) (fp : List Nat) (w : World)

theorem rsend_full (s : ByteArray) (hq : RRep w b acked got ss fp) (hl : ss.length = 16) :
    Calls Try.prog 32 #[.pointer (some ⟨b, 0, none⟩), .string s] w fun e w' => e = .returned (.int .i64 4) ∧ w = w' := by
  obtain ⟨v, fv, hb, ho, hbf, rfl⟩ := hq
  obtain ⟨A, c, rfl, hc, -⟩ := ho.form
  have c2 : w.cell? ⟨b, 0, none⟩ = some (.slice A ss.length c) := hb.cell 0
  have h16 : (16 : Int) ≤ (ss.length : Int) := by omega
  clear hl
  go_enter Try.func32, Try.ntmps32
  go_wp2_with fail
  go_ret
  exact ⟨rfl, rfl⟩

set_option maxHeartbeats 400000 in
theorem rsend_room (s : ByteArray) (hq : RRep w b acked got ss fp) (hl : ss.length < 16) :
    Calls Try.prog 32 #[.pointer (some ⟨b, 0, none⟩), .string s] w (RStep w fp (.int .i64 0) b acked got (ss ++ [s])) := by
  obtain ⟨i0, hi, hz0, hz1, hz2⟩ := info_parts strInfo
  obtain ⟨v, fv, hb, ho, hbf, rfl⟩ := hq
  obtain ⟨A, c, rfl, hc, fr, hr, hfr⟩ := ho.form
  have c2 : w.cell? ⟨b, 0, none⟩ = some (.slice A ss.length c) := hb.cell 0
  have f2 := hb.frozen 0
  have h16 : (ss.length : Int) < 16 := by omega
  have hbl := hb.lt
  go_enter Try.func32, Try.ntmps32
  go_wp2_with (at_builtin; refine wpList_append_mine _ rfl (.tmp 16) (.tmp 20) _ _ rfl 9 i0 _ 1 16 Try.underlying22 hi hz0 hz1 hz2 rfl _ 0 [] [] rfl (Own.bare _ _ _ _) _ ss.length (strs ss) rfl ?src ?c1 ?c2 ?next)
  case src => exact (hr.alloc _).src Try.underlying22 (strs_one ss) c
  case c1 => unfold maxLen; omega
  case c2 => omega
  case next =>
    intro v1 w1 fv1 hown1 hkeep1 hfv1
    obtain ⟨A1, n1, rfl, -, -⟩ := hown1.form
    have H1 := Lib.hid (And.intro hown1 (And.intro hkeep1 hfv1)); clear hown1 hkeep1 hfv1
    go_wp2_with (at_builtin; refine wpList_append_mine _ rfl (.tmp 21) (.tmp 23) _ _ rfl 9 i0 _ 1 16 Try.underlying22 hi hz0 hz1 hz2 rfl _ _ _ fv1 rfl (H1.out.1.alloc _) _ 1 (strs [s]) rfl ?src2 ?c12 ?c22 ?next2)
    case src2 => exact (Blk.new' w1 rfl 9 #[.string s]).src Try.underlying22 1 rfl (strs_one [s])
    case c12 => unfold maxLen; omega
    case c22 => omega
    case next2 =>
      obtain ⟨hown1, hkeep1, hfv1⟩ := H1.out
      clear H1
      intro v2 w2 fv2 hown2 hkeep2 hfv2
      obtain ⟨A2, n2, rfl, -, -⟩ := hown2.form
      have hs1 := hkeep1.size
      have hs2 := hkeep2.size
      simp at hs1 hs2 hfv1 hfv2
      have hb1f : b ∉ fv1 := fun hm => by have := hfv1 b hm; omega
      have hb2f : b ∉ fv2 := fun hm => by rcases hfv2 b hm with h | h; · exact hb1f h
                                          · omega
      have hb2 := (((hb.alloc (.cells #[] 9)).keeps hkeep1 (by simp)).alloc (.cells #[.string s] 9)).keeps hkeep2 hb1f
      have d2 : w2.cell? ⟨b, 0, none⟩ = some (.slice A ss.length c) := hb2.cell 0
      have e2 := hb2.frozen 0
      go_wp2_with fail
      go_ret
      refine ⟨b :: fv2, rfl, ⟨_, fv2, hb2.set_ 0 _, ?_, hb2f, rfl⟩, ?_, ?_⟩
      · have := hown2.set (p := ⟨b, 0, none⟩) hb2f (.slice A2 (0 + ss.length + 1) n2)
        simpa [strs] using this
      · refine Keeps.setCell ?_ (.inl (by simp)) _
        exact ((((Keeps.refl w (b :: fv)).alloc _).trans hkeep1 (by simp)).alloc _).trans hkeep2 (fun i hi hm => by have := hfv1 i hm; omega)
      · intro k hk
        rcases List.mem_cons.1 hk with rfl | hk
        · simp
        · right
          rcases hfv2 k hk with h | h
          · have := hfv1 k h; omega
          · omega

theorem rsent_calls (hq : RRep w b acked got ss fp) (hm : ss.length ≤ 16) :
    Calls Try.prog 30 #[.pointer (some ⟨b, 0, none⟩)] w fun e w' => e = .returned (.int .u32 ((acked + ss.length) % 4294967296)) ∧ ∃ q, w' = w.drewN q := by
  obtain ⟨v, fv, hb, ho, hbf, rfl⟩ := hq
  obtain ⟨A, c, rfl, hc, fr, hr, hfr⟩ := ho.form
  have c0 : w.cell? ⟨b, 0, none⟩ = some (.slice A ss.length c) := hb.cell 0
  have c1 : w.cell? ⟨b, 1, none⟩ = some (.int .u32 acked) := hb.cell 1
  go_enter Try.func30, Try.ntmps30
  have hlt2 : (ss.length : Int) ≤ 16 := by omega
  go_wp2_with fail
  go_quiet (fail)
  go_wp2_with fail
  go_ret
  exact ⟨rfl, _, rfl⟩

theorem rhandled_calls (hq : RRep w b acked got ss fp) :
    Calls Try.prog 29 #[.pointer (some ⟨b, 0, none⟩)] w fun e w' => e = .returned (.int .u32 got) ∧ w = w' := by
  obtain ⟨v, fv, hb, ho, hbf, rfl⟩ := hq
  have c0 : w.cell? ⟨b, 2, none⟩ = some (.int .u32 got) := hb.cell 2
  go_enter Try.func29, Try.ntmps29
  go_wp2_with fail
  go_ret
  exact ⟨rfl, rfl⟩

theorem rgot_calls (hq : RRep w b acked got ss fp) :
    Calls Try.prog 35 #[.pointer (some ⟨b, 0, none⟩)] w (RStep w fp (.tuple #[]) b acked ((got + 1) % 4294967296) ss) := by
  obtain ⟨v, fv, hb, ho, hbf, rfl⟩ := hq
  have c0 : w.cell? ⟨b, 2, none⟩ = some (.int .u32 got) := hb.cell 2
  have f0 := hb.frozen 2
  go_enter Try.func35, Try.ntmps35
  go_wp2_with fail
  go_end0
  exact ⟨b :: fv, rfl, ⟨v, fv, hb.set_ 2 _, ho.set (p := ⟨b, 2, none⟩) hbf _, hbf, rfl⟩, (Keeps.refl w (b :: fv)).setCell (p := ⟨b, 2, none⟩) (.inl (by simp)) _, fun k hk => .inl hk⟩

theorem rwaiting_calls (hq : RRep w b acked got ss fp) (hn : ss.length ≤ 16) :
    Calls Try.prog 31 #[.pointer (some ⟨b, 0, none⟩)] w (NewStrs w ss.length ss) := by
  obtain ⟨i0, hi, hz0, hz1, hz2⟩ := info_parts strInfo
  obtain ⟨v, fv, hb, ho, hbf, rfl⟩ := hq
  obtain ⟨A, c, rfl, hc, fr, hr, hfr⟩ := ho.form
  have c0 : w.cell? ⟨b, 0, none⟩ = some (.slice A ss.length c) := hb.cell 0
  have hbl := hb.lt
  go_enter Try.func31, Try.ntmps31
  go_wp2_with (at_builtin; refine wpList_append_mine _ rfl (.tmp 5) (.tmp 9) _ _ rfl 9 i0 _ 1 16 Try.underlying22 hi hz0 hz1 hz2 rfl _ 0 [] [] rfl (Own.bare _ _ _ _) _ ss.length (strs ss) rfl ?src ?c1 ?c2 ?next)
  case src => exact (hr.alloc _).src Try.underlying22 (strs_one ss) c
  case c1 => unfold maxLen; omega
  case c2 => omega
  case next =>
    intro v1 w1 fv1 hown1 hkeep1 hfv1
    go_wp2_with fail
    go_ret
    refine ⟨_, fv1, rfl, by simpa using hown1, ((Keeps.refl w []).alloc _).trans hkeep1 (by simp), fun k hk => ?_⟩
    have := hfv1 k hk
    omega

theorem rack_range (h : Int) (n : Nat) (hq : RRep w b acked got ss fp) (hL : (h - acked) % 4294967296 = n) (hl : ss.length < n) :
    Calls Try.prog 33 #[.pointer (some ⟨b, 0, none⟩), .int .u32 h] w fun e w' => e = .returned (.tuple #[.slice none 0 0, .int .i64 2]) ∧ w = w' := by
  obtain ⟨v, fv, hb, ho, hbf, rfl⟩ := hq
  obtain ⟨A, c, rfl, hc, -⟩ := ho.form
  have c0 : w.cell? ⟨b, 0, none⟩ = some (.slice A ss.length c) := hb.cell 0
  have c1 : w.cell? ⟨b, 1, none⟩ = some (.int .u32 acked) := hb.cell 1
  have hlt : (ss.length : Int) < (n : Int) := by omega
  have hlt2 : (n : Int) < 4294967296 := by omega
  go_enter Try.func33, Try.ntmps33
  go_wp2_with fail
  go_ret2
  exact ⟨rfl, rfl⟩

/-- what Ack leaves: the first k are answered, in new blocks; the rest waits. -/
def RAckLeft (w : World) (fp : List Nat) (b : Nat) (acked got : Int) (ss : List ByteArray) (k : Nat) (e : Ending) (w' : World) : Prop :=
  ∃ fp' v fo, e = .returned (.tuple #[v, .int .i64 0]) ∧ RRep w' b acked got (ss.drop k) fp' ∧ Own w' 9 1 v k (strs (ss.take k)) fo ∧ (∀ j ∈ fo, w.heap.size ≤ j ∧ j ∉ fp') ∧ Keeps w w' fp ∧ ∀ j ∈ fp', j ∈ fp ∨ w.heap.size ≤ j

set_option maxHeartbeats 400000 in
theorem rack_ok (h : Int) (n : Nat) (hq : RRep w b acked got ss fp) (hL : (h - acked) % 4294967296 = n) (hl : n ≤ ss.length) (hm : ss.length ≤ 16) :
    Calls Try.prog 33 #[.pointer (some ⟨b, 0, none⟩), .int .u32 h] w (RAckLeft w fp b h got ss n) := by
  obtain ⟨i0, hi, hz0, hz1, hz2⟩ := info_parts strInfo
  obtain ⟨v, fv, hb, ho, hbf, rfl⟩ := hq
  obtain ⟨A, c, rfl, hc, fr, hr, hfr⟩ := ho.form
  have c0 : w.cell? ⟨b, 0, none⟩ = some (.slice A ss.length c) := hb.cell 0
  have c1 : w.cell? ⟨b, 1, none⟩ = some (.int .u32 acked) := hb.cell 1
  have f0 := hb.frozen 0
  have f1 := hb.frozen 1
  have hlt : (n : Int) ≤ (ss.length : Int) := by omega
  have hlt2 : (ss.length : Int) ≤ 16 := by omega
  have hbl := hb.lt
  have hcz : (ss.length : Int) ≤ (c : Int) := by omega
  obtain ⟨ft, ht, hft⟩ := hr.take (k := n) hl
  have ht' : Reads w 1 A n (strs (ss.take n)) ft := by simpa [strs] using ht
  have hdr := hr.drop (k := n) (cap := c) hl hc
  by_cases hcn : c = n
  all_goals
    have H := Lib.hid (And.intro hdr (And.intro hft (And.intro hfr (And.intro ht' (And.intro ho hb)))))
    clear hr hfr ht ht' hft ho hb hdr
    go_enter Try.func33, Try.ntmps33
    go_wp2_with (at_builtin; refine wpList_append_mine _ rfl (.tmp 24) (.tmp 30) _ _ rfl 9 i0 _ 1 16 Try.underlying22 hi hz0 hz1 hz2 rfl _ 0 [] [] rfl (Own.bare _ _ _ _) _ n (strs (ss.take n)) rfl ?_ ?_ ?_ ?_)
    · exact (H.out.2.2.2.1.alloc _).src Try.underlying22 (strs_one _) _
    · unfold maxLen; omega
    · omega
    intro v1 w1 fv1 hown1 hkeep1 hfv1
    have hb1 := (H.out.2.2.2.2.2.alloc (.cells #[] 9)).keeps hkeep1 (by simp)
    have d0 : w1.cell? ⟨b, 0, none⟩ = some (.slice A ss.length _) := hb1.cell 0
    have e0 := hb1.frozen 0
    have hbl1 := hb1.lt
    have H1 := Lib.hid (And.intro hown1 (And.intro hkeep1 (And.intro hfv1 hb1))); clear hown1 hkeep1 hfv1 hb1
    go_wp2_with (at_builtin; refine wpList_append_mine _ rfl (.tmp 33) (.tmp 39) _ _ rfl 9 i0 _ 1 16 Try.underlying22 hi hz0 hz1 hz2 rfl _ 0 [] [] rfl (Own.bare _ _ _ _) _ (ss.length - n) (strs (ss.drop n)) rfl ?_ ?_ ?_ ?_)
    · obtain ⟨⟨fd, hd, hfd⟩, -⟩ := H.out
      obtain ⟨-, hkeep1, -⟩ := H1.out
      have hd2 := ((hd.alloc (.cells #[] 9)).keeps hkeep1 (by simp)).alloc (.cells #[] 9)
      have hst : (strs ss).drop (n * 1) = strs (ss.drop n) := by simp [strs]
      rw [hst] at hd2
      first
        | (rw [if_pos hcn] at hd2; exact hd2.src Try.underlying22 (strs_one _) _)
        | (rw [if_neg hcn, Nat.mul_one] at hd2; exact hd2.src Try.underlying22 (strs_one _) _)
    · unfold maxLen; omega
    · omega
    intro v2 w2 fv2 hown2 hkeep2 hfv2
    obtain ⟨hown1, hkeep1, hfv1, hb1⟩ := H1.out
    have hb2 := (hb1.alloc (.cells #[] 9)).keeps hkeep2 (by simp)
    have k0 : w2.cell? ⟨b, 0, none⟩ = some (.slice A ss.length _) := hb2.cell 0
    have k1 : w2.cell? ⟨b, 1, none⟩ = some (.int .u32 acked) := hb2.cell 1
    have l0 := hb2.frozen 0
    have l1 := hb2.frozen 1
    obtain ⟨A2, n2, rfl, -, -⟩ := hown2.form
    have H2 := Lib.hid (And.intro hown2 (And.intro hkeep2 (And.intro hfv2 hb2))); clear hown2 hkeep2 hfv2 hb2 hown1 hkeep1 hfv1 hb1
    go_wp2_with fail
    go_ret2
    obtain ⟨hown2, hkeep2, hfv2, hb2⟩ := H2.out
    obtain ⟨hown1, hkeep1, hfv1, hb1⟩ := H1.out
    have hs1 := hkeep1.size
    have hs2 := hkeep2.size
    simp only [World.size_alloc] at hs1 hs2 hfv1 hfv2
    have hb2f : b ∉ fv2 := fun hm => by have := hfv2 b hm; omega
    have hb1f : b ∉ fv1 := fun hm => by have := hfv1 b hm; omega
    refine ⟨b :: fv2, _, fv1, rfl, ⟨_, fv2, (hb2.set_ 0 _).set_ 1 _, ?_, hb2f, rfl⟩, ?_, ?_, ?_, ?_⟩
    · rw [List.length_drop]
      have h1 := fun u u' => (hown2.set (p := ⟨b, 0, none⟩) hb2f u).set (p := ⟨b, 1, none⟩) hb2f u'
      simpa using h1 _ _
    · have h1 := fun u u' => (((hown1.alloc (.cells #[] 9)).keeps hkeep2 (by simp)).set (p := ⟨b, 0, none⟩) hb1f u).set (p := ⟨b, 1, none⟩) hb1f u'
      simpa using h1 _ _
    · intro j hj
      have h1 := hfv1 j hj
      have h3 := hown1.lt j hj
      refine ⟨by omega, fun hm => ?_⟩
      rcases List.mem_cons.1 hm with rfl | hm
      · exact hb1f hj
      · have h2 := hfv2 j hm
        omega
    · refine Keeps.setCell (Keeps.setCell ?_ (.inl (by simp)) _) (.inl (by simp)) _
      exact ((((Keeps.refl w (b :: fv)).alloc _).trans hkeep1 (by simp)).alloc _).trans hkeep2 (by simp)
    · intro j hj
      rcases List.mem_cons.1 hj with rfl | hj
      · simp
      · have h2 := hfv2 j hj
        right
        omega
end

end Go.Proofs.Ytgkbkggegdmcgaa
