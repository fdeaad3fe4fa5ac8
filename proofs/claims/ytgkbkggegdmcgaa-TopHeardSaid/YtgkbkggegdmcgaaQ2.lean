/-
  CONTRACTS: the other methods of ack.Queue; nil queues.
-/
import Derived.Test.YtgkbkggegdmcgaaQ1
import Derived.Deep.RegionHeld3
import Derived.Deep.QuietTactic
import Derived.BigQuiet
import Derived.Deep.RegionWith
namespace Go.Proofs.Ytgkbkggegdmcgaa
open Go.RowKit
set_option linter.unusedVariables false

section
variable (b : Nat) (sent got : Int) (ss : List ByteArray) (fp : List Nat) (w : World)

theorem sent_calls (hq : QRep w b sent got ss fp) :
    Calls Try.prog 18 #[.pointer (some ⟨b, 0, none⟩)] w fun e w' => e = .returned (.int .u32 sent) ∧ w = w' := by
  obtain ⟨v, fv, hb, ho, hbf, rfl⟩ := hq
  have c0 : w.cell? ⟨b, 0, none⟩ = some (.int .u32 sent) := hb.cell 0
  go_enter Try.func18, Try.ntmps18
  go_wp2_with fail
  go_ret
  exact ⟨rfl, rfl⟩

theorem handled_calls (hq : QRep w b sent got ss fp) :
    Calls Try.prog 22 #[.pointer (some ⟨b, 0, none⟩)] w fun e w' => e = .returned (.int .u32 got) ∧ w = w' := by
  obtain ⟨v, fv, hb, ho, hbf, rfl⟩ := hq
  have c0 : w.cell? ⟨b, 1, none⟩ = some (.int .u32 got) := hb.cell 1
  go_enter Try.func22, Try.ntmps22
  go_wp2_with fail
  go_ret
  exact ⟨rfl, rfl⟩

theorem got_calls (hq : QRep w b sent got ss fp) :
    Calls Try.prog 21 #[.pointer (some ⟨b, 0, none⟩)] w (QStep w fp (.tuple #[]) b sent ((got + 1) % 4294967296) ss) := by
  obtain ⟨v, fv, hb, ho, hbf, rfl⟩ := hq
  have c0 : w.cell? ⟨b, 1, none⟩ = some (.int .u32 got) := hb.cell 1
  have f0 := hb.frozen 1
  go_enter Try.func21, Try.ntmps21
  go_wp2_with fail
  go_end0
  exact ⟨b :: fv, rfl, ⟨v, fv, hb.set_ 1 _, ho.set (p := ⟨b, 1, none⟩) hbf _, hbf, rfl⟩, (Keeps.refl w (b :: fv)).setCell (p := ⟨b, 1, none⟩) (.inl (by simp)) _, fun k hk => .inl hk⟩

theorem waiting_calls (hq : QRep w b sent got ss fp) (hn : ss.length ≤ 16) :
    Calls Try.prog 15 #[.pointer (some ⟨b, 0, none⟩)] w (NewStrs w ss.length ss) := by
  obtain ⟨v, fv, hb, ho, hbf, rfl⟩ := hq
  obtain ⟨A, c, rfl, hc, fr, hr, hfr⟩ := ho.form
  have c2 : w.cell? ⟨b, 2, none⟩ = some (.slice A ss.length c) := hb.cell 2
  have H := clone_calls A ss.length c ss fr w hr (by omega)
  have H := Lib.hid H
  go_enter Try.func15, Try.ntmps15
  go_wp2_with fail
  refine H.out.mono ?_
  rintro e w1 ⟨v, fv1, rfl, h⟩
  go_wp2_with fail
  go_ret
  exact ⟨_, fv1, rfl, h⟩

theorem QRep.new {w' : World} (hb : Blk w' b 58 #[.int .u32 sent, .int .u32 got, .slice none 0 0]) : QRep w' b sent got [] [b] :=
  ⟨_, [], hb, Own.bare _ _ _ _, by simp, rfl⟩

/-- what a fork leaves: the same in new blocks. -/
def QForked (w : World) (sent got : Int) (ss : List ByteArray) (e : Ending) (w' : World) : Prop :=
  ∃ b' fp', e = .returned (.pointer (some ⟨b', 0, none⟩)) ∧ QRep w' b' sent got ss fp' ∧ Keeps w w' [] ∧ ∀ k ∈ fp', w.heap.size ≤ k

set_option maxHeartbeats 400000 in
theorem fork_calls (hq : QRep w b sent got ss fp) (hn : ss.length ≤ 16) :
    Calls Try.prog 24 #[.pointer (some ⟨b, 0, none⟩)] w (QForked w sent got ss) := by
  obtain ⟨v, fv, hb, ho, hbf, rfl⟩ := hq
  obtain ⟨A, c, rfl, hc, fr, hr, hfr⟩ := ho.form
  have c0 : w.cell? ⟨b, 0, none⟩ = some (.int .u32 sent) := hb.cell 0
  have c1 : w.cell? ⟨b, 1, none⟩ = some (.int .u32 got) := hb.cell 1
  have c2 : w.cell? ⟨b, 2, none⟩ = some (.slice A ss.length c) := hb.cell 2
  have H := Lib.hid (And.intro hr (And.intro hn hb))
  clear hr hn hb ho
  go_enter Try.func24, Try.ntmps24
  go_wp2_with fail
  go_region_held3 (fun w' => w'.cell? ⟨b, 0, none⟩ = some (.int .u32 sent) ∧ w'.cell? ⟨b, 1, none⟩ = some (.int .u32 got) ∧ w'.cell? ⟨b, 2, none⟩ = some (.slice A ss.length c)) (go_keep)
    ((go_at_call 27
      refine (clone_calls A ss.length c ss fr _ H.out.1.drew (by have := H.out.2.1; omega)).mono ?_
      rintro e w1 ⟨v, fv1, rfl, hown, hkeep, hfv1⟩
      obtain ⟨A1, n1, rfl, -, -⟩ := hown.form
      have hb1 := H.out.2.2.drew.keeps hkeep (by simp)
      have d0 : w1.cell? ⟨b, 0, none⟩ = some (.int .u32 sent) := hb1.cell 0
      have d1 : w1.cell? ⟨b, 1, none⟩ = some (.int .u32 got) := hb1.cell 1
      have d2 : w1.cell? ⟨b, 2, none⟩ = some (.slice A ss.length c) := hb1.cell 2))
  all_goals
    go_wp2_with fail
    go_ret
    have hsz := hkeep.size
    simp only [heap_drew] at hsz hfv1
    refine ⟨w1.heap.size, w1.heap.size :: fv1, rfl, ⟨_, fv1, Blk.new _ _ _, hown.alloc _, ?_, rfl⟩, hkeep.ofDrew.alloc _, ?_⟩
    · intro hm
      have := hown.lt _ hm
      omega
    · intro k hk
      rcases List.mem_cons.1 hk with rfl | hk
      · exact hsz
      · exact hfv1 k hk
end

section
variable (b : Nat) (sent got : Int) (ss : List ByteArray) (fp : List Nat) (h : Int) (L : Nat) (w : World)

theorem resume_range (hq : QRep w b sent got ss fp) (hL : (sent - h) % 4294967296 = L) (hl : ss.length < L) (hL2 : L < 4294967296) :
    Calls Try.prog 20 #[.pointer (some ⟨b, 0, none⟩), .int .u32 h] w fun e w' => e = .returned (.tuple #[.slice none 0 0, .int .i64 2]) ∧ w = w' := by
  have H := Lib.hid (ack_range b sent got ss fp h L w hq hL hl hL2)
  clear hL hl hL2 hq
  go_enter Try.func20, Try.ntmps20
  go_wp2_with fail
  refine H.out.mono ?_
  rintro e w1 ⟨rfl, rfl⟩
  go_wp2_with fail
  go_ret2
  exact ⟨rfl, rfl⟩

/-- what Resume leaves: all that still waits is answered, in new blocks. -/
def ResumeLeft (w : World) (fp : List Nat) (b : Nat) (sent got : Int) (ss : List ByteArray) (k : Nat) (e : Ending) (w' : World) : Prop :=
  ∃ fp' v fo, e = .returned (.tuple #[v, .int .i64 0]) ∧ QRep w' b sent got (ss.drop k) fp' ∧ Own w' 9 1 v (ss.drop k).length (strs (ss.drop k)) fo ∧
    (∀ j ∈ fo, w.heap.size ≤ j ∧ j ∉ fp') ∧ Keeps w w' fp ∧ ∀ j ∈ fp', j ∈ fp ∨ w.heap.size ≤ j

theorem resume_ok (hq : QRep w b sent got ss fp) (hL : (sent - h) % 4294967296 = L) (hl : L ≤ ss.length) (hm : ss.length ≤ 16) :
    Calls Try.prog 20 #[.pointer (some ⟨b, 0, none⟩), .int .u32 h] w (ResumeLeft w fp b sent got ss (ss.length - L)) := by
  have H := Lib.hid (ack_ok b sent got ss fp h L w hq hL hl hm)
  have Hm := Lib.hid hm
  clear hL hl hm
  go_enter Try.func20, Try.ntmps20
  go_wp2_with fail
  refine H.out.mono ?_
  rintro e w1 ⟨fp1, A, c, fo, rfl, hq1, hr1, hd1, hk1, hn1⟩
  have H1 := Lib.hid hd1; clear hd1
  have H2 := Lib.hid hn1; clear hn1
  go_wp2_with fail
  refine (waiting_calls b sent got _ fp1 w1 hq1 (by have := Hm.out; rw [List.length_drop]; omega)).mono ?_
  rintro e w2 ⟨v, fv, rfl, hown, hk2, hn2⟩
  go_wp2_with fail
  go_ret2
  have hs1 := hk1.size
  refine ⟨fp1, v, fv, rfl, hq1.keeps hk2 (by simp), hown, ?_, hk1.trans hk2 (by simp), H2.out⟩
  intro j hj
  have h1 := hn2 j hj
  refine ⟨by omega, fun hm => ?_⟩
  have h2 := hq1.lt j hm
  omega
end

section
variable (w : World)
theorem nil_sent : Calls Try.prog 18 #[.pointer none] w fun e w' => e = .returned (.int .u32 0) ∧ w = w' := by
  go_enter Try.func18, Try.ntmps18
  go_wp2_with fail
  go_ret
  exact ⟨rfl, rfl⟩
theorem nil_handled : Calls Try.prog 22 #[.pointer none] w fun e w' => e = .returned (.int .u32 0) ∧ w = w' := by
  go_enter Try.func22, Try.ntmps22
  go_wp2_with fail
  go_ret
  exact ⟨rfl, rfl⟩
theorem nil_got : Calls Try.prog 21 #[.pointer none] w fun e w' => e = .returned (.tuple #[]) ∧ w = w' := by
  go_enter Try.func21, Try.ntmps21
  go_wp2_with fail
  go_end0
  exact ⟨rfl, rfl⟩
theorem nil_waiting : Calls Try.prog 15 #[.pointer none] w fun e w' => e = .returned (.slice none 0 0) ∧ w = w' := by
  go_enter Try.func15, Try.ntmps15
  go_wp2_with fail
  go_ret
  exact ⟨rfl, rfl⟩
theorem nil_fork : Calls Try.prog 24 #[.pointer none] w fun e w' => e = .returned (.pointer none) ∧ w = w' := by
  go_enter Try.func24, Try.ntmps24
  go_wp2_with fail
  go_ret
  exact ⟨rfl, rfl⟩
theorem nil_send (s : ByteArray) : Calls Try.prog 13 #[.pointer none, .string s] w fun e w' => e = .returned (.int .i64 1) ∧ w = w' := by
  go_enter Try.func13, Try.ntmps13
  go_wp2_with fail
  go_ret
  exact ⟨rfl, rfl⟩
theorem nil_ack (h : Int) : Calls Try.prog 14 #[.pointer none, .int .u32 h] w fun e w' => e = .returned (.tuple #[.slice none 0 0, .int .i64 1]) ∧ w = w' := by
  go_enter Try.func14, Try.ntmps14
  go_wp2_with fail
  go_ret2
  exact ⟨rfl, rfl⟩
theorem nil_resume (h : Int) : Calls Try.prog 20 #[.pointer none, .int .u32 h] w fun e w' => e = .returned (.tuple #[.slice none 0 0, .int .i64 1]) ∧ w = w' := by
  go_enter Try.func20, Try.ntmps20
  go_wp2_with fail
  refine (nil_ack w h).mono ?_
  rintro e w1 ⟨rfl, rfl⟩
  go_wp2_with fail
  go_ret2
  exact ⟨rfl, rfl⟩
end

end Go.Proofs.Ytgkbkggegdmcgaa
