/-
  CONTRACT: heliographlaw10.do: a deed on both sides.
-/
import Derived.Test.YtgkbkggegdmcgaaBoth
import Derived.Deep.DeepCutAuto
namespace Go.Proofs.Ytgkbkggegdmcgaa
open Go.RowKit
set_option linter.unusedVariables false

theorem ack_nums (acked h : Int) (m : Nat) (hm : m ≤ 16) : ∃ n : Nat, (h - acked) % 4294967296 = (n : Int) ∧ n < 4294967296 ∧
    ((n ≤ m ∧ ((acked + m) % 4294967296 - h) % 4294967296 = ((m - n : Nat) : Int) ∧ (h + ((m - n : Nat) : Int)) % 4294967296 = (acked + m) % 4294967296) ∨
     (m < n ∧ ∃ L : Nat, ((acked + m) % 4294967296 - h) % 4294967296 = (L : Int) ∧ m < L ∧ L < 4294967296)) := by
  refine ⟨((h - acked) % 4294967296).toNat, by omega, by omega, ?_⟩
  by_cases hle : ((h - acked) % 4294967296).toNat ≤ m
  · exact .inl ⟨hle, by omega, by omega⟩
  · exact .inr ⟨by omega, (((acked + m) % 4294967296 - h) % 4294967296).toNat, by omega, by omega, by omega⟩

/-- what a deed on both leaves. -/
def BothLeft (w : World) (r : Value) (bq br : Nat) (fq fr : List Nat) (e : Ending) (w' : World) : Prop :=
  ∃ acked got ss fq' fr', e = .returned r ∧ Both w' bq br acked got ss fq' fr' ∧ Keeps w w' (fq ++ fr) ∧ ∀ k ∈ fq' ++ fr', k ∈ fq ++ fr ∨ w.heap.size ≤ k

section
variable {w w1 w2 : World} {bq br : Nat} {acked got acked' got' sent' : Int} {ss ss' : List ByteArray} {fq fr fq' fr' : List Nat}

/-- a step of the queue, then one of the reference. -/
theorem Both.step (h : Both w bq br acked got ss fq fr) (hq : QRep w1 bq sent' got' ss' fq') (hk : Keeps w w1 fq) (hn : ∀ k ∈ fq', k ∈ fq ∨ w.heap.size ≤ k)
    (hr : RRep w2 br acked' got' ss' fr') (hk2 : Keeps w1 w2 fr) (hn2 : ∀ k ∈ fr', k ∈ fr ∨ w1.heap.size ≤ k) (hs : sent' = (acked' + ss'.length) % 4294967296) (hl : ss'.length ≤ 16) :
    Both w2 bq br acked' got' ss' fq' fr' ∧ Keeps w w2 (fq ++ fr) ∧ ∀ k ∈ fq' ++ fr', k ∈ fq ++ fr ∨ w.heap.size ≤ k := by
  subst hs
  have hs1 := hk.size
  have hqr : ∀ k ∈ fq', k ∉ fr := fun k hm hf => by
    rcases hn k hm with h1 | h1
    · exact h.apart k h1 hf
    · have := h.r.lt k hf
      omega
  refine ⟨⟨hq.keeps hk2 hqr, hr, fun k hm hf => ?_, hl⟩, (hk.mono (fun k _ hm => by simp [hm])).trans (hk2) (fun k _ hm => by simp [hm]), fun k hm => ?_⟩
  · rcases hn2 k hf with h1 | h1
    · exact hqr k hm h1
    · have := hq.lt k hm
      omega
  · rcases List.mem_append.1 hm with hm | hm
    · rcases hn k hm with h1 | h1
      · exact .inl (by simp [h1])
      · exact .inr h1
    · rcases hn2 k hm with h1 | h1
      · exact .inl (by simp [h1])
      · exact .inr (by omega)
theorem Both.rkeeps (h : Both w bq br acked got ss fq fr) (hk : Keeps w w1 fq) : RRep w1 br acked got ss fr := h.r.keeps hk (fun k hm hf => h.apart k hf hm)
end

/-- what a step leaves, seen from where the call began. -/
theorem Both.fin {w wc w1 w2 : World} {r : Value} {bq br : Nat} {acked got acked' got' sent' : Int} {ss ss' : List ByteArray} {fq fr fq' fr' : List Nat} (h : Both wc bq br acked got ss fq fr) (hw : Keeps w wc [])
    (hq : QRep w1 bq sent' got' ss' fq') (hk : Keeps wc w1 fq) (hn : ∀ k ∈ fq', k ∈ fq ∨ wc.heap.size ≤ k)
    (hr : RRep w2 br acked' got' ss' fr') (hk2 : Keeps w1 w2 fr) (hn2 : ∀ k ∈ fr', k ∈ fr ∨ w1.heap.size ≤ k) (hs : sent' = (acked' + ss'.length) % 4294967296) (hl : ss'.length ≤ 16) :
    BothLeft w r bq br fq fr (.returned r) w2 := by
  obtain ⟨hB, hK, hN⟩ := h.step hq hk hn hr hk2 hn2 hs hl
  have hsz := hw.size
  exact ⟨_, _, _, _, _, rfl, hB, (hw.mono (fun _ _ hm => by cases hm)).trans hK (fun _ _ hm => hm), fun k hm => by
    rcases hN k hm with h1 | h1
    · exact .inl h1
    · exact .inr (by omega)⟩
theorem BothLeft.widen {w w2 w3 : World} {r : Value} {bq br : Nat} {fq fr : List Nat} {e : Ending} (h : BothLeft w r bq br fq fr e w2) (hk : Keeps w2 w3 []) : BothLeft w r bq br fq fr e w3 := by
  obtain ⟨a, g, ss, fq', fr', he, hB, hK, hN⟩ := h
  exact ⟨a, g, ss, fq', fr', he, hB.nil hk, hK.trans hk (fun _ _ hm => by cases hm), hN⟩

/-- what is known behind 'if x.On'. -/
def DoCut (w : World) (g : Nat) (kind : Int) (s : ByteArray) (h0 : Int) (on : Bool) (wx : World) : Prop :=
  Keeps w wx [] ∧ w.heap.size ≤ g ∧ Blk wx g 49 #[.int .i64 kind, .string s, .int .u32 h0, .bool on]

set_option maxHeartbeats 1600000 in
theorem do_calls (bq br : Nat) (acked got : Int) (ss : List ByteArray) (fq fr : List Nat) (kind : Int) (s : ByteArray) (h0 : Int) (on : Bool) (w : World) (hb : Both w bq br acked got ss fq fr) :
    Calls Try.prog 26 #[.pointer (some ⟨bq, 0, none⟩), .pointer (some ⟨br, 0, none⟩), .agg #[.int .i64 kind, .string s, .int .u32 h0, .bool on]] w (BothLeft w (.bool true) bq br fq fr) := by
  have Hf := Lib.hid hb.few
  go_enter Try.func26, Try.ntmps26
  go_upto_if 19 with (fail)
  go_cut [7] (fun s7 wx => ∃ h : Int, s7 = .int .u32 h ∧ DoCut w w.heap.size kind s h0 on wx)
  case first =>
    cases on with
    | false =>
      go_wp2_with fail
      go_meet
      exact ⟨_, rfl, (Keeps.refl w []).alloc _, Nat.le_refl _, Blk.new _ _ _⟩
    | true =>
      go_wp2_with fail
      refine (rsent_calls br acked got ss fr _ (hb.r.keeps ((Keeps.refl w []).alloc _) (by simp)) Hf.out).mono ?_
      rintro e w1 ⟨rfl, q, rfl⟩
      go_wp2_with fail
      refine (rwaiting_calls br acked got ss fr _ (hb.r.keeps (((Keeps.refl w []).alloc _).drewN q) (by simp)) Hf.out).mono ?_
      rintro e w1 ⟨v1, fv1, rfl, ho1, hk1, hf1⟩
      obtain ⟨A1, c1, rfl, -⟩ := ho1.form
      have H1 := Lib.hid hk1; clear hk1 ho1 hf1
      go_wp2_with fail
      go_meet
      exact ⟨_, rfl, (((Keeps.refl w []).alloc _).drewN q).trans H1.out (by simp), Nat.le_refl _, ((Blk.new w _ _).drewN q).keeps H1.out (by simp)⟩
  case rest =>
    obtain ⟨h, rfl, hk, hg, hblk⟩ := hcut
    obtain ⟨g, hge⟩ : ∃ g, g = w.heap.size := ⟨_, rfl⟩
    rw [← hge] at hblk ⊢
    have hgq : g ∉ fq := fun hm => by have := hb.q.lt g hm; omega
    have hgr : g ∉ fr := fun hm => by have := hb.r.lt g hm; omega
    have hbc := hb.nil hk
    have hsz := hk.size
    have c0 : wc.cell? ⟨g, 0, none⟩ = some (.int .i64 kind) := hblk.cell 0
    have c1 : wc.cell? ⟨g, 1, none⟩ = some (.string s) := hblk.cell 1
    clear hge hg
    have Hk := Lib.hid hk; clear hk hb
    by_cases hk0 : kind = 0
    · subst hk0
      by_cases hfull : ss.length = 16
      · go_wp2_with fail
        go_region_held3 (fun w' => w'.cell? ⟨g, 1, none⟩ = some (.string s)) (go_keep)
          (first
            | (go_at_call 13
               refine (send_full bq _ got ss fq s _ (hbc.q.keeps (Keeps.refl wc []).drew (by simp)) hfull).mono ?_
               rintro e w1 ⟨rfl, rfl⟩)
            | (go_at_call 32
               refine (rsend_full br acked got ss fr _ s (hbc.r.keeps (Keeps.refl wc []).drew (by simp)) hfull).mono ?_
               rintro e w2 ⟨rfl, rfl⟩))
        all_goals
          go_wp2_with fail
          go_ret
          exact (hbc.fin Hk.out hbc.q (Keeps.refl _ _) (fun _ h => .inl h) hbc.r (Keeps.refl _ _) (fun _ h => .inl h) rfl hbc.few).widen (Keeps.refl _ _).drew
      · have hroom : ss.length < 16 := by have := Hf.out; omega
        clear hfull
        go_wp2_with fail
        go_region_held3 (fun w' => w'.cell? ⟨g, 1, none⟩ = some (.string s)) (go_keep)
          (first
            | (go_at_call 13
               refine (send_room bq _ got ss fq s _ (hbc.q.keeps (Keeps.refl wc []).drew (by simp)) hroom).mono ?_
               rintro e w1 ⟨fq', rfl, hq1, hk1, hn1⟩
               have hk1' := hk1.ofDrew
               have d1 : w1.cell? ⟨g, 1, none⟩ = some (.string s) := (hblk.keeps hk1' hgq).cell 1)
            | (go_at_call 32
               refine (rsend_room br acked got ss fr _ s (hbc.rkeeps hk1') hroom).mono ?_
               rintro e w2 ⟨fr', rfl, hr2, hk2, hn2⟩
               have d2 : w2.cell? ⟨g, 1, none⟩ = some (.string s) := ((hblk.keeps hk1' hgq).keeps hk2 hgr).cell 1))
        all_goals
          go_wp2_with fail
          go_ret
          exact hbc.fin Hk.out hq1 hk1' hn1 hr2 hk2 hn2 (by simp; omega) (by simp; omega)
    have e0 : (kind == 0) = false := by simpa using hk0
    by_cases hk1 : kind = 1
    · subst hk1
      obtain ⟨n, hn, hnlt, ⟨hle, hL, hback⟩ | ⟨hgt, L, hL, hmL, hLlt⟩⟩ := ack_nums acked h ss.length hbc.few
      · have hA := ack_ok bq _ got ss fq h (ss.length - n) wc hbc.q hL (by omega) hbc.few
        rw [show ss.length - (ss.length - n) = n by omega] at hA
        have HA := Lib.hid (And.intro hA (And.intro hn (And.intro hle hback)))
        clear hA hn hle hL hback hnlt hk0 e0
        go_wp2_with fail
        refine HA.out.1.mono ?_
        rintro e w1 ⟨fq', A, c, fo, rfl, hq1, hr1, hd1, hk1, hn1⟩
        have hR := rack_ok br acked got ss fr w1 h n (hbc.rkeeps hk1) HA.out.2.1 HA.out.2.2.1 hbc.few
        have hr1' : Reads w1 1 A n (strs (ss.take n)) fo := hr1
        have H1 := Lib.hid (And.intro hR (And.intro hq1 (And.intro hr1' (And.intro hd1 (And.intro hk1 hn1)))))
        clear hR hq1 hr1 hr1' hd1 hk1 hn1
        go_wp2_with fail
        refine H1.out.1.mono ?_
        rintro e w2 ⟨fr', v2, fo2, rfl, hr2, ho2, hd2, hk2, hn2⟩
        obtain ⟨A2, c2, rfl, -, fo3, hr3, -⟩ := ho2.form
        have H2 := Lib.hid (And.intro hr2 (And.intro ho2 (And.intro hk2 (And.intro hn2 hr3))))
        clear hr2 ho2 hk2 hn2 hr3 hd2
        go_wp2_with fail
        refine (same_calls A A2 n n c c2 (ss.take n) (ss.take n) fo fo3 w2 (H1.out.2.2.1.keeps H2.out.2.2.1 (fun k hm hf => hbc.apart k (H1.out.2.2.2.1 k hm).1 hf)) H2.out.2.2.2.2
          (by have := HA.out.2.2.1; have := hbc.few; omega) (by have := HA.out.2.2.1; have := hbc.few; omega)).mono ?_
        rintro e w3 ⟨rfl, q3, rfl⟩
        go_wp2_with fail
        go_ret
        obtain ⟨-, hq1, hr1, hd1, hk1, hn1⟩ := H1.out
        obtain ⟨hr2, ho2, hk2, hn2, hr3⟩ := H2.out
        obtain ⟨-, hn, hle, hback⟩ := HA.out
        have hfin := (hbc.fin (r := .bool true) Hk.out hq1 hk1 hn1 hr2 hk2 hn2 (by rw [List.length_drop]; omega) (by rw [List.length_drop]; have := hbc.few; omega)).widen ((Keeps.refl _ _).drewN q3)
        simpa using hfin
      · have HA := Lib.hid (And.intro (ack_range bq _ got ss fq h L wc hbc.q hL hmL hLlt) (rack_range br acked got ss fr wc h n hbc.r hn hgt))
        clear hn hnlt hgt hL hmL hLlt hk0 e0
        go_wp2_with fail
        refine HA.out.1.mono ?_
        rintro e w1 ⟨rfl, rfl⟩
        go_wp2_with fail
        refine HA.out.2.mono ?_
        rintro e w1 ⟨rfl, rfl⟩
        go_wp2_with fail
        refine (same_calls none none 0 0 0 0 [] [] [] [] wc (Reads.zero _ _ _) (Reads.zero _ _ _) (by omega) (by omega)).mono ?_
        rintro e w3 ⟨rfl, q3, rfl⟩
        go_wp2_with fail
        go_ret
        have hfin := (hbc.fin (r := .bool true) Hk.out hbc.q (Keeps.refl _ _) (fun _ h => .inl h) hbc.r (Keeps.refl _ _) (fun _ h => .inl h) rfl hbc.few).widen ((Keeps.refl _ _).drewN q3)
        simpa using hfin
    have e1 : (kind == 1) = false := by simpa using hk1
    by_cases hk2 : kind = 2
    · subst hk2
      obtain ⟨n, hn, hnlt, ⟨hle, hL, hback⟩ | ⟨hgt, L, hL, hmL, hLlt⟩⟩ := ack_nums acked h ss.length hbc.few
      · have hA := resume_ok bq _ got ss fq h (ss.length - n) wc hbc.q hL (by omega) hbc.few
        rw [show ss.length - (ss.length - n) = n by omega] at hA
        have HA := Lib.hid (And.intro hA (And.intro hn (And.intro hle hback)))
        clear hA hn hle hL hback hnlt hk0 e0 hk1 e1
        go_wp2_with fail
        refine HA.out.1.mono ?_
        rintro e w1 ⟨fq', v1, fo, rfl, hq1, ho1, hd1, hk1, hn1⟩
        have hR := rresume_ok br acked got ss fr h n w1 (hbc.rkeeps hk1) HA.out.2.1 HA.out.2.2.1 hbc.few
        rw [List.length_drop] at ho1
        obtain ⟨A, c, rfl, -, fo1, hr1, hfo1⟩ := ho1.form
        have H1 := Lib.hid (And.intro hR (And.intro hq1 (And.intro hr1 (And.intro (fun k hm => hd1 k (hfo1 k hm)) (And.intro hk1 hn1)))))
        clear hR hq1 hr1 hd1 hk1 hn1 ho1 hfo1
        go_wp2_with fail
        refine H1.out.1.mono ?_
        rintro e w2 ⟨fr', v2, fo2, rfl, hr2, ho2, hd2, hk2, hn2⟩
        rw [List.length_drop] at ho2
        obtain ⟨A2, c2, rfl, -, fo3, hr3, -⟩ := ho2.form
        have H2 := Lib.hid (And.intro hr2 (And.intro ho2 (And.intro hk2 (And.intro hn2 hr3))))
        clear hr2 ho2 hk2 hn2 hr3 hd2
        go_wp2_with fail
        refine (same_calls A A2 (ss.length - n) (ss.length - n) c c2 (ss.drop n) (ss.drop n) fo1 fo3 w2 (H1.out.2.2.1.keeps H2.out.2.2.1 (fun k hm hf => by have h1 := (H1.out.2.2.2.1 k hm).1; have h2 := hbc.r.lt k hf; omega)) H2.out.2.2.2.2
          (by have := hbc.few; omega) (by have := hbc.few; omega)).mono ?_
        rintro e w3 ⟨rfl, q3, rfl⟩
        go_wp2_with fail
        go_ret
        obtain ⟨-, hq1, hr1, hd1, hk1, hn1⟩ := H1.out
        obtain ⟨hr2, ho2, hk2, hn2, hr3⟩ := H2.out
        obtain ⟨-, hn, hle, hback⟩ := HA.out
        have hfin := (hbc.fin (r := .bool true) Hk.out hq1 hk1 hn1 hr2 hk2 hn2 (by rw [List.length_drop]; omega) (by rw [List.length_drop]; have := hbc.few; omega)).widen ((Keeps.refl _ _).drewN q3)
        simpa using hfin
      · have HA := Lib.hid (And.intro (resume_range bq _ got ss fq h L wc hbc.q hL hmL hLlt) (rresume_range br acked got ss fr h n wc hbc.r hn hgt))
        clear hn hnlt hgt hL hmL hLlt hk0 e0 hk1 e1
        go_wp2_with fail
        refine HA.out.1.mono ?_
        rintro e w1 ⟨rfl, rfl⟩
        go_wp2_with fail
        refine HA.out.2.mono ?_
        rintro e w1 ⟨rfl, rfl⟩
        go_wp2_with fail
        refine (same_calls none none 0 0 0 0 [] [] [] [] wc (Reads.zero _ _ _) (Reads.zero _ _ _) (by omega) (by omega)).mono ?_
        rintro e w3 ⟨rfl, q3, rfl⟩
        go_wp2_with fail
        go_ret
        have hfin := (hbc.fin (r := .bool true) Hk.out hbc.q (Keeps.refl _ _) (fun _ h => .inl h) hbc.r (Keeps.refl _ _) (fun _ h => .inl h) rfl hbc.few).widen ((Keeps.refl _ _).drewN q3)
        simpa using hfin
    have e2 : (kind == 2) = false := by simpa using hk2
    by_cases hk3 : kind = 3
    · subst hk3
      clear hk0 e0 hk1 e1 hk2 e2
      go_wp2_with fail
      refine (got_calls bq _ got ss fq wc hbc.q).mono ?_
      rintro e w1 ⟨fq', rfl, hq1, hk1, hn1⟩
      have H1 := Lib.hid (And.intro hq1 (And.intro hk1 hn1)); clear hq1 hk1 hn1
      go_wp2_with fail
      refine (rgot_calls br acked got ss fr w1 (hbc.rkeeps H1.out.2.1)).mono ?_
      rintro e w2 ⟨fr', rfl, hr2, hk2, hn2⟩
      have H2 := Lib.hid (And.intro hr2 (And.intro hk2 hn2)); clear hr2 hk2 hn2
      go_wp2_with fail
      go_ret
      exact hbc.fin Hk.out H1.out.1 H1.out.2.1 H1.out.2.2 H2.out.1 H2.out.2.1 H2.out.2.2 rfl hbc.few
    · have e3 : (kind == 3) = false := by simpa using hk3
      clear hk0 hk1 hk2 hk3
      go_wp2_with fail
      go_ret
      exact hbc.fin Hk.out hbc.q (Keeps.refl _ _) (fun _ h => .inl h) hbc.r (Keeps.refl _ _) (fun _ h => .inl h) rfl hbc.few

end Go.Proofs.Ytgkbkggegdmcgaa
