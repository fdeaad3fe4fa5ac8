/-
  CONTRACTS: heliographlaw07.do: one deed on both devices.
-/
import Derived.Test.YtopeipaeefohlaaD9
namespace Go.Proofs.Ytopeipaeefohlaa
open Go.RowKit
set_option linter.unusedVariables false

/-- both devices hold the same. -/
structure DBoth (w : World) (bd br : Nat) (l : List Sec) (loose : List Wr) (fd fr : List Nat) : Prop where
  d : DRep w bd l (land l loose) loose fd
  r : RRep w br l loose fr
  wi : ∀ x ∈ loose, x.i < l.length
  small : l.length ≤ 4096
  apart : ∀ k ∈ fd, k ∉ fr
theorem DBoth.nil {w w' : World} {bd br : Nat} {l : List Sec} {loose : List Wr} {fd fr : List Nat} (h : DBoth w bd br l loose fd fr) (hk : Keeps w w' []) : DBoth w' bd br l loose fd fr :=
  ⟨h.d.nil hk, h.r.nil hk, h.wi, h.small, h.apart⟩
theorem DBoth.keeps {w w' : World} {bd br : Nat} {l : List Sec} {loose : List Wr} {fd fr f : List Nat} (h : DBoth w bd br l loose fd fr) (hk : Keeps w w' f) (hd : ∀ k ∈ fd ++ fr, k ∉ f) : DBoth w' bd br l loose fd fr :=
  ⟨h.d.keeps hk (fun k hm => hd k (by simp [hm])), h.r.keeps hk (fun k hm => hd k (by simp [hm])), h.wi, h.small, h.apart⟩
/-- a deed: its kind, its sector, its byte; what survives. -/
structure DeedD where
  kind : Int
  i : Int
  c : Int
  S : Option Addr
  sv : List Bool
  cS : Nat
def DeedD.val (x : DeedD) : Value := .agg #[.int .i64 x.kind, .int .i64 x.i, .int .u8 x.c, .slice x.S x.sv.length x.cS]
/-- what a deed on both leaves: they agree. -/
def DDo (w : World) (bd br : Nat) (n m : Nat) (fd fr : List Nat) (e : Ending) (w' : World) : Prop :=
  ∃ l loose fd' fr', e = .returned (.bool true) ∧ DBoth w' bd br l loose fd' fr' ∧ l.length = n ∧ loose.length ≤ m + 1 ∧ Keeps w w' (fd ++ fr) ∧ ∀ k ∈ fd' ++ fr', k ∈ fd ++ fr ∨ w.heap.size ≤ k

/-- a step of the one, then a step of the other. -/
theorem DBoth.steps {w w1 w2 w3 : World} {bd br : Nat} {l l' : List Sec} {loose loose' : List Wr} {fd fr : List Nat} {e1 e2 : Ending} {rd rr : Value} (h : DBoth w bd br l loose fd fr)
    (h1 : DStep w fd rd bd l' (land l' loose') loose' e1 w1) (hk : Keeps w1 w2 []) (h2 : RStep w2 fr rr br l' loose' e2 w3) (hl : l'.length = l.length) (hw : ∀ x ∈ loose', x.i < l'.length) (hn : loose'.length ≤ loose.length + 1) :
    ∃ fd' fr', e1 = .returned rd ∧ e2 = .returned rr ∧ DBoth w3 bd br l' loose' fd' fr' ∧ Keeps w w3 (fd ++ fr) ∧ ∀ k ∈ fd' ++ fr', k ∈ fd ++ fr ∨ w.heap.size ≤ k := by
  obtain ⟨fd', rfl, hd, hk1, hn1⟩ := h1
  obtain ⟨fr', rfl, hr, hk3, hn3⟩ := h2
  have s1 := hk1.size
  have s2 := hk.size
  have hdlt := h.d.lt
  have hrlt := h.r.lt
  have hd1 : ∀ k ∈ fd', k ∉ fr := fun k hk2 h3 => by
    rcases hn1 k hk2 with h4 | h4
    · exact h.apart k h4 h3
    · have := hrlt k h3; omega
  have hd' := (hd.nil hk).keeps hk3 hd1
  have hdlt' := hd.lt
  refine ⟨fd', fr', rfl, rfl, ⟨hd', hr, hw, by rw [hl]; exact h.small, fun k h3 h4 => ?_⟩, ?_, ?_⟩
  · rcases hn3 k h4 with h5 | h5
    · exact hd1 k h3 h5
    · have := hdlt' k h3; omega
  · exact ((hk1.mono (fun k _ hk => by simp [hk])).trans hk (by simp)).trans hk3 (fun k _ hk => by simp [hk])
  · intro k hm
    rcases List.mem_append.1 hm with h3 | h3
    · rcases hn1 k h3 with h4 | h4
      · simp [h4]
      · exact .inr h4
    · rcases hn3 k h3 with h4 | h4
      · simp [h4]
      · right; omega

set_option maxHeartbeats 1000000 in
theorem do_calls (bd br : Nat) (l : List Sec) (loose : List Wr) (fd fr : List Nat) (x : DeedD) (fS : List Nat) (w : World) (h : DBoth w bd br l loose fd fr) (hS : Reads w 1 x.S x.sv.length (bools x.sv) fS) (hsl : x.sv.length ≤ maxLen) (hdis : ∀ k ∈ fS, k ∉ fd ++ fr) (hlen : loose.length ≤ 10000) :
    Calls Try.prog 24 #[.pointer (some ⟨bd, 0, none⟩), .pointer (some ⟨br, 0, none⟩), x.val] w (DDo w bd br l.length loose.length fd fr) := by
  obtain ⟨kind, i, c, S, sv, cS⟩ := x
  simp only [DeedD.val] at hS hsl ⊢
  have hbox := Blk.new w 47 #[.int .i64 kind, .int .i64 i, .int .u8 c, .slice S sv.length cS]
  obtain ⟨w0, hw0⟩ : ∃ w0, w0 = w.alloc (.cells #[.int .i64 kind, .int .i64 i, .int .u8 c, .slice S sv.length cS] 47) := ⟨_, rfl⟩
  have hk0 : Keeps w w0 [] := by subst hw0; exact (Keeps.refl w []).alloc _
  rw [← hw0] at hbox
  have c1 : w0.cell? ⟨w.heap.size, 1, none⟩ = some (.int .i64 i) := hbox.cell 1
  have c2 : w0.cell? ⟨w.heap.size, 2, none⟩ = some (.int .u8 c) := hbox.cell 2
  have c3 : w0.cell? ⟨w.heap.size, 3, none⟩ = some (.slice S sv.length cS) := hbox.cell 3
  have hbf : w.heap.size ∉ fd := fun hm => by have := h.d.lt _ hm; omega
  have hbf2 : w.heap.size ∉ fd ++ fr := fun hm => by
    rcases List.mem_append.1 hm with hm | hm
    · have := h.d.lt _ hm; omega
    · have := h.r.lt _ hm; omega
  have HB := Lib.hid (And.intro (h.nil hk0) (And.intro (hS.keeps hk0 (by simp)) (And.intro hbox hk0)))
  clear h hS hbox hk0
  have hfin : ∀ (e : Ending) (w3 : World) (l' : List Sec) (loose' : List Wr) (fd' fr' : List Nat), e = .returned (.bool true) → DBoth w3 bd br l' loose' fd' fr' → Keeps w0 w3 (fd ++ fr) → (∀ k ∈ fd' ++ fr', k ∈ fd ++ fr ∨ w0.heap.size ≤ k) → l'.length = l.length → loose'.length ≤ loose.length + 1 →
      DDo w bd br l.length loose.length fd fr e w3 := fun e w3 l' loose' fd' fr' he hb hk hn h1 h2 =>
    ⟨l', loose', fd', fr', he, hb, h1, h2, (HB.out.2.2.2.mono (by simp)).trans hk (fun _ _ h => h), fun k hk => by
      rcases hn k hk with h | h
      · exact .inl h
      · have := HB.out.2.2.2.size; right; omega⟩
  have HFIN := Lib.hid hfin
  clear hfin
  by_cases hk0 : kind = 0
  · subst hk0
    by_cases hin : 0 ≤ i ∧ i < l.length
    · obtain ⟨n, rfl⟩ := Int.eq_ofNat_of_zero_le hin.1
      have hn : n < l.length := by omega
      clear hin
      go_enter Try.func24, Try.ntmps24
      go_upto_region 3 with (fail)
      rw [← hw0]
      clear hw0
      go_region_held3 (fun w' => w'.cell? ⟨w.heap.size, 1, none⟩ = some (.int .i64 (n : Int)) ∧ w'.cell? ⟨w.heap.size, 2, none⟩ = some (.int .u8 c)) (go_keep)
        (first
          | (go_at_call 12
             first
               | (refine (sector_calls c w0.drew).mono ?_
                  rintro e w1 ⟨rfl, K1⟩
                  have hb1 := HB.out.2.2.1.drew.keeps K1 (by simp)
                  have d1 : w1.cell? ⟨w.heap.size, 1, none⟩ = some (.int .i64 (n : Int)) := hb1.cell 1
                  have d2 : w1.cell? ⟨w.heap.size, 2, none⟩ = some (.int .u8 c) := hb1.cell 2)
               | (refine (sector_calls c w2).mono ?_
                  rintro e w3 ⟨rfl, K3⟩
                  have hb3 := hb2.keeps K3 (by simp)
                  have d5 : w3.cell? ⟨w.heap.size, 1, none⟩ = some (.int .i64 (n : Int)) := hb3.cell 1
                  have d6 : w3.cell? ⟨w.heap.size, 2, none⟩ = some (.int .u8 c) := hb3.cell 2))
          | (go_at_call 11
             refine (write_ok bd l _ loose fd _ n (Sec.all c) ((HB.out.1.d.nil (Keeps.refl w0 []).drew).nil K1) (by rw [land_length]; exact hn) (by rw [land_length]; exact HB.out.1.small) (by omega)).mono ?_
             intro e w2 hs2
             rw [← land_snoc l loose ⟨n, Sec.all c⟩] at hs2
             have hkk : Keeps w1 w2 fd := by obtain ⟨fd', -, -, hk1, -⟩ := hs2; exact hk1
             have hr2 : RRep w2 br l loose fr := ((HB.out.1.r.nil (Keeps.refl w0 []).drew).nil K1).keeps hkk (fun k h1 h2 => HB.out.1.apart k h2 h1)
             have hb2 := hb1.keeps hkk hbf
             have d3 : w2.cell? ⟨w.heap.size, 1, none⟩ = some (.int .i64 (n : Int)) := hb2.cell 1
             have d4 : w2.cell? ⟨w.heap.size, 2, none⟩ = some (.int .u8 c) := hb2.cell 2
             have HR := hr2
             have HS0 := hs2
             obtain ⟨-, rfl, -, -, -⟩ := hs2)
          | (go_at_call 35
             have HS := Lib.hid (And.intro HS0 (And.intro True.intro (HR.nil K3)))
             refine (rwrite_ok br l loose fr _ n (Sec.all c) HS.out.2.2 hn HB.out.1.small (by omega)).mono ?_
             intro e w4 hs4
             obtain ⟨fd', fr', -, he, hb, hk, hn9⟩ := ((HB.out.1.nil (Keeps.refl w0 []).drew).nil K1).steps (l' := l) (loose' := loose ++ [⟨n, Sec.all c⟩]) HS.out.1 K3 hs4 rfl (fun x hx => by
                 rcases List.mem_append.1 hx with hx | hx
                 · exact HB.out.1.wi x hx
                 · simp at hx; subst hx; exact hn) (by simp)
             subst he
             have HX := Lib.hid (And.intro hb (And.intro hk (And.intro hn9 K1)))
             have hb4 := (hb1.keeps hk hbf2)
             have d7 : w4.cell? ⟨w.heap.size, 1, none⟩ = some (.int .i64 (n : Int)) := hb4.cell 1
             have d8 : w4.cell? ⟨w.heap.size, 2, none⟩ = some (.int .u8 c) := hb4.cell 2
             clear hb hk hn9 hs4))
      all_goals
        go_wp2_with fail
        go_ret
        have K1' := HX.out.2.2.2.ofDrew
        exact HFIN.out _ _ _ _ fd' fr' rfl HX.out.1 ((K1'.mono (by simp)).trans HX.out.2.1 (fun _ _ h => h)) (fun k hk => by
          rcases HX.out.2.2.1 k hk with h | h
          · exact .inl h
          · have := K1'.size; right; omega) rfl (by simp)
    · go_enter Try.func24, Try.ntmps24
      go_upto_region 3 with (fail)
      rw [← hw0]
      clear hw0
      go_region_held3 (fun w' => w'.cell? ⟨w.heap.size, 1, none⟩ = some (.int .i64 i) ∧ w'.cell? ⟨w.heap.size, 2, none⟩ = some (.int .u8 c)) (go_keep)
        (first
          | (go_at_call 12
             first
               | (refine (sector_calls c w0.drew).mono ?_
                  rintro e w1 ⟨rfl, K1⟩
                  have hb1 := HB.out.2.2.1.drew.keeps K1 (by simp)
                  have d1 : w1.cell? ⟨w.heap.size, 1, none⟩ = some (.int .i64 i) := hb1.cell 1
                  have d2 : w1.cell? ⟨w.heap.size, 2, none⟩ = some (.int .u8 c) := hb1.cell 2)
               | (refine (sector_calls c w2).mono ?_
                  rintro e w3 ⟨rfl, K3⟩
                  have hb3 := hb2.keeps K3 (by simp)
                  have d5 : w3.cell? ⟨w.heap.size, 1, none⟩ = some (.int .i64 i) := hb3.cell 1
                  have d6 : w3.cell? ⟨w.heap.size, 2, none⟩ = some (.int .u8 c) := hb3.cell 2))
          | (go_at_call 11
             refine (write_range bd l _ loose fd _ i (Sec.all c) ((HB.out.1.d.nil (Keeps.refl w0 []).drew).nil K1) (by rw [land_length]; omega) (by rw [land_length]; exact HB.out.1.small)).mono ?_
             intro e w2 hs2
             have hkk : Keeps w1 w2 fd := by obtain ⟨fd', -, -, hk1, -⟩ := hs2; exact hk1
             have hr2 : RRep w2 br l loose fr := ((HB.out.1.r.nil (Keeps.refl w0 []).drew).nil K1).keeps hkk (fun k h1 h2 => HB.out.1.apart k h2 h1)
             have hb2 := hb1.keeps hkk hbf
             have d3 : w2.cell? ⟨w.heap.size, 1, none⟩ = some (.int .i64 i) := hb2.cell 1
             have d4 : w2.cell? ⟨w.heap.size, 2, none⟩ = some (.int .u8 c) := hb2.cell 2
             have HR := hr2
             have HS0 := hs2
             obtain ⟨-, rfl, -, -, -⟩ := hs2)
          | (go_at_call 35
             have HS := Lib.hid (And.intro HS0 (And.intro True.intro (HR.nil K3)))
             refine (rwrite_range br l loose fr _ i (Sec.all c) HS.out.2.2 (by omega) HB.out.1.small).mono ?_
             intro e w4 hs4
             obtain ⟨fd', fr', -, he, hb, hk, hn9⟩ := ((HB.out.1.nil (Keeps.refl w0 []).drew).nil K1).steps (l' := l) (loose' := loose) HS.out.1 K3 hs4 rfl HB.out.1.wi (by omega)
             subst he
             have HX := Lib.hid (And.intro hb (And.intro hk (And.intro hn9 K1)))
             have hb4 := (hb1.keeps hk hbf2)
             have d7 : w4.cell? ⟨w.heap.size, 1, none⟩ = some (.int .i64 i) := hb4.cell 1
             have d8 : w4.cell? ⟨w.heap.size, 2, none⟩ = some (.int .u8 c) := hb4.cell 2
             clear hb hk hn9 hs4))
      all_goals
        go_wp2_with fail
        go_ret
        have K1' := HX.out.2.2.2.ofDrew
        exact HFIN.out _ _ _ _ fd' fr' rfl HX.out.1 ((K1'.mono (by simp)).trans HX.out.2.1 (fun _ _ h => h)) (fun k hk => by
          rcases HX.out.2.2.1 k hk with h | h
          · exact .inl h
          · have := K1'.size; right; omega) rfl (by omega)
  · by_cases hk1 : kind = 1
    · subst hk1
      go_enter Try.func24, Try.ntmps24
      go_wp2_with fail
      rw [← hw0]
      refine (sync_ok bd l _ loose fd w0 HB.out.1.d HB.out.1.small (by omega) HB.out.1.wi).mono ?_
      intro e w1 hs1
      have hr1 : RRep w1 br l loose fr := by
        obtain ⟨fd', -, -, hk1, -⟩ := hs1
        exact HB.out.1.r.keeps hk1 (fun k h1 h2 => HB.out.1.apart k h2 h1)
      have HS := Lib.hid (And.intro hs1 hr1)
      obtain ⟨-, rfl, -, -, -⟩ := hs1
      clear hr1
      go_wp2_with fail
      refine (rsync_ok br l loose fr w1 HS.out.2 HB.out.1.small (by omega) HB.out.1.wi).mono ?_
      intro e w3 hs3
      obtain ⟨fd', fr', -, he, hb, hk, hn⟩ := HB.out.1.steps (l' := land l loose) (loose' := []) HS.out.1 (Keeps.refl w1 []) hs3 (land_length _ _) (by simp) (by simp)
      subst he
      have HX := Lib.hid (And.intro hb (And.intro hk hn))
      clear hb hk hn hs3
      go_wp2_with fail
      go_ret
      exact HFIN.out _ _ _ _ fd' fr' rfl HX.out.1 HX.out.2.1 HX.out.2.2 (land_length _ _) (by simp)
    · by_cases hk2 : kind = 2
      · subst hk2
        go_enter Try.func24, Try.ntmps24
        go_upto_region 7 with (fail)
        rw [← hw0]
        clear hw0
        go_region_held3 (fun w' => w'.cell? ⟨w.heap.size, 3, none⟩ = some (.slice S sv.length cS)) (go_keep)
          (first
            | (go_at_call 14
               refine (crash_ok S cS sv fS bd l _ loose fd _ (HB.out.1.d.nil (Keeps.refl w0 []).drew) HB.out.2.1.drew hsl (fun k h1 h2 => hdis k h1 (by simp [h2])) HB.out.1.small (by omega) HB.out.1.wi).mono ?_
               intro e w1 hs1
               have hkk : Keeps w0.drew w1 fd := by obtain ⟨fd', -, -, hk1, -⟩ := hs1; exact hk1
               have hr1 : RRep w1 br l loose fr := (HB.out.1.r.nil (Keeps.refl w0 []).drew).keeps hkk (fun k h1 h2 => HB.out.1.apart k h2 h1)
               have hS1 : Reads w1 1 S sv.length (bools sv) fS := HB.out.2.1.drew.keeps hkk (fun k h1 h2 => hdis k h1 (by simp [h2]))
               have HS := Lib.hid (And.intro hs1 (And.intro hr1 hS1))
               have d3 : w1.cell? ⟨w.heap.size, 3, none⟩ = some (.slice S sv.length cS) := (HB.out.2.2.1.drew.keeps hkk hbf).cell 3
               obtain ⟨-, rfl, -, -, -⟩ := hs1
               clear hr1 hS1 hkk)
            | (go_at_call 23
               refine (rcrash_ok S cS sv fS br l loose fr w1 HS.out.2.1 HS.out.2.2 HB.out.1.small (by omega) HB.out.1.wi).mono ?_
               intro e w3 hs3
               obtain ⟨fd', fr', -, he, hb, hk, hn⟩ := (HB.out.1.nil (Keeps.refl w0 []).drew).steps (l' := land l (surv loose sv)) (loose' := []) HS.out.1 (Keeps.refl w1 []) hs3 (land_length _ _) (by simp) (by simp)
               subst he
               have HX := Lib.hid (And.intro hb (And.intro hk hn))
               have d4 : w3.cell? ⟨w.heap.size, 3, none⟩ = some (.slice S sv.length cS) := (HB.out.2.2.1.drew.keeps hk hbf2).cell 3
               clear hb hk hn hs3))
        all_goals
          go_wp2_with fail
          go_ret
          exact HFIN.out _ _ _ _ fd' fr' rfl HX.out.1 HX.out.2.1.ofDrew HX.out.2.2 (land_length _ _) (by simp)
      · have e0 : ((kind : Int) == 0) = false := by simp; omega
        go_enter Try.func24, Try.ntmps24
        go_wp2_with fail
        go_ret
        rw [← hw0]
        exact HFIN.out _ _ l loose fd fr rfl HB.out.1 (Keeps.refl _ _) (fun k hk => .inl hk) rfl (by omega)

end Go.Proofs.Ytopeipaeefohlaa
