/-
  CONTRACTS: jid.join, jid.Right, jid.Print. (Printed by wip/tools/mk_w2.py.)
-/
import Derived.Test.YtbfcgiodpcchnaaW1
namespace Go.Proofs.Ytbfcgiodpcchnaa
open Go.RowKit
set_option linter.unusedVariables false

/-- an address's text. -/
def joinB (l d r : ByteArray) : ByteArray :=
  if r.size = 0 then (if l.size = 0 then d else l ++ ⟨#[64]⟩ ++ d) else (if l.size = 0 then d else l ++ ⟨#[64]⟩ ++ d) ++ ⟨#[47]⟩ ++ r
def isRight (l d r : ByteArray) : Prop := isPart d ∧ (l.size = 0 ∨ isPart l) ∧ (r.size = 0 ∨ isPart r) ∧ (joinB l d r).size ≤ 64
theorem empty_of (s : ByteArray) (h : s.size = 0) : s = ⟨#[]⟩ := by
  obtain ⟨d⟩ := s
  have : d.size = 0 := h
  rw [Array.eq_empty_of_size_eq_zero this]
theorem empty_size : (⟨#[]⟩ : ByteArray).size = 0 := rfl
abbrev jidV (l d r : ByteArray) : Value := .agg #[.string l, .string d, .string r]

set_option maxHeartbeats 1600000 in
theorem join_calls (l d r : ByteArray) (w : World) (h1 : l.size ≤ 64) (h2 : d.size ≤ 64) (h3 : r.size ≤ 64) : Calls Try.prog 18 #[.agg #[.string l, .string d, .string r]] w fun e w' => e = .returned (.string (joinB l d r)) ∧ Keeps w w' [] := by
  have i1 : (l.size : Int) ≤ 64 := by omega
  have i2 : (d.size : Int) ≤ 64 := by omega
  have i3 : (r.size : Int) ≤ 64 := by omega
  clear h1 h2 h3
  rcases Nat.eq_zero_or_pos l.size with hl | hl <;> rcases Nat.eq_zero_or_pos r.size with hr | hr
  · obtain rfl := empty_of l hl
    obtain rfl := empty_of r hr
    have hj : joinB ⟨#[]⟩ d ⟨#[]⟩ = d := by unfold joinB; rw [if_pos empty_size, if_pos empty_size]
    rw [hj]
    clear hj hl hr
    go_enter Try.func18, Try.ntmps18
    go_wp2_with fail
    go_ret
    exact ⟨rfl, (Keeps.refl w []).alloc _⟩
  · obtain rfl := empty_of l hl
    have hnr := not_empty r hr
    have hj : joinB ⟨#[]⟩ d r = d ++ ⟨#[47]⟩ ++ r := by unfold joinB; rw [if_neg (by omega), if_pos empty_size]
    rw [hj]
    clear hj hl hr
    go_enter Try.func18, Try.ntmps18
    go_wp2_with fail
    go_ret
    exact ⟨rfl, (Keeps.refl w []).alloc _⟩
  · have hnl := not_empty l hl
    obtain rfl := empty_of r hr
    have hj : joinB l d ⟨#[]⟩ = l ++ ⟨#[64]⟩ ++ d := by unfold joinB; rw [if_pos empty_size, if_neg (by omega)]
    rw [hj]
    clear hj hl hr
    go_enter Try.func18, Try.ntmps18
    go_wp2_with fail
    go_ret
    exact ⟨rfl, (Keeps.refl w []).alloc _⟩
  · have hnl := not_empty l hl
    have hnr := not_empty r hr
    have hj : joinB l d r = l ++ ⟨#[64]⟩ ++ d ++ ⟨#[47]⟩ ++ r := by unfold joinB; rw [if_neg (by omega), if_neg (by omega)]
    rw [hj]
    clear hj hl hr
    go_enter Try.func18, Try.ntmps18
    go_wp2_with fail
    go_ret
    exact ⟨rfl, (Keeps.refl w []).alloc _⟩

theorem decB (p : Prop) : ∃ q : Bool, q = true ↔ p := by
  by_cases h : p
  · exact ⟨true, by simp [h]⟩
  · exact ⟨false, by simp [h]⟩
theorem false_of {q : Bool} {p : Prop} (h : q = true ↔ p) (hn : ¬ p) : q = false := by
  cases q
  · rfl
  · exact absurd (h.1 rfl) hn
set_option maxHeartbeats 3200000 in
theorem right_calls (l d r : ByteArray) (w : World) (m1 : l.size ≤ maxLen) (m2 : d.size ≤ maxLen) (m3 : r.size ≤ maxLen) (q : Bool) (hq : q = true ↔ isRight l d r) : Calls Try.prog 11 #[.agg #[.string l, .string d, .string r]] w fun e w' => e = .returned (.bool q) ∧ Keeps w w' [] := by
  obtain ⟨qd, hqd⟩ := decB (isPart d)
  obtain ⟨ql, hql⟩ := decB (isPart l)
  obtain ⟨qr, hqr⟩ := decB (isPart r)
  have HD := Lib.hid (fun wx => part_calls d wx m2 qd hqd)
  have HL := Lib.hid (fun wx => part_calls l wx m1 ql hql)
  have HR := Lib.hid (fun wx => part_calls r wx m3 qr hqr)
  have H := Lib.hid (And.intro hq (And.intro hqd (And.intro hql hqr)))
  clear hq hqd hql hqr m1 m2 m3
  cases qd
  · have hn : ¬ isPart d := fun h => by (have := H.out.2.1.2 h); cases this
    obtain rfl : q = false := false_of H.out.1 (fun h => hn h.1)
    go_enter Try.func11, Try.ntmps11
    go_wp2_with fail
    refine (HD.out _).mono ?_
    rintro e w1 ⟨rfl, rfl⟩
    go_wp2_with fail
    go_ret
    exact ⟨rfl, (Keeps.refl w []).alloc _⟩
  · rcases Nat.eq_zero_or_pos l.size with hl | hl
    · obtain rfl := empty_of l hl
      rcases Nat.eq_zero_or_pos r.size with hr | hr
      · obtain rfl := empty_of r hr
        have pd := H.out.2.1.1 rfl
        have HJ := Lib.hid (fun wx => join_calls ⟨#[]⟩ d ⟨#[]⟩ wx (by decide) pd.2.2 (by decide))
        have hqe : q = decide (((joinB ⟨#[]⟩ d ⟨#[]⟩).size : Int) ≤ 64) := by
          have h1 := H.out.1
          by_cases h : (joinB ⟨#[]⟩ d ⟨#[]⟩).size ≤ 64
          · rw [h1.2 ⟨pd, .inl rfl, .inl rfl, h⟩]; simp; omega
          · rw [false_of h1 (fun h2 => h h2.2.2.2)]; simp; omega
        rw [hqe]
        clear hqe pd 
        go_enter Try.func11, Try.ntmps11
        go_wp2_with fail
        refine (HD.out _).mono ?_
        rintro e w1 ⟨rfl, rfl⟩
        go_wp2_with fail
        refine (HJ.out _).mono ?_
        rintro e w2 ⟨rfl, hk2⟩
        have HK := Lib.hid (((Keeps.refl w []).alloc _).trans hk2 (by simp))
        clear hk2
        go_wp2_with fail
        go_ret
        exact ⟨rfl, HK.out⟩
      · cases qr
        · have hnr := not_empty r hr
          have hn : ¬ isPart r := fun h => by (have := H.out.2.2.2.2 h); cases this
          obtain rfl : q = false := false_of H.out.1 (fun h => by rcases h.2.2.1 with h | h; omega; exact hn h)
          clear hn hr
          go_enter Try.func11, Try.ntmps11
          go_wp2_with fail
          refine (HD.out _).mono ?_
          rintro e w1 ⟨rfl, rfl⟩
          go_wp2_with fail
          refine (HR.out _).mono ?_
          rintro e w1 ⟨rfl, rfl⟩
          go_wp2_with fail
          go_ret
          exact ⟨rfl, (Keeps.refl w []).alloc _⟩
        · have hnr := not_empty r hr
          have pd := H.out.2.1.1 rfl
          have pr := H.out.2.2.2.1 rfl
          have HJ := Lib.hid (fun wx => join_calls ⟨#[]⟩ d r wx (by decide) pd.2.2 pr.2.2)
          have hqe : q = decide (((joinB ⟨#[]⟩ d r).size : Int) ≤ 64) := by
            have h1 := H.out.1
            by_cases h : (joinB ⟨#[]⟩ d r).size ≤ 64
            · rw [h1.2 ⟨pd, .inl rfl, .inr pr, h⟩]; simp; omega
            · rw [false_of h1 (fun h2 => h h2.2.2.2)]; simp; omega
          rw [hqe]
          clear hqe pd pr 
          go_enter Try.func11, Try.ntmps11
          go_wp2_with fail
          refine (HD.out _).mono ?_
          rintro e w1 ⟨rfl, rfl⟩
          go_wp2_with fail
          refine (HR.out _).mono ?_
          rintro e w1 ⟨rfl, rfl⟩
          go_wp2_with fail
          refine (HJ.out _).mono ?_
          rintro e w2 ⟨rfl, hk2⟩
          have HK := Lib.hid (((Keeps.refl w []).alloc _).trans hk2 (by simp))
          clear hk2
          go_wp2_with fail
          go_ret
          exact ⟨rfl, HK.out⟩
    · have hnl := not_empty l hl
      cases ql
      · have hn : ¬ isPart l := fun h => by (have := H.out.2.2.1.2 h); cases this
        obtain rfl : q = false := false_of H.out.1 (fun h => by rcases h.2.1 with h | h; omega; exact hn h)
        clear hn hl
        go_enter Try.func11, Try.ntmps11
        go_wp2_with fail
        refine (HD.out _).mono ?_
        rintro e w1 ⟨rfl, rfl⟩
        go_wp2_with fail
        refine (HL.out _).mono ?_
        rintro e w1 ⟨rfl, rfl⟩
        go_wp2_with fail
        go_ret
        exact ⟨rfl, (Keeps.refl w []).alloc _⟩
      · rcases Nat.eq_zero_or_pos r.size with hr | hr
        · obtain rfl := empty_of r hr
          have pd := H.out.2.1.1 rfl
          have pl := H.out.2.2.1.1 rfl
          have HJ := Lib.hid (fun wx => join_calls l d ⟨#[]⟩ wx pl.2.2 pd.2.2 (by decide))
          have hqe : q = decide (((joinB l d ⟨#[]⟩).size : Int) ≤ 64) := by
            have h1 := H.out.1
            by_cases h : (joinB l d ⟨#[]⟩).size ≤ 64
            · rw [h1.2 ⟨pd, .inr pl, .inl rfl, h⟩]; simp; omega
            · rw [false_of h1 (fun h2 => h h2.2.2.2)]; simp; omega
          rw [hqe]
          clear hqe pd pl 
          go_enter Try.func11, Try.ntmps11
          go_wp2_with fail
          refine (HD.out _).mono ?_
          rintro e w1 ⟨rfl, rfl⟩
          go_wp2_with fail
          refine (HL.out _).mono ?_
          rintro e w1 ⟨rfl, rfl⟩
          go_wp2_with fail
          refine (HJ.out _).mono ?_
          rintro e w2 ⟨rfl, hk2⟩
          have HK := Lib.hid (((Keeps.refl w []).alloc _).trans hk2 (by simp))
          clear hk2
          go_wp2_with fail
          go_ret
          exact ⟨rfl, HK.out⟩
        · cases qr
          · have hnr := not_empty r hr
            have hn : ¬ isPart r := fun h => by (have := H.out.2.2.2.2 h); cases this
            obtain rfl : q = false := false_of H.out.1 (fun h => by rcases h.2.2.1 with h | h; omega; exact hn h)
            clear hn hr
            go_enter Try.func11, Try.ntmps11
            go_wp2_with fail
            refine (HD.out _).mono ?_
            rintro e w1 ⟨rfl, rfl⟩
            go_wp2_with fail
            refine (HL.out _).mono ?_
            rintro e w1 ⟨rfl, rfl⟩
            go_wp2_with fail
            refine (HR.out _).mono ?_
            rintro e w1 ⟨rfl, rfl⟩
            go_wp2_with fail
            go_ret
            exact ⟨rfl, (Keeps.refl w []).alloc _⟩
          · have hnr := not_empty r hr
            have pd := H.out.2.1.1 rfl
            have pl := H.out.2.2.1.1 rfl
            have pr := H.out.2.2.2.1 rfl
            have HJ := Lib.hid (fun wx => join_calls l d r wx pl.2.2 pd.2.2 pr.2.2)
            have hqe : q = decide (((joinB l d r).size : Int) ≤ 64) := by
              have h1 := H.out.1
              by_cases h : (joinB l d r).size ≤ 64
              · rw [h1.2 ⟨pd, .inr pl, .inr pr, h⟩]; simp; omega
              · rw [false_of h1 (fun h2 => h h2.2.2.2)]; simp; omega
            rw [hqe]
            clear hqe pd pl pr 
            go_enter Try.func11, Try.ntmps11
            go_wp2_with fail
            refine (HD.out _).mono ?_
            rintro e w1 ⟨rfl, rfl⟩
            go_wp2_with fail
            refine (HL.out _).mono ?_
            rintro e w1 ⟨rfl, rfl⟩
            go_wp2_with fail
            refine (HR.out _).mono ?_
            rintro e w1 ⟨rfl, rfl⟩
            go_wp2_with fail
            refine (HJ.out _).mono ?_
            rintro e w2 ⟨rfl, hk2⟩
            have HK := Lib.hid (((Keeps.refl w []).alloc _).trans hk2 (by simp))
            clear hk2
            go_wp2_with fail
            go_ret
            exact ⟨rfl, HK.out⟩

theorem print_right (l d r : ByteArray) (w : World) (m1 : l.size ≤ maxLen) (m2 : d.size ≤ maxLen) (m3 : r.size ≤ maxLen) (h : isRight l d r) : Calls Try.prog 10 #[.agg #[.string l, .string d, .string r]] w fun e w' => e = .returned (.tuple #[.string (joinB l d r), .int .i64 0]) ∧ Keeps w w' [] := by
  have HR := Lib.hid (fun wx => right_calls l d r wx m1 m2 m3 true (by simp [h]))
  have HJ := Lib.hid (fun wx => join_calls l d r wx (by rcases h.2.1 with h | h; omega; exact h.2.2) h.1.2.2 (by rcases h.2.2.1 with h | h; omega; exact h.2.2))
  clear m1 m2 m3 h
  go_enter Try.func10, Try.ntmps10
  go_wp2_with fail
  refine (HR.out _).mono ?_
  rintro e w1 ⟨rfl, hk1⟩
  have hb := (Blk.new w 30 #[.string l, .string d, .string r]).keeps hk1 (by simp)
  have z0 : w1.cell? ⟨w.heap.size, 0, none⟩ = some (.string l) := hb.cell 0
  have z1 : w1.cell? ⟨w.heap.size, 1, none⟩ = some (.string d) := hb.cell 1
  have z2 : w1.cell? ⟨w.heap.size, 2, none⟩ = some (.string r) := hb.cell 2
  have HK := Lib.hid (((Keeps.refl w []).alloc _).trans hk1 (by simp))
  clear hk1 hb
  go_wp2_with fail
  refine (HJ.out _).mono ?_
  rintro e w2 ⟨rfl, hk2⟩
  have HK2 := Lib.hid (HK.out.trans hk2 (by simp))
  clear hk2
  go_wp2_with fail
  go_ret2
  exact ⟨rfl, HK2.out⟩
theorem print_wrong (l d r : ByteArray) (w : World) (m1 : l.size ≤ maxLen) (m2 : d.size ≤ maxLen) (m3 : r.size ≤ maxLen) (h : ¬ isRight l d r) : Calls Try.prog 10 #[.agg #[.string l, .string d, .string r]] w fun e w' => e = .returned (.tuple #[.string ⟨#[]⟩, .int .i64 3]) ∧ Keeps w w' [] := by
  have HR := Lib.hid (fun wx => right_calls l d r wx m1 m2 m3 false (by simp [h]))
  clear m1 m2 m3 h
  go_enter Try.func10, Try.ntmps10
  go_wp2_with fail
  refine (HR.out _).mono ?_
  rintro e w1 ⟨rfl, hk1⟩
  have HK := Lib.hid (((Keeps.refl w []).alloc _).trans hk1 (by simp))
  clear hk1
  go_wp2_with fail
  go_ret2
  exact ⟨rfl, HK.out⟩

end Go.Proofs.Ytbfcgiodpcchnaa
