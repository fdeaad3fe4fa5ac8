/-
  CONTRACTS: stanza.Right of an iq whose addresses are right and whose tokens are one element.
-/
import Derived.Test.YtbfcgiodpcchnaaW17
import Derived.Test.YtbfcgiodpcchnaaW4
import Derived.Test.YtbfcgiodpcchnaaW14
namespace Go.Proofs.Ytbfcgiodpcchnaa
open Go.RowKit
set_option linter.unusedVariables false
attribute [local go_sem] Oper.semAt_some

/-- a stanza's tokens. -/
def stanzaT (ty f t id : ByteArray) (P : List Tok) : List Tok := ⟨1, iqT, headL ty f t id, ⟨#[]⟩⟩ :: (P ++ [⟨2, iqT, [], ⟨#[]⟩⟩])
/-- one element. -/
def oneElement (T : List Tok) : Prop := goodToks T ∧ opens T T.length = [] ∧ ∀ k, 0 < k → k < T.length → opens T k ≠ []
theorem arr2_index (x y : ByteArray) (w : World) (i : Nat) (p : ByteArray) (h : [x, y][i]? = some p) :
    (Instr.index 58 (.agg #[.string x, .string y]) (.int .i64 (i : Int))).run Try.prog w = .ok (.string p) w := by
  rcases i with _ | _ | i
  · obtain rfl : x = p := by simpa using h
    kernel_rfl
  · obtain rfl : y = p := by simpa using h
    kernel_rfl
  · simp at h
theorem joinB_pos {l d r : ByteArray} (h : isRight l d r) : 0 < (joinB l d r).size := by
  have hd := h.1.2.1
  unfold joinB
  split <;> split <;> simp [ByteArray.size_append] <;> omega

set_option maxHeartbeats 3200000 in
set_option maxRecDepth 100000 in
theorem sright_calls (ty l1 d1 r1 l2 d2 r2 : ByteArray) (A : Option Addr) (n c : Nat) (ts : List TV) (w : World) (h : ToksAt w A n c ts) (hn : n ≤ 60) (hts : ∀ t ∈ ts, t.attrs.length ≤ 8)
    (hty : ∀ wx, Calls Try.prog 23 #[.int .u8 1, .string ty] wx fun e w' => e = .returned (.bool true) ∧ wx = w') (s1 : 0 < ty.size)
    (h1 : isRight l1 d1 r1) (h2 : isRight l2 d2 r2) (hone : oneElement (stanzaT ty (joinB l1 d1 r1) (joinB l2 d2 r2) ⟨#[55]⟩ (ts.map TV.tok))) :
    Calls Try.prog 14 #[.agg #[.int .u8 1, .string ty, .string (joinB l1 d1 r1), .string (joinB l2 d2 r2), .string ⟨#[55]⟩, .slice A n c]] w fun e w' => e = .returned (.bool true) ∧ Keeps w w' [] := by
  have p1 := joinB_pos h1
  have p2 := joinB_pos h2
  have htok := fun wx (hw : ToksAt wx A n c ts) => stoks_calls ty (joinB l1 d1 r1) (joinB l2 d2 r2) ⟨#[55]⟩ A n c ts wx hw hn hts s1 p1 p2 (by decide)
  have hpa : ∀ (i : Nat) p wx, [joinB l1 d1 r1, joinB l2 d2 r2][i]? = some p → 0 < p.size ∧ ∃ l d r, Calls Try.prog 22 #[.string p] wx fun e w' => e = .returned (.tuple #[.agg #[.string l, .string d, .string r], .int .i64 0]) ∧ Keeps wx w' [] := by
    intro i p wx hp
    rcases i with _ | _ | i
    · obtain rfl : joinB l1 d1 r1 = p := by simpa using hp
      exact ⟨p1, l1, d1, r1, parse_calls l1 d1 r1 wx h1⟩
    · obtain rfl : joinB l2 d2 r2 = p := by simpa using hp
      exact ⟨p2, l2, d2, r2, parse_calls l2 d2 r2 wx h2⟩
    · simp at hp
  have hch := fun wx => chars_calls ⟨#[55]⟩ wx (by
    intro i hi
    have : i = 0 := by
      have h : (⟨#[55]⟩ : ByteArray).size = 1 := rfl
      omega
    subst this
    decide) (by decide)
  obtain ⟨x, hx⟩ : ∃ x, x = joinB l1 d1 r1 := ⟨_, rfl⟩
  obtain ⟨y, hy⟩ : ∃ y, y = joinB l2 d2 r2 := ⟨_, rfl⟩
  rw [← hx, ← hy] at hpa hone ⊢
  simp only [← hx, ← hy] at htok
  have hix := fun wx i p => arr2_index x y wx i p
  have n60 : (n : Int) ≤ 60 := by omega
  have n0 : (0 : Int) ≤ (n : Int) := by omega
  have H := Lib.hid (And.intro h (And.intro htok (And.intro hpa (And.intro hch (And.intro hty (And.intro hix hone))))))
  clear h hn hts hty s1 h1 h2 hone p1 p2 htok hpa hch hix hx hy
  go_enter Try.func14, Try.ntmps14
  go_wp2_with fail
  obtain ⟨w0, hw0⟩ : ∃ w0, w0 = w.alloc (.cells #[.int .u8 1, .string ty, .string x, .string y, .string ⟨#[55]⟩, .slice A n c] 38) := ⟨_, rfl⟩
  have hk0 : Keeps w w0 [] := by rw [hw0]; exact (Keeps.refl w []).alloc _
  have hb0 : Blk w0 w.heap.size 38 #[.int .u8 1, .string ty, .string x, .string y, .string ⟨#[55]⟩, .slice A n c] := by rw [hw0]; exact Blk.new _ _ _
  rw [← hw0]
  clear hw0
  have H0 := Lib.hid (And.intro hk0 hb0)
  clear hk0 hb0
  go_loopg [12] 2 (fun gg s wr => ∃ (i : Nat), gg + i = 2 ∧ s = .int .i64 i ∧ Keeps w0 wr [])
  case atStart => exact ⟨0, by omega, rfl, Keeps.refl _ _⟩
  case round =>
    obtain ⟨i, hgi, rfl, hK⟩ := hrel
    by_cases hlt : i < 2
    · obtain ⟨p, hp⟩ : ∃ p, [x, y][i]? = some p := ⟨_, List.getElem?_eq_getElem (by simpa using hlt)⟩
      obtain ⟨hps, l, d, r, hpc⟩ := H.out.2.2.1 i p wr hp
      have hpe := not_empty p hps
      have hxi := H.out.2.2.2.2.2.1 wr i p hp
      have x0 : (i : Int) < 2 := by omega
      have x1 : (0 : Int) ≤ (i : Int) := by omega
      have HR := Lib.hid (And.intro hgi (And.intro hK hlt))
      have HP := Lib.hid hpc
      clear hgi hK hlt hp hpc hps
      go_wp2_with fail
      refine HP.out.mono ?_
      rintro e w5 ⟨rfl, hk5⟩
      have H5 := Lib.hid hk5
      clear hk5
      go_wp2_with fail
      go_roundg (2 - (i + 1))
      case measure => have := HR.out.1; have := HR.out.2.2; omega
      case rel => exact ⟨i + 1, by have := HR.out.2.2; omega, by go_num, (HR.out.2.1.trans H5.out (by simp)).alloc _⟩
    · obtain rfl : i = 2 := by omega
      have hb1 := H0.out.2.keeps hK (by simp)
      have z0 : wr.cell? ⟨w.heap.size, 0, none⟩ = some (.int .u8 1) := hb1.cell 0
      have z1 : wr.cell? ⟨w.heap.size, 1, none⟩ = some (.string ty) := hb1.cell 1
      have z4 : wr.cell? ⟨w.heap.size, 4, none⟩ = some (.string ⟨#[55]⟩) := hb1.cell 4
      have HR := Lib.hid (And.intro hb1 (H0.out.1.trans hK (by simp)))
      clear hgi hK hlt hb1
      go_wp2_with fail
      refine (H.out.2.2.2.2.1 _).mono ?_
      rintro e w5 ⟨rfl, rfl⟩
      go_wp2_with fail
      refine (H.out.2.2.2.1 _).mono ?_
      rintro e w6 ⟨rfl, hk6⟩
      have hb6 := HR.out.1.keeps hk6 (by simp)
      have q0 : w6.cell? ⟨w.heap.size, 0, none⟩ = some (.int .u8 1) := hb6.cell 0
      have q1 : w6.cell? ⟨w.heap.size, 1, none⟩ = some (.string ty) := hb6.cell 1
      have q2 : w6.cell? ⟨w.heap.size, 2, none⟩ = some (.string x) := hb6.cell 2
      have q3 : w6.cell? ⟨w.heap.size, 3, none⟩ = some (.string y) := hb6.cell 3
      have q4 : w6.cell? ⟨w.heap.size, 4, none⟩ = some (.string ⟨#[55]⟩) := hb6.cell 4
      have q5 : w6.cell? ⟨w.heap.size, 5, none⟩ = some (.slice A n c) := hb6.cell 5
      have hkw := HR.out.2.trans hk6 (by simp)
      obtain ⟨T, hT⟩ : ∃ T, T = stanzaT ty x y ⟨#[55]⟩ (ts.map TV.tok) := ⟨_, rfl⟩
      have htk : Calls Try.prog 26 #[.agg #[.int .u8 1, .string ty, .string x, .string y, .string ⟨#[55]⟩, .slice A n c]] w6 (NewToks w6 T) := by rw [hT]; exact H.out.2.1 w6 (H.out.1.to hkw)
      have hon : oneElement T := by rw [hT]; exact H.out.2.2.2.2.2.2
      have hTp : 0 < T.length := by rw [hT]; simp [stanzaT]
      obtain ⟨N, hN⟩ : ∃ N, N = T.length := ⟨_, rfl⟩
      rw [← hN] at hTp
      have HT := Lib.hid (And.intro htk (And.intro hon (And.intro hTp (And.intro hN hkw))))
      clear z0 z1 z4 hk6 hb6 htk hon hTp hN hkw hT
      go_wp2_with fail
      refine HT.out.1.mono ?_
      rintro e w7 ⟨A7, c7, t7, he, ht7, hm7, hk7⟩
      rw [← HT.out.2.2.2.1] at he ht7
      subst he
      have hwh := whole_calls A7 N c7 t7 w7 ht7 (by rw [hm7]; exact HT.out.2.1.1) HT.out.2.2.1 (by rw [hm7, HT.out.2.2.2.1]; exact HT.out.2.1.2.1) (by rw [hm7, HT.out.2.2.2.1]; exact HT.out.2.1.2.2)
      have HW := Lib.hid (And.intro hwh hk7)
      clear hwh hk7 ht7 hm7 q0 q1 q2 q3 q4 q5
      go_wp2_with fail
      refine HW.out.1.mono ?_
      rintro e w8 ⟨rfl, hk8⟩
      go_wp2_with fail
      go_ret
      exact ⟨rfl, (HT.out.2.2.2.2.trans HW.out.2 (by simp)).trans hk8 (by simp)⟩

end Go.Proofs.Ytbfcgiodpcchnaa
