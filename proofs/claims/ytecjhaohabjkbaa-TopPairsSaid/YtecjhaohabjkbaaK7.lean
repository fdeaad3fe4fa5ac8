/-
  CONTRACTS: kv's cut; Load of what Bytes gives.
-/
import Derived.Test.YtecjhaohabjkbaaK6
import Derived.Test.YtecjhaohabjkbaaP19
namespace Go.Proofs.Ytecjhaohabjkbaa
open Go.RowKit
set_option linter.unusedVariables false

theorem bytes_take (l : List Int) (k : Nat) : (bytes l).take k = bytes (l.take k) := by simp [bytes]
theorem bytes_drop (l : List Int) (k : Nat) : (bytes l).drop k = bytes (l.drop k) := by simp [bytes]
/-- what cut leaves. -/
def CutLeft (w : World) (n k : Nat) (l : List Int) (fp : List Nat) (e : Ending) (w' : World) : Prop := ∃ A' c' fp',
  e = .returned (.tuple #[.string (strB (l.take k)), .slice A' (n - k) c', .bool true]) ∧ Reads w' 1 A' (n - k) (bytes (l.drop k)) fp' ∧ n - k ≤ c' ∧ True ∧ (∀ i ∈ fp', i ∈ fp) ∧ Keeps w w' []
set_option maxHeartbeats 1600000 in set_option maxRecDepth 100000 in
set_option maxRecDepth 100000 in
theorem cut_calls (A : Option Addr) (n c k : Nat) (l : List Int) (fp : List Nat) (w : World) (hr : Reads w 1 A n (bytes l) fp) (hk : k ≤ n) (hc : n ≤ c) (hm : True) :
    Calls Try.prog 64 #[.slice A n c, .int .i64 k] w (CutLeft w n k l fp) := by
  obtain ⟨f1, hr1, -⟩ := (hr.drew).take (k := k) hk
  obtain ⟨f2, hr2, hf2⟩ := hr.drop (k := k) (cap := c) hk hc
  rw [Nat.mul_one, bytes_take] at hr1
  rw [Nat.mul_one, bytes_drop] at hr2
  have kx := str_reads w.drew A k c (l.take k) f1 hr1
  have h1 : (k : Int) ≤ (n : Int) := by omega
  have h2 : (k : Int) ≤ (c : Int) := by omega
  have h3 : (n : Int) ≤ (c : Int) := by omega
  by_cases hck : c = k
  · subst hck
    rw [if_pos rfl] at hr2
    have H := Lib.hid (And.intro hr2 (And.intro hf2 hm))
    clear hr hr1 hr2 hf2 hm
    go_enter Try.func64, Try.ntmps64
    go_wp2_with fail
    go_region_held_law (fun w' => w' = w.drew) (rfl) (fail)
    go_wp2_with fail
    go_ret3
    have e0 : n - c = 0 := by omega
    exact ⟨_, 0, _, by rw [e0]; rfl, H.out.1.drew, by omega, trivial, H.out.2.1, (Keeps.refl w []).drew⟩
  · rw [if_neg hck] at hr2
    have H := Lib.hid (And.intro hr2 (And.intro hf2 hm))
    clear hr hr1 hr2 hf2 hm
    go_enter Try.func64, Try.ntmps64
    go_wp2_with fail
    go_region_held_law (fun w' => w' = w.drew) (rfl) (fail)
    go_wp2_with fail
    go_ret3
    exact ⟨_, c - k, _, rfl, H.out.1.drew, by omega, trivial, H.out.2.1, (Keeps.refl w []).drew⟩

theorem less_before : ∀ a b : List UInt8, Op.bytesLess a b = bytesBefore a b
  | [], [] => rfl
  | [], _ :: _ => rfl
  | _ :: _, [] => rfl
  | a :: x, b :: y => by
    show (decide (a < b) || (a == b && Op.bytesLess x y)) = (decide (a < b) || (a == b && bytesBefore x y))
    rw [less_before x y]
theorem before_asymm {a b : List UInt8} (h : bytesBefore a b = true) : bytesBefore b a = false := by
  cases hc : bytesBefore b a with
  | false => rfl
  | true => exact absurd (WideShapes.bytes_trans _ _ _ h hc) (by rw [WideAt.bytes_irrefl]; decide)
/-- the key ahead. -/
def lastK (ps : PL) : Nat → List UInt8
  | 0 => []
  | i + 1 => (ps.getD i ([], [])).1
theorem lastK_less (ps : PL) (hs : Sorted ps) (i : Nat) (p : List UInt8 × List UInt8) (hp : ps[i]? = some p) (h0 : 0 < p.1.length) : Op.bytesLess p.1 (lastK ps i) = false ∧ (p.1 == lastK ps i) = false := by
  rw [less_before]
  cases i with
  | zero =>
    unfold lastK
    cases h : p.1 with
    | nil => rw [h] at h0; cases h0
    | cons a r => exact ⟨rfl, by simp⟩
  | succ i =>
    obtain ⟨q, hq⟩ : ∃ q, ps[i]? = some q := ⟨_, List.getElem?_eq_getElem (by have := (List.getElem?_eq_some_iff.1 hp).1; omega)⟩
    have hl : lastK ps (i + 1) = q.1 := by show (ps.getD i ([], [])).1 = q.1; rw [List.getD_eq_getElem?_getD, hq]; rfl
    have hb : bytesBefore q.1 p.1 = true := by
      obtain ⟨h1, e1⟩ := List.getElem?_eq_some_iff.1 hq
      obtain ⟨h2, e2⟩ := List.getElem?_eq_some_iff.1 hp
      rw [← e1, ← e2]
      exact List.pairwise_iff_getElem.1 hs i (i + 1) h1 h2 (by omega)
    rw [hl]
    refine ⟨before_asymm hb, ?_⟩
    have := before_ne hb
    simp only [beq_eq_false_iff_ne, ne_eq]
    exact fun e => this e.symm
theorem strB_nums (x : List UInt8) : strB (nums x) = bstr x := strB_ofStr (bstr x)
theorem toList_bstr (x : List UInt8) : (bstr x).toList = x := by rw [ByteArray.toList_eq]; rfl

end Go.Proofs.Ytecjhaohabjkbaa
