/-
  PLAIN LAWS of chapter 8: check sum, numbers as bytes. No Go text, no program.
-/
import Derived.Test.YtecjhaohabjkbaaSec
import Derived.Laws.BitsAllLaws
namespace Go.Proofs.Ytecjhaohabjkbaa
open Go.RowKit
set_option linter.unusedVariables false

def bytes (l : List Int) : List Value := l.map (Value.int .u8)
theorem bytes_length (l : List Int) : (bytes l).length = l.length := by simp [bytes]
theorem bytes_append (l m : List Int) : bytes (l ++ m) = bytes l ++ bytes m := by simp [bytes]
theorem bytes_one (l : List Int) : ∀ u ∈ bytes l, u.oneCell' = true := by
  intro u hu
  obtain ⟨z, _, rfl⟩ := List.mem_map.1 hu
  rfl
/-- bytes that are bytes. -/
def Wf8 (l : List Int) : Prop := ∀ z ∈ l, 0 ≤ z ∧ z < 256
theorem Wf8.nil : Wf8 [] := by simp [Wf8]
theorem Wf8.append {l m : List Int} (h : Wf8 l) (k : Wf8 m) : Wf8 (l ++ m) := fun z hz => by
  rcases List.mem_append.1 hz with hz | hz
  · exact h z hz
  · exact k z hz
theorem Wf8.take {l : List Int} (h : Wf8 l) (n : Nat) : Wf8 (l.take n) := fun z hz => h z (List.mem_of_mem_take hz)
theorem Wf8.drop {l : List Int} (h : Wf8 l) (n : Nat) : Wf8 (l.drop n) := fun z hz => h z (List.mem_of_mem_drop hz)

/-! ## the check sum -/
/-- one bit is turned out. -/
def crcBit (x : Nat) : Nat := (x / 2) ^^^ (if x % 2 = 1 then 3988292384 else 0)
def crcBits : Nat → Nat → Nat
  | 0, x => x
  | k + 1, x => crcBit (crcBits k x)
def crcByte (x : Nat) (c : Int) : Nat := crcBits 8 (x ^^^ c.toNat)
def crc (l : List Int) : Nat := l.foldl crcByte 4294967295
def sumM (l : List Int) : Int := ((4294967295 ^^^ crc l : Nat) : Int)
theorem crcBit_lt {x : Nat} (h : x < 4294967296) : crcBit x < 4294967296 := by
  unfold crcBit
  have h1 : x / 2 < 2 ^ 32 := by omega
  have h2 : (if x % 2 = 1 then 3988292384 else 0) < 2 ^ 32 := by split <;> omega
  have := Nat.xor_lt_two_pow h1 h2
  omega
theorem crcBits_lt {x : Nat} (h : x < 4294967296) : ∀ k, crcBits k x < 4294967296
  | 0 => h
  | k + 1 => crcBit_lt (crcBits_lt h k)
theorem xor_byte_lt {x : Nat} {c : Int} (h : x < 4294967296) (h0 : 0 ≤ c) (h1 : c < 256) : x ^^^ c.toNat < 4294967296 := by
  have h1 : x < 2 ^ 32 := by omega
  have h2 : c.toNat < 2 ^ 32 := by omega
  have := Nat.xor_lt_two_pow h1 h2
  omega
theorem crcByte_lt {x : Nat} {c : Int} (h : x < 4294967296) (h0 : 0 ≤ c) (h1 : c < 256) : crcByte x c < 4294967296 := crcBits_lt (xor_byte_lt h h0 h1) 8
theorem crc_snoc (l : List Int) (c : Int) : crc (l ++ [c]) = crcByte (crc l) c := by simp [crc]
theorem crc_fold_lt {l : List Int} (h : Wf8 l) : ∀ x, x < 4294967296 → l.foldl crcByte x < 4294967296 := by
  induction l with
  | nil => intro x hx; exact hx
  | cons c l ih => intro x hx; exact ih (fun z hz => h z (by simp [hz])) _ (crcByte_lt hx (h c (by simp)).1 (h c (by simp)).2)
theorem crc_lt {l : List Int} (h : Wf8 l) : crc l < 4294967296 := crc_fold_lt h _ (by omega)
theorem sumM_bd {l : List Int} (h : Wf8 l) : 0 ≤ sumM l ∧ sumM l < 4294967296 := by
  unfold sumM
  have h1 : crc l < 2 ^ 32 := crc_lt h
  have h2 : 4294967295 < 2 ^ 32 := by omega
  have := Nat.xor_lt_two_pow h2 h1
  omega

/-! ### the same, bit by bit -/
/-- the document's step: the k-th bit of c against the lowest of x. -/
def refBit (c k x : Nat) : Nat := if x % 2 = c / 2 ^ k % 2 then x / 2 else (x / 2) ^^^ 3988292384
def refBits (c : Nat) : Nat → Nat → Nat
  | 0, x => x
  | k + 1, x => refBit c k (refBits c k x)
theorem refBit_lt {x : Nat} (h : x < 4294967296) (c k : Nat) : refBit c k x < 4294967296 := by
  unfold refBit
  split
  · omega
  · have h1 : x / 2 < 2 ^ 32 := by omega
    have h2 : 3988292384 < 2 ^ 32 := by omega
    have := Nat.xor_lt_two_pow h1 h2
    omega
theorem refBits_lt {x : Nat} (h : x < 4294967296) (c : Nat) : ∀ k, refBits c k x < 4294967296
  | 0 => h
  | k + 1 => refBit_lt (refBits_lt h c k) c k
theorem xor_div2 (a b : Nat) : (a ^^^ b) / 2 = (a / 2) ^^^ (b / 2) := by
  apply Nat.eq_of_testBit_eq
  intro i
  simp [Nat.testBit_xor, Nat.testBit_div_two]
theorem xor_mod2 (a b : Nat) : (a ^^^ b) % 2 = (a % 2 + b % 2) % 2 := by
  have h := Nat.testBit_xor (x := a) (y := b) (i := 0)
  simp only [Nat.testBit_zero] at h
  have h1 : a % 2 = 0 ∨ a % 2 = 1 := by omega
  have h2 : b % 2 = 0 ∨ b % 2 = 1 := by omega
  rcases h1 with h1 | h1 <;> rcases h2 with h2 | h2 <;> rw [h1, h2] at h ⊢ <;> (rcases (show (a ^^^ b) % 2 = 0 ∨ (a ^^^ b) % 2 = 1 by omega) with hm | hm <;> rw [hm] at h ⊢ <;> revert h <;> decide)
theorem crcBits_ref (c x : Nat) : ∀ k, crcBits k (x ^^^ c) = refBits c k x ^^^ (c / 2 ^ k)
  | 0 => by simp [crcBits, refBits]
  | k + 1 => by
    have ih := crcBits_ref c x k
    simp only [crcBits, refBits]
    rw [ih]
    unfold crcBit refBit
    rw [xor_div2, xor_mod2, Nat.div_div_eq_div_mul, ← Nat.pow_succ]
    have h1 : refBits c k x % 2 = 0 ∨ refBits c k x % 2 = 1 := by omega
    have h2 : c / 2 ^ k % 2 = 0 ∨ c / 2 ^ k % 2 = 1 := by omega
    have lc : ∀ a b c : Nat, a ^^^ (b ^^^ c) = b ^^^ (a ^^^ c) := fun a b c => by rw [← Nat.xor_assoc, Nat.xor_comm a b, Nat.xor_assoc]
    rcases h1 with h1 | h1 <;> rcases h2 with h2 | h2 <;> simp [h1, h2, Nat.xor_comm]
    · exact lc _ _ _
    · exact lc _ _ _
theorem refBits_eight (c x : Nat) (h : c < 256) : refBits c 8 x = crcBits 8 (x ^^^ c) := by
  rw [crcBits_ref, Nat.div_eq_of_lt (by omega)]
  simp

/-! ## numbers as bytes -/
def numB (n : Nat) (k : Nat) : List Int := (List.range k).map fun i => ((n / 256 ^ (k - 1 - i) % 256 : Nat) : Int)
theorem numB_length (n k : Nat) : (numB n k).length = k := by simp [numB]
theorem numB_wf (n k : Nat) : Wf8 (numB n k) := by
  intro z hz
  obtain ⟨i, _, rfl⟩ := List.mem_map.1 hz
  omega
def numTo (n k i : Nat) : List Int := (numB n k).take i
theorem numTo_zero (n k : Nat) : numTo n k 0 = [] := rfl
theorem numTo_all (n k : Nat) : numTo n k k = numB n k := List.take_of_length_le (by rw [numB_length]; exact Nat.le_refl _)
theorem numTo_succ (n k i : Nat) (h : i < k) : numTo n k (i + 1) = numTo n k i ++ [((n / 256 ^ (k - 1 - i) % 256 : Nat) : Int)] := by
  unfold numTo
  rw [List.take_succ_eq_append_getElem (by rw [numB_length]; exact h)]
  simp [numB]
/-- bytes as a number (modulo 2^64). -/
def rdB (l : List Int) : Nat := l.foldl (fun n c => (n * 256 + c.toNat) % 18446744073709551616) 0
theorem rdB_lt (l : List Int) : rdB l < 18446744073709551616 := by
  unfold rdB
  have : ∀ (l : List Int) n, n < 18446744073709551616 → l.foldl (fun n c => (n * 256 + c.toNat) % 18446744073709551616) n < 18446744073709551616 := by
    intro l
    induction l with
    | nil => intro n h; exact h
    | cons c l ih => intro n h; exact ih _ (Nat.mod_lt _ (by omega))
  exact this l 0 (by omega)
theorem rdB_snoc (l : List Int) (c : Int) : rdB (l ++ [c]) = (rdB l * 256 + c.toNat) % 18446744073709551616 := by simp [rdB]
theorem rdB_numTo (n k : Nat) (hk : k ≤ 8) : ∀ i, i ≤ k → rdB (numTo n k i) = n / 256 ^ (k - i) % 256 ^ i
  | 0, _ => by simp [numTo_zero, rdB, Nat.mod_one]
  | i + 1, hi => by
    have ih := rdB_numTo n k hk i (by omega)
    rw [numTo_succ n k i (by omega), rdB_snoc, ih]
    have e1 : k - i = (k - (i + 1)) + 1 := by omega
    have e2 : k - 1 - i = k - (i + 1) := by omega
    rw [e2, e1, Nat.pow_succ, ← Nat.div_div_eq_div_mul]
    generalize n / 256 ^ (k - (i + 1)) = m
    simp only [Int.toNat_natCast]
    have hp : 256 ^ i ≤ 256 ^ 7 := Nat.pow_le_pow_right (by omega) (by omega)
    have hl : m / 256 % 256 ^ i < 256 ^ i := Nat.mod_lt _ (Nat.pow_pos (by omega))
    rw [Nat.mod_eq_of_lt (by omega)]
    rw [Nat.pow_succ, Nat.mul_comm (256 ^ i) 256, Nat.mod_mul]
    omega
theorem rdB_numB (n k : Nat) (hk : k ≤ 8) (h : n < 256 ^ k) : rdB (numB n k) = n := by
  rw [← numTo_all, rdB_numTo n k hk k (Nat.le_refl _)]
  simp [Nat.mod_eq_of_lt h]

/-! ## sectors of bytes -/
def Sec.of (l : List Int) : Sec := ⟨l.take 64 ++ List.replicate (64 - (l.take 64).length) 0, by simp; omega⟩
theorem Sec.of_bs (l : List Int) (h : l.length ≤ 64) : (Sec.of l).bs = l ++ List.replicate (64 - l.length) 0 := by
  simp only [Sec.of]
  rw [List.take_of_length_le h]
def Sec.wf (s : Sec) : Prop := Wf8 s.bs
theorem Wf8.zeros (n : Nat) : Wf8 (List.replicate n 0) := by
  intro z hz
  have := List.eq_of_mem_replicate hz
  omega
theorem Sec.of_wf {l : List Int} (h : Wf8 l) : (Sec.of l).wf := (h.take 64).append (Wf8.zeros _)
theorem Sec.zero_wf : Sec.zero.wf := Wf8.zeros _
theorem Sec.of_nil : Sec.of [] = Sec.zero := by simp [Sec.of, Sec.zero]
def sumN (l : List Int) : Nat := 4294967295 ^^^ crc l
theorem sumM_nat (l : List Int) : sumM l = ((sumN l : Nat) : Int) := rfl
theorem sumN_lt {l : List Int} (h : Wf8 l) : sumN l < 4294967296 := by have := sumM_bd h; rw [sumM_nat] at this; omega
/-- the head of a root. -/
def rootH (b : List Int) (turn : Nat) : List Int := [72, 71] ++ numB turn 8 ++ numB b.length 4 ++ numB (sumN b) 4
def rootL (b : List Int) (turn : Nat) : List Int := rootH b turn ++ numB (sumN (rootH b turn)) 4
def rootM (b : List Int) (turn : Nat) : Sec := Sec.of (rootL b turn)
theorem rootH_length (b : List Int) (turn : Nat) : (rootH b turn).length = 18 := by simp [rootH, numB_length]
theorem rootL_length (b : List Int) (turn : Nat) : (rootL b turn).length = 22 := by simp [rootL, rootH_length, numB_length]
theorem wf_HG : Wf8 [72, 71] := by intro z hz; simp at hz; omega
theorem rootH_wf (b : List Int) (turn : Nat) : Wf8 (rootH b turn) := ((wf_HG.append (numB_wf _ _)).append (numB_wf _ _)).append (numB_wf _ _)
theorem rootL_wf (b : List Int) (turn : Nat) : Wf8 (rootL b turn) := (rootH_wf b turn).append (numB_wf _ _)
theorem rootM_wf (b : List Int) (turn : Nat) : (rootM b turn).wf := Sec.of_wf (rootL_wf b turn)

/-! ## what a slot holds -/
def secAt (now : List Sec) (i : Nat) : Sec := now.getD i Sec.zero
def dataOf (now : List Sec) (i n : Nat) : List Int := ((now.drop i).flatMap Sec.bs).take n
def turnOf (s : Sec) : Nat := rdB ((s.bs.drop 2).take 8)
def sizeOf_ (s : Sec) : Nat := rdB ((s.bs.drop 10).take 4)
def holdM (half : Nat) (now : List Sec) (k : Nat) : List Int × Nat :=
  if turnOf (secAt now k) = 0 ∨ half * 64 < sizeOf_ (secAt now k) then ([], 0)
  else if rootM (dataOf now (2 + k * half) (sizeOf_ (secAt now k))) (turnOf (secAt now k)) = secAt now k then (dataOf now (2 + k * half) (sizeOf_ (secAt now k)), turnOf (secAt now k)) else ([], 0)
/-- the slot that counts, its bytes and its turn. -/
def bestM (half : Nat) (now : List Sec) : Nat × List Int × Nat :=
  if (holdM half now 0).2 < (holdM half now 1).2 then (1, holdM half now 1) else (0, holdM half now 0)
theorem bs_flat (l : List Sec) : (l.flatMap Sec.bs).length = l.length * 64 := by
  induction l with
  | nil => rfl
  | cons s l ih => rw [List.flatMap_cons, List.length_append, s.len, ih, List.length_cons]; omega
theorem dataOf_succ (now : List Sec) (i k : Nat) (s : Sec) (h : now[i + k]? = some s) : dataOf now i (k * 64 + 64) = dataOf now i (k * 64) ++ s.bs := by
  unfold dataOf
  have hl := (List.getElem?_eq_some_iff.1 h).1
  obtain ⟨X, Y, hX, he⟩ : ∃ X Y, X.length = k ∧ now.drop i = X ++ s :: Y := by
    refine ⟨(now.drop i).take k, now.drop (i + k + 1), by rw [List.length_take, List.length_drop]; omega, ?_⟩
    conv => lhs; rw [← List.take_append_drop k (now.drop i)]
    rw [List.drop_drop, List.drop_eq_getElem_cons hl, (List.getElem?_eq_some_iff.1 h).2]
  rw [he, List.flatMap_append, List.flatMap_cons]
  have h1 : (X.flatMap Sec.bs).length = k * 64 := by rw [bs_flat, hX]
  have h2 := s.len
  generalize X.flatMap Sec.bs = A at h1 ⊢
  generalize Y.flatMap Sec.bs = B
  rw [← h1, List.take_length_add_append, List.take_left' h2, List.take_left]
theorem dataOf_zero (now : List Sec) (i : Nat) : dataOf now i 0 = [] := by simp [dataOf]
theorem dataOf_length (now : List Sec) (i n : Nat) (h : n ≤ (now.length - i) * 64) : (dataOf now i n).length = n := by
  unfold dataOf
  rw [List.length_take, bs_flat, List.length_drop]
  omega
theorem dataOf_take (now : List Sec) (i n m : Nat) (h : n ≤ m) : (dataOf now i m).take n = dataOf now i n := by
  unfold dataOf
  rw [List.take_take, Nat.min_eq_left h]
theorem dataOf_wf {now : List Sec} (h : ∀ s ∈ now, s.wf) (i n : Nat) : Wf8 (dataOf now i n) := by
  refine Wf8.take (fun z hz => ?_) n
  obtain ⟨s, hs, hz⟩ := List.mem_flatMap.1 hz
  exact h s (List.mem_of_mem_drop hs) z hz

theorem rdB_lt4 (l : List Int) (h : l.length ≤ 4) (hw : Wf8 l) : rdB l < 4294967296 := by
  have : ∀ (l : List Int) n m, n < 256 ^ m → m + l.length ≤ 4 → Wf8 l → l.foldl (fun n c => (n * 256 + c.toNat) % 18446744073709551616) n < 256 ^ (m + l.length) := by
    intro l
    induction l with
    | nil => intro n m h _ _; exact h
    | cons c l ih =>
      intro n m h h4 hw
      have hc := hw c (by simp)
      simp only [List.foldl_cons, List.length_cons] at h4 ⊢
      have h256 : 256 ^ (m + 1) ≤ 256 ^ 4 := Nat.pow_le_pow_right (by omega) (by omega)
      have h1 : n * 256 + c.toNat < 256 ^ (m + 1) := by rw [Nat.pow_succ]; omega
      have := ih ((n * 256 + c.toNat) % 18446744073709551616) (m + 1) (by rw [Nat.mod_eq_of_lt (by omega)]; exact h1) (by omega) (fun z hz => hw z (by simp [hz]))
      rw [show m + (l.length + 1) = m + 1 + l.length by omega]
      exact this
  have h1 := this l 0 0 (by simp) (by omega) hw
  rw [Nat.zero_add] at h1
  have h2 : 256 ^ l.length ≤ 256 ^ 4 := Nat.pow_le_pow_right (by omega) h
  unfold rdB
  omega
theorem secAt_of {now : List Sec} {k : Nat} {r : Sec} (h : now[k]? = some r) : secAt now k = r := by
  simp [secAt, h]
theorem holdM_out {half : Nat} {now : List Sec} {k : Nat} {r : Sec} (h : now[k]? = some r) (h1 : turnOf r = 0 ∨ half * 64 < sizeOf_ r) : holdM half now k = ([], 0) := by
  unfold holdM
  rw [secAt_of h, if_pos h1]
theorem holdM_bad {half : Nat} {now : List Sec} {k : Nat} {r : Sec} (h : now[k]? = some r) (h1 : ¬ rootM (dataOf now (2 + k * half) (sizeOf_ r)) (turnOf r) = r) : holdM half now k = ([], 0) := by
  unfold holdM
  rw [secAt_of h, if_neg h1]
  split <;> rfl
theorem holdM_in {half : Nat} {now : List Sec} {k : Nat} {r : Sec} (h : now[k]? = some r) (h0 : ¬ (turnOf r = 0 ∨ half * 64 < sizeOf_ r)) (h1 : rootM (dataOf now (2 + k * half) (sizeOf_ r)) (turnOf r) = r) :
    holdM half now k = (dataOf now (2 + k * half) (sizeOf_ r), turnOf r) := by
  unfold holdM
  rw [secAt_of h, if_neg h0, if_pos h1]

end Go.Proofs.Ytecjhaohabjkbaa
