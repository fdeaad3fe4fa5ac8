/-
  For every texts and numbers of acknowledgements, what was answered by Ack, one behind the other, and what waits, is all that was sent, in order: heliographlaw10.AckOrder answers true, and both arguments read as before. No condition.
-/
import Derived.Test.YtgkbkggegdmcgaaRows
import Derived.ProofKit
import Derived.OpenShut
import Derived.ShutString
import Derived.ChangeOld
import Derived.Carry
import Derived.Test.YtgkbkggegdmcgaaOpen
namespace Go.Proofs.Ytgkbkggegdmcgaa.vAckOrder
open Go.ChangeShapes Go.WideShapes Go.ChangeAt Go.RowKit
open Go.ChangeMaps (open_string shut_string)
set_option linter.unusedVariables false

/-- between two rounds: what was sent is what was heard and what waits. -/
def Inv (w : World) (b : Nat) (a : Nat) (v6 v7 : Value) (j : Nat) (wr : World) : Prop :=
  ∃ (hrd ss : List ByteArray) (fq f6 f7 : List Nat), QRep wr b ((hrd ++ ss).length : Nat) 0 ss fq ∧ Own wr 9 1 v6 (hrd ++ ss).length (strs (hrd ++ ss)) f6 ∧ Own wr 9 1 v7 hrd.length (strs hrd) f7 ∧
    ss.length ≤ 16 ∧ a = hrd.length ∧ (hrd ++ ss).length ≤ j ∧ (∀ k ∈ fq, k ∉ f6 ∧ k ∉ f7) ∧ (∀ k ∈ f6, k ∉ f7) ∧ Keeps w wr [] ∧ ∀ k ∈ fq ++ (f6 ++ f7), w.heap.size ≤ k

theorem Inv.full {w wr : World} {b a j : Nat} {v6 v7 : Value} (h : Inv w b a v6 v7 j wr) : Inv w b a v6 v7 (j + 1) wr := by
  obtain ⟨hrd, ss, fq, f6, f7, hq, h6, h7, hl, ha, hj, r⟩ := h
  exact ⟨hrd, ss, fq, f6, f7, hq, h6, h7, hl, ha, by omega, r⟩

theorem Inv.keep {w wr w2 : World} {b a j : Nat} {v6 v7 : Value} (h : Inv w b a v6 v7 j wr) (hk : Keeps wr w2 []) : Inv w b a v6 v7 j w2 := by
  obtain ⟨hrd, ss, fq, f6, f7, hq, h6, h7, hl, ha, hj, hd, hd6, hK, hN⟩ := h
  exact ⟨hrd, ss, fq, f6, f7, hq.keeps hk (by simp), h6.keeps hk (by simp), h7.keeps hk (by simp), hl, ha, hj, hd, hd6, hK.trans hk (by simp), hN⟩

/-- a text was sent and laid behind the others. -/
theorem sent_step {w wr w1 w2 : World} {b a j : Nat} {v6 v7 v6' : Value} {hrd ss : List ByteArray} {fq f6 f7 fq' f6' : List Nat} {s : ByteArray} {S' : Int}
    (h6 : Own wr 9 1 v6 (hrd ++ ss).length (strs (hrd ++ ss)) f6) (h7 : Own wr 9 1 v7 hrd.length (strs hrd) f7) (hl : ss.length < 16) (ha : a = hrd.length) (hj : (hrd ++ ss).length ≤ j)
    (hd : ∀ k ∈ fq, k ∉ f6 ∧ k ∉ f7) (hd6 : ∀ k ∈ f6, k ∉ f7) (hK : Keeps w wr []) (hN : ∀ k ∈ fq ++ (f6 ++ f7), w.heap.size ≤ k)
    (hq : QRep w1 b S' 0 (ss ++ [s]) fq') (hS : S' = ((hrd ++ (ss ++ [s])).length : Nat)) (hk1 : Keeps wr w1 fq) (hn1 : ∀ k ∈ fq', k ∈ fq ∨ wr.heap.size ≤ k)
    (h6' : Own w2 9 1 v6' ((hrd ++ ss).length + 1) (strs (hrd ++ ss) ++ strs [s]) f6') (hk2 : Keeps w1 w2 f6) (hn2 : ∀ k ∈ f6', k ∈ f6 ∨ w1.heap.size ≤ k) : Inv w b a v6' v7 (j + 1) w2 := by
  subst hS
  have hs1 := hk1.size
  have hs0 := hK.size
  have hq6 : ∀ k ∈ fq', k ∉ f6 := fun k hm h => by
    rcases hn1 k hm with h1 | h1
    · exact (hd k h1).1 h
    · have := h6.lt k h; omega
  have hq7 : ∀ k ∈ fq', k ∉ f7 := fun k hm h => by
    rcases hn1 k hm with h1 | h1
    · exact (hd k h1).2 h
    · have := h7.lt k h; omega
  refine ⟨hrd, ss ++ [s], fq', f6', f7, hq.keeps hk2 hq6, ?_, (h7.keeps hk1 (fun k hm h => (hd k h).2 hm)).keeps hk2 (fun k hm h => hd6 k h hm), by simp; omega, ha, by simp at hj ⊢; omega, fun k hm => ⟨fun h => ?_, hq7 k hm⟩, fun k hm h => ?_,
    (hK.trans hk1 (fun i hi hm => by have := hN i (by simp [hm]); omega)).trans hk2 (fun i hi hm => by have := hN i (by simp [hm]); omega), fun k hm => ?_⟩
  · have e1 : (hrd ++ (ss ++ [s])).length = (hrd ++ ss).length + 1 := by simp; omega
    have e2 : strs (hrd ++ (ss ++ [s])) = strs (hrd ++ ss) ++ strs [s] := by simp [strs]
    rw [e1, e2]
    exact h6'
  · rcases hn2 k h with h1 | h1
    · exact hq6 k hm h1
    · have := hq.lt k hm; omega
  · rcases hn2 k hm with h1 | h1
    · exact hd6 k h1 h
    · have := h7.lt k h; omega
  · rcases List.mem_append.1 hm with hm | hm
    · rcases hn1 k hm with h1 | h1
      · exact hN k (by simp [h1])
      · omega
    · rcases List.mem_append.1 hm with hm | hm
      · rcases hn2 k hm with h1 | h1
        · exact hN k (by simp [h1])
        · omega
      · exact hN k (by simp [hm])

/-- what was answered was laid behind what was heard. -/
theorem heard_step {w wr w1 w2 : World} {b a j m : Nat} {v6 v7 v7' : Value} {hrd ss : List ByteArray} {fq f6 f7 fq' f7' : List Nat}
    (h6 : Own wr 9 1 v6 (hrd ++ ss).length (strs (hrd ++ ss)) f6) (h7 : Own wr 9 1 v7 hrd.length (strs hrd) f7) (hl : ss.length ≤ 16) (ha : a = hrd.length) (hj : (hrd ++ ss).length ≤ j) (hm : m ≤ ss.length)
    (hd : ∀ k ∈ fq, k ∉ f6 ∧ k ∉ f7) (hd6 : ∀ k ∈ f6, k ∉ f7) (hK : Keeps w wr []) (hN : ∀ k ∈ fq ++ (f6 ++ f7), w.heap.size ≤ k)
    (hq : QRep w1 b ((hrd ++ ss).length : Nat) 0 (ss.drop m) fq') (hk1 : Keeps wr w1 fq) (hn1 : ∀ k ∈ fq', k ∈ fq ∨ wr.heap.size ≤ k)
    (h7' : Own w2 9 1 v7' (hrd.length + m) (strs hrd ++ strs (ss.take m)) f7') (hk2 : Keeps w1 w2 f7) (hn2 : ∀ k ∈ f7', k ∈ f7 ∨ w1.heap.size ≤ k) : Inv w b (a + m) v6 v7' j w2 := by
  have hs1 := hk1.size
  have hs0 := hK.size
  have hq6 : ∀ k ∈ fq', k ∉ f6 := fun k hm h => by
    rcases hn1 k hm with h1 | h1
    · exact (hd k h1).1 h
    · have := h6.lt k h; omega
  have hq7 : ∀ k ∈ fq', k ∉ f7 := fun k hm h => by
    rcases hn1 k hm with h1 | h1
    · exact (hd k h1).2 h
    · have := h7.lt k h; omega
  have e0 : (hrd ++ ss.take m) ++ ss.drop m = hrd ++ ss := by rw [List.append_assoc, List.take_append_drop]
  have e1 : (hrd ++ ss.take m).length = hrd.length + m := by simp; omega
  refine ⟨hrd ++ ss.take m, ss.drop m, fq', f6, f7', ?_, ?_, ?_, by simp; omega, by rw [e1, ha], by rw [e0]; exact hj, fun k hm => ⟨hq6 k hm, fun h => ?_⟩, fun k hm h => ?_,
    (hK.trans hk1 (fun i hi hm => by have := hN i (by simp [hm]); omega)).trans hk2 (fun i hi hm => by have := hN i (by simp [hm]); omega), fun k hm => ?_⟩
  · rw [e0]; exact hq.keeps hk2 hq7
  · rw [e0]; exact (h6.keeps hk1 (fun k hm h => (hd k h).1 hm)).keeps hk2 (fun k hm h => hd6 k hm h)
  · rw [e1, show strs (hrd ++ ss.take m) = strs hrd ++ strs (ss.take m) by simp [strs]]; exact h7'
  · rcases hn2 k h with h1 | h1
    · exact hq7 k hm h1
    · have := hq.lt k hm; omega
  · rcases hn2 k h with h1 | h1
    · exact hd6 k hm h1
    · have := h6.lt k hm; omega
  · rcases List.mem_append.1 hm with hm | hm
    · rcases hn1 k hm with h1 | h1
      · exact hN k (by simp [h1])
      · omega
    · rcases List.mem_append.1 hm with hm | hm
      · exact hN k (by simp [hm])
      · rcases hn2 k hm with h1 | h1
        · exact hN k (by simp [h1])
        · omega

/-- what Send leaves, either way. -/
def SentOr (w : World) (fp : List Nat) (b : Nat) (sent : Int) (ss : List ByteArray) (s : ByteArray) (r : Int) (w' : World) : Prop :=
  (r = 0 ∧ ss.length < 16 ∧ ∃ fp', QRep w' b ((sent + 1) % 4294967296) 0 (ss ++ [s]) fp' ∧ Keeps w w' fp ∧ ∀ k ∈ fp', k ∈ fp ∨ w.heap.size ≤ k) ∨ (r = 4 ∧ w = w')
theorem send_or (b : Nat) (sent : Int) (ss : List ByteArray) (fp : List Nat) (s : ByteArray) (w : World) (hq : QRep w b sent 0 ss fp) (hl : ss.length ≤ 16) :
    Calls Try.prog 13 #[.pointer (some ⟨b, 0, none⟩), .string s] w fun e w' => ∃ r, e = .returned (.int .i64 r) ∧ SentOr w fp b sent ss s r w' := by
  by_cases h : ss.length = 16
  · exact (send_full b sent 0 ss fp s w hq h).mono fun e w' ⟨he, hw⟩ => ⟨4, he, .inr ⟨rfl, hw⟩⟩
  · exact (send_room b sent 0 ss fp s w hq (by omega)).mono fun e w' ⟨fp', he, h1, h2, h3⟩ => ⟨0, he, .inl ⟨rfl, by omega, fp', h1, h2, h3⟩⟩

set_option maxHeartbeats 1600000 in
set_option maxRecDepth 100000 in
theorem walk (A : Option Addr) (n c : Nat) (ts : List ByteArray) (ft : List Nat) (B : Option Addr) (m d : Nat) (zs : List Int) (fz : List Nat) (w : World) (ht : Reads w 1 A n (strs ts) ft)
    (hz : Reads w 1 B m (zs.map (Value.int .u8)) fz) (hzl : zs.length = m) (hzw : ∀ z ∈ zs, (Lit.int .u8 z).wf = true) :
    Calls Try.prog 3 #[.slice A n c, .slice B m d] w fun e w' => e = .returned (.bool true) ∧ Below w.heap.size w w' := by
  obtain ⟨i0, hi, hz0, hz1, hz2⟩ := info_parts strInfo
  go_enter Try.func3, Try.ntmps3
  go_wp2_with fail
  refine (new_calls w).mono ?_
  rintro e w1 ⟨f1, rfl, hq1, hk1, hn1⟩
  obtain ⟨b, hb⟩ : ∃ b, b = w.heap.size := ⟨_, rfl⟩
  rw [← hb] at hq1 ⊢
  have hI : Inv w b 0 (.slice none 0 0) (.slice none 0 0) 0 w1 :=
    ⟨[], [], f1, [], [], by simpa using hq1, Own.bare _ _ _ _, Own.bare _ _ _ _, by simp, rfl, by simp, by simp, by simp, hk1, fun k hk => by have := hn1 k (by simpa using hk); simpa using this⟩
  clear hb hq1 hk1 hn1
  have HI := Lib.hid hI; clear hI
  have Hz := Lib.hid (And.intro hzl hzw); clear hzl hzw
  go_wp2_with fail
  go_loopg [6, 7, 8, 9] n (fun g s6 s7 s8 s9 wr => ∃ a j : Nat, g + j = n ∧ j ≤ 60 ∧ s8 = .int .u32 a ∧ s9 = .int .i64 j ∧ Inv w b a s6 s7 j wr)
  case atStart => exact ⟨0, 0, by omega, by omega, rfl, rfl, HI.out⟩
  case round =>
    obtain ⟨a, j, hg, h60, rfl, rfl, hI⟩ := hrel
    have HJ := Lib.hid (And.intro hI hg); clear hI hg
    by_cases hgo : j < n ∧ (j : Int) < 60
    · obtain ⟨hlt, hlt60⟩ := hgo
      obtain ⟨hrd, ss, fq, f6, f7, hq, h6, h7, hl, ha, hjl, hd, hd6, hK, hN⟩ := HJ.out.1
      obtain ⟨b1, o1, u1, hA, -, -, hx1, hc1⟩ := (ht.keeps hK (by simp)).cellAt hlt
      subst hA
      obtain ⟨s, hs, rfl⟩ : ∃ s, ts[j]? = some s ∧ Value.string s = u1 := by simpa [strs] using hx1
      have g1 : (0 : Int) ≤ (j : Int) := by omega
      have g2 : (j : Int) < (n : Int) := by omega
      obtain ⟨A6, n6, h6e, -, -⟩ := h6.form
      have H := Lib.hid (And.intro hq (And.intro h6 (And.intro h7 (And.intro hl (And.intro ha (And.intro hjl (And.intro hd (And.intro hd6 (And.intro hK hN)))))))))
      have Hs := Lib.hid (And.intro hs h6e)
      clear hs hx1 hq h6 h7 hl ha hjl hd hd6 hN h6e hK
      have HS := Lib.hid (send_or b _ ss fq s wr H.out.1 H.out.2.2.2.1)
      go_wp2_with fail
      refine HS.out.mono ?_
      clear HS
      rintro e w2 ⟨r, rfl, hS⟩
      have HS := Lib.hid hS; clear hS
      go_upto_if 30 with (fail)
      go_cut [6] (fun s6' wx => Inv w b a s6' u7 (j + 1) wx)
      case first =>
        obtain ⟨hq, h6, h7, hl, ha, hjl, hd, hd6, hK, hN⟩ := H.out
        rcases HS.out with ⟨rfl, hroom, fq2, hq2, hk2, hn2⟩ | ⟨rfl, rfl⟩
        · have hlow : ∀ k ∈ ft, k < w.heap.size := ht.lt
          have ht2 := (ht.keeps hK (by simp)).keeps hk2 (fun k h1 h2 => by have := hN k (by simp [h2]); have := hlow k h1; omega)
          obtain ⟨b2, o2, u2, hA2, -, -, hx2, hc2⟩ := ht2.cellAt hlt
          simp only [Option.some.injEq, Addr.mk.injEq, and_true] at hA2
          obtain ⟨rfl, rfl⟩ := hA2
          obtain rfl : u2 = .string s := by
            have h1 := Hs.out.1
            simp [strs, h1] at hx2
            exact hx2.symm
          have h6k := h6.keeps hk2 (fun k h1 h2 => (hd k h2).1 h1)
          have HH := Lib.hid (And.intro ha (And.intro hjl (And.intro hd (And.intro hd6 (And.intro hK (And.intro hN (And.intro h6 (And.intro h7 (And.intro hroom (And.intro hq2 (And.intro hk2 (And.intro hn2 h6k))))))))))))
          have hlen60 : (hrd ++ ss).length ≤ 60 := by omega
          clear HS hq hl ha hjl hd hd6 hK hN h6 h7 hroom hq2 hk2 hn2 h6k hx2 ht2 hlow hc1
          go_wp2_with (at_builtin; refine wpList_append_mine _ rfl (.tmp 31) (.tmp 36) _ _ rfl 9 i0 _ 1 16 Try.underlying22 hi hz0 hz1 hz2 rfl _ (hrd ++ ss).length (strs (hrd ++ ss)) f6 rfl (HH.out.2.2.2.2.2.2.2.2.2.2.2.2.alloc _) _ 1 (strs [s]) rfl ?_ ?_ ?_ ?_)
          · exact (Blk.new' w2 rfl 9 #[.string s]).src Try.underlying22 1 rfl (strs_one [s])
          · unfold maxLen; omega
          · omega
          intro v3 w3 f3 ho3 hk3 hn3
          have H3 := Lib.hid (And.intro ho3 (And.intro hk3 hn3)); clear ho3 hk3 hn3
          go_wp2_with fail
          go_meet
          obtain ⟨ha, hjl, hd, hd6, hK, hN, h6, h7, hroom, hq2, hk2, hn2, h6k⟩ := HH.out
          obtain ⟨ho3, hk3, hn3⟩ := H3.out
          refine sent_step h6 h7 hroom ha hjl hd hd6 hK hN hq2 (by have h1 := hjl; rw [List.length_append] at h1; simp; omega) hk2 hn2 (by rw [List.length_append]; exact ho3) ((Keeps.refl w2 f6).alloc _ |>.trans hk3 (fun _ _ h => h)) (fun k hk => by
            rcases hn3 k hk with h1 | h1
            · exact .inl h1
            · right; omega)
        · clear HS hq h6 h7 hl ha hjl hd hd6 hK hN
          go_wp2_with fail
          go_meet
          exact HJ.out.1.full
      case rest =>
        have HC := Lib.hid hcut; clear hcut
        by_cases hacks : j < m
        · obtain ⟨hrd', ss', fq', f6', f7', hq, h6, h7, hl, ha, hjl, hd, hd6, hK, hN⟩ := HC.out
          obtain ⟨b2, o2, u2, rfl, -, -, hx2, hc2⟩ := (hz.keeps hK (by simp)).cellAt hacks
          obtain ⟨z, hzj, rfl⟩ : ∃ z, zs[j]? = some z ∧ Value.int .u8 z = u2 := by simpa using hx2
          have hzb := bounds_u8 (Hz.out.2 z (List.mem_of_getElem? hzj))
          obtain ⟨q, hqz, hq20⟩ : ∃ q : Nat, z % 20 = (q : Int) ∧ q < 20 := ⟨(z % 20).toNat, by omega, by omega⟩
          have g3 : (j : Int) < (m : Int) := by omega
          have hz0' : 0 ≤ z := hzb.1
          have ha60 : (a : Int) ≤ 60 := by rw [ha]; have h1 := hjl; rw [List.length_append] at h1; omega
          have hq20' : (q : Int) < 20 := by omega
          have HH := Lib.hid (And.intro hq (And.intro h6 (And.intro h7 (And.intro hl (And.intro ha (And.intro hjl (And.intro hd (And.intro hd6 (And.intro hK hN)))))))))
          clear hq h6 h7 hl ha hjl hd hd6 hK hN hx2 hzj hzb
          go_wp2_with fail
          obtain ⟨hq, h6, h7, hl, ha, hjl, hd, hd6, hK, hN⟩ := HH.out
          have hlen := hjl
          rw [List.length_append] at hlen
          by_cases hok : q ≤ ss'.length
          · have hA := ack_ok b _ 0 ss' fq' ((a : Int) + (q : Int)) (ss'.length - q) wc hq (by rw [List.length_append]; omega) (by omega) hl
            rw [show ss'.length - (ss'.length - q) = q by omega] at hA
            obtain ⟨A7, n7, h7e, -, -⟩ := h7.form
            have hh60 : hrd'.length ≤ 60 := by omega
            have HA := Lib.hid (And.intro hA (And.intro hok h7e))
            clear hq h6 h7 hl ha hjl hd hd6 hK hN hlen hA hok h7e
            go_wp2_with fail
            refine HA.out.1.mono ?_
            rintro e w5 ⟨fq5, A5, c5, fo5, rfl, hq5, hr5, hd5, hk5, hn5⟩
            obtain ⟨hq, h6, h7, hl, ha, hjl, hd, hd6, hK, hN⟩ := HH.out
            have h7k := h7.keeps hk5 (fun k h1 h2 => (hd k h2).2 h1)
            have hr5' : Reads w5 1 A5 q (strs (ss'.take q)) fo5 := hr5
            have H5 := Lib.hid (And.intro hq5 (And.intro hr5' (And.intro hk5 (And.intro hn5 h7k))))
            clear hq h6 h7 hl ha hjl hd hd6 hK hN hq5 hr5 hr5' hd5 hk5 hn5 h7k
            go_wp2_with (at_builtin; refine wpList_append_mine _ rfl (.tmp 61) (.tmp 62) _ _ rfl 9 i0 _ 1 16 Try.underlying22 hi hz0 hz1 hz2 rfl _ hrd'.length (strs hrd') f7' rfl H5.out.2.2.2.2 _ q (strs (ss'.take q)) rfl (H5.out.2.1.src Try.underlying22 (strs_one _) _) ?_ ?_ ?_)
            · unfold maxLen; omega
            · omega
            intro v8 w8 f8 ho8 hk8 hn8
            have H8 := Lib.hid (And.intro ho8 (And.intro hk8 hn8)); clear ho8 hk8 hn8
            go_wp2_with fail
            go_roundg (n - (j + 1))
            case measure => have := HJ.out.2; omega
            case rel =>
              obtain ⟨hq, h6, h7, hl, ha, hjl, hd, hd6, hK, hN⟩ := HH.out
              obtain ⟨hq5, hr5, hk5, hn5, h7k⟩ := H5.out
              obtain ⟨ho8, hk8, hn8⟩ := H8.out
              exact ⟨a + q, j + 1, by omega, by omega, by go_num, by go_num, heard_step h6 h7 hl ha hjl HA.out.2.1 hd hd6 hK hN hq5 hk5 hn5 ho8 hk8 hn8⟩
          · have hA := ack_range b _ 0 ss' fq' ((a : Int) + (q : Int)) (4294967296 - (q - ss'.length)) wc hq (by rw [List.length_append]; omega) (by omega) (by omega)
            have HA := Lib.hid hA
            have hlt : (ss'.length : Int) < (q : Int) := by omega
            have h16 : (ss'.length : Int) ≤ 16 := by omega
            clear h6 h7 ha hjl hd hd6 hK hN hlen hA hok
            go_wp2_with fail
            refine HA.out.mono ?_
            rintro e w5 ⟨rfl, rfl⟩
            go_wp2_with fail
            refine (waiting_calls b _ 0 ss' fq' wc hq hl).mono ?_
            rintro e w6 ⟨v6, fv6, rfl, ho6, hk6, -⟩
            obtain ⟨A6', c6, rfl, -⟩ := ho6.form
            have H6 := Lib.hid hk6; clear hk6 ho6 hq hl
            go_wp2_with fail
            go_roundg (n - (j + 1))
            case measure => have := HJ.out.2; omega
            case rel => exact ⟨a, j + 1, by omega, by omega, rfl, by go_num, HC.out.keep H6.out⟩
        · have g3 : (m : Int) ≤ (j : Int) := by omega
          clear hacks
          go_wp2_with fail
          go_roundg (n - (j + 1))
          case measure => have := HJ.out.2; omega
          case rel => exact ⟨a, j + 1, by omega, by omega, rfl, by go_num, HC.out⟩
    · obtain ⟨hrd, ss, fq, f6, f7, hq, h6, h7, hl, ha, hjl, hd, hd6, hK, hN⟩ := HJ.out.1
      have hlen := hjl
      rw [List.length_append] at hlen
      have hh60 : hrd.length ≤ 60 := by omega
      have hS60 : ((hrd ++ ss).length : Int) ≤ 60 := by omega
      obtain ⟨A6, n6, rfl, -, fr6, hr6, hfr6⟩ := h6.form
      have HH := Lib.hid (And.intro hq (And.intro h6 (And.intro h7 (And.intro hl (And.intro hd (And.intro hK (And.intro hr6 (And.intro (fun k h1 => hd6 k (hfr6 k h1)) hN))))))))
      clear hq h6 h7 hl ha hjl hd hd6 hK hN hlen hr6
      by_cases hlt : j < n
      all_goals
        first
          | have h60' : (60 : Int) ≤ (j : Int) := by omega
          | (obtain rfl : j = n := by have := HJ.out.2; omega)
        clear hgo
        go_wp2_with fail
        refine (waiting_calls b _ 0 ss fq wr HH.out.1 HH.out.2.2.2.1).mono ?_
        rintro e w2 ⟨v2, f2, rfl, ho2, hk2, hn2⟩
        obtain ⟨A2, c2, rfl, -, fr2, hr2, -⟩ := ho2.form
        obtain ⟨A7, n7, h7e, -, -⟩ := HH.out.2.2.1.form
        have H2 := Lib.hid (And.intro hr2 (And.intro hk2 (And.intro (HH.out.2.2.1.keeps hk2 (by simp)) h7e))); clear hr2 hk2 hn2 ho2 h7e
        have hl16 : ss.length ≤ 16 := HH.out.2.2.2.1
        go_wp2_with (at_builtin; refine wpList_append_mine _ rfl (.tmp 85) (.tmp 87) _ _ rfl 9 i0 _ 1 16 Try.underlying22 hi hz0 hz1 hz2 rfl _ hrd.length (strs hrd) f7 rfl H2.out.2.2.1 _ ss.length (strs ss) rfl (H2.out.1.src Try.underlying22 (strs_one _) _) ?_ ?_ ?_)
        · unfold maxLen; omega
        · omega
        intro v3 w3 f3 ho3 hk3 hn3
        obtain ⟨A3, n3, rfl, -, fr3, hr3, -⟩ := ho3.form
        have hq3 := (HH.out.1.keeps H2.out.2.1 (by simp)).keeps hk3 (fun k h1 h2 => (HH.out.2.2.2.2.1 k h1).2 h2)
        have hr3' : Reads w3 1 A3 (hrd.length + ss.length) (strs (hrd ++ ss)) fr3 := by simpa [strs] using hr3
        have hr6' : Reads w3 1 A6 (hrd ++ ss).length (strs (hrd ++ ss)) fr6 := (HH.out.2.2.2.2.2.2.1.keeps H2.out.2.1 (by simp)).keeps hk3 HH.out.2.2.2.2.2.2.2.1
        have hK3 : Keeps w w3 [] := (HH.out.2.2.2.2.2.1.trans H2.out.2.1 (by simp)).trans hk3 (fun i hi hm => by have := HH.out.2.2.2.2.2.2.2.2 i (by simp [hm]); omega)
        rw [List.length_append] at hr6'
        have H3 := Lib.hid (And.intro hr3' (And.intro hr6' hK3)); clear hr3 hr3' hr6' hK3 hk3 hn3 ho3
        rw [List.length_append] at hS60 hq3
        go_wp2_with fail
        refine (live_calls w3).mono ?_
        rintro e w4 ⟨rfl, hk4⟩
        have hq4 := hq3.keeps hk4 (by simp)
        have H4 := Lib.hid hk4; clear hk4 hq3
        go_wp2_with fail
        refine (same_calls A6 A3 (hrd.length + ss.length) (hrd.length + ss.length) n6 n3 (hrd ++ ss) (hrd ++ ss) fr6 fr3 w4 (H3.out.2.1.keeps H4.out (by simp)) (H3.out.1.keeps H4.out (by simp)) (by omega) (by omega)).mono ?_
        rintro e w5 ⟨rfl, q5, rfl⟩
        go_wp2_with fail
        refine (sent_calls b _ 0 ss fq _ (hq4.keeps ((Keeps.refl w4 []).drewN q5) (by simp))).mono ?_
        rintro e w6 ⟨rfl, rfl⟩
        go_wp2_with fail
        go_ret
        exact ⟨by simp, ((H3.out.2.2.trans H4.out (by simp)).drewN q5).below (Nat.le_refl _) (by simp)⟩

/-! ### the row (its frame is printed by gen.py; the walk is above) -/
theorem own : ownKnob Try.prog.godebug = none := by kernel_rfl
theorem laidOut : laidOutB Try.prog = true := by kernel_rfl
set_option maxRecDepth 100000 in
theorem lifted (os : Os) (started : os.Started) (H : Type) (enc : TypeId × Value → H) :
    ReturnsInHanded {} Try.checked os 3 .any (Rows.ackOrderSpec.pre6 enc Try.prog Try.f3 Rows.ackOrderRow.domain false) (Rows.ackOrderSpec.post enc Try.prog Try.f3 false true false false) := by
  refine returnsInHanded_of_change (C := Try.checked) own started (by kernel_rfl) Try.func3
    (ChangeSpec.witness6 (enc := enc) (C := Try.checked) false ⟨#[], #[.slice none 0 0, .slice none 0 0], []⟩ 8 (by kernel_rfl) (by kernel_rfl) (by kernel_rfl) (by kernel_rfl)) ?_
  intro W base args ds gs before hval0 hW hcnd _
  have hval : ∀ (j : Nat) t v, Try.f3.params[j]? = some t → args[j]? = some v → Value.okWide Try.prog W .any base t v := hval0
  have hW' := hW
  obtain ⟨p, q, hA0, hV, rfl, hfz, hnd⟩ := hW
  have hA : DataW.TrodAll enc Try.prog W 0 (fun _ => true) true Try.f3.params.toList args.toList ds p := hA0
  rw [Try.params3] at hA hval
  obtain ⟨v0, vs0, d0, ds0, p0, q0, hargs, rfl, rfl, h0, r0⟩ := trodAll_cons hA
  obtain ⟨v1, vs1, d1, ds1, p1, q1, rfl, rfl, rfl, h1, r1⟩ := trodAll_cons r0
  obtain ⟨rfl, rfl, rfl⟩ := trodAll_nil r1
  obtain rfl : args = #[v0, v1] := by cases args; simp_all
  obtain ⟨rfl, rfl⟩ := trodVars_none hV
  have k0 := h0
  have lt0 : ∀ x ∈ p0, x.block < W.heap.size := by obtain ⟨m, hm⟩ := k0; exact DataW.trod_lt m _ _ _ hm
  obtain ⟨a0, len0, cap0, rfl⟩ := okWide_slice Try.underlying22 (hval 0 22 v0 rfl rfl)
  obtain ⟨fuel0, hf0⟩ := h0
  obtain ⟨x0, fp0, w0, wl0⟩ := open_reads_strs (enc := enc) (P := Try.prog) Try.underlying22 Try.underlying9 (by kernel_rfl) (by simpa [Value.cells] using hf0)
  have k1 := h1
  have lt1 : ∀ x ∈ p1, x.block < W.heap.size := by obtain ⟨m, hm⟩ := k1; exact DataW.trod_lt m _ _ _ hm
  obtain ⟨a1, len1, cap1, rfl⟩ := okWide_slice Try.underlying23 (hval 1 23 v1 rfl rfl)
  obtain ⟨fuel1, hf1⟩ := h1
  obtain ⟨x1, fp1, w1, wn1, wl1⟩ := open_reads_ints (enc := enc) (P := Try.prog) Try.underlying23 Try.underlying5 (by kernel_rfl) (by simpa [Value.cells] using hf1)
  clear hA0 hval0
  refine (walk a0 len0 cap0 x0 fp0 a1 len1 cap1 x1 fp1 W w0 w1 wn1 wl1).mono fun e W' ⟨he, bel⟩ => ?_
  subst he
  exact ⟨_, rfl, _, _, _, [], _, [], hW', trodAll_mk1 (shut_bool Try.underlying4 _), (trodAll_cons_mk (Below.trod laidOut (by kernel_rfl) (of_decide_eq_true (by kernel_rfl)) k0 bel lt0) (trodAll_cons_mk (Below.trod laidOut (by kernel_rfl) (of_decide_eq_true (by kernel_rfl)) k1 bel lt1) trodAll_mk0)), rfl, bel.frame _, fun h => by cases h⟩

theorem over : Rows.ackOrderRow.holds Try.pinned (OpenSpec.ofChange Rows.ackOrderSpec) :=
  OpenClaim.holds_of_wide 3 Try.f3 rfl rfl rfl rfl rfl rfl rfl ⟨rfl, rfl, rfl, rfl, rfl⟩ rfl rfl rfl rfl rfl (by kernel_rfl) Try.func3 (by kernel_rfl)
    (of_decide_eq_true (by kernel_rfl)) (by unfold Func.isWrapper; first | (rw [if_pos (by decide +kernel)]; kernel_rfl) | (rw [if_neg (by decide +kernel)]; exact ⟨rfl, rfl⟩))
    (fun os started H enc _ => lifted os started H enc)

theorem proved : Rows.AckOrderSaid := over
#print axioms proved
end Go.Proofs.Ytgkbkggegdmcgaa.vAckOrder
