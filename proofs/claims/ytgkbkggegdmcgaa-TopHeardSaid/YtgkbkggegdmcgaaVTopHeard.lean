/-
  For every steps of sending and hearing, what one side got, and counted, is a beginning of what the other side sent: heliographtop.TopHeard answers true, and its argument reads as before. No condition.
-/
import Derived.Test.YtgkbkggegdmcgaaRows
import Derived.ProofKit
import Derived.OpenShut
import Derived.ShutString
import Derived.ChangeOld
import Derived.Carry
import Derived.Test.YtgkbkggegdmcgaaSteps
import Derived.Test.YtgkbkggegdmcgaaStar
namespace Go.Proofs.Ytgkbkggegdmcgaa.vTopHeard
open Go.ChangeShapes Go.WideShapes Go.ChangeAt Go.RowKit
open Go.ChangeMaps (open_string shut_string)
set_option linter.unusedVariables false

def Rep.q (b : Nat) (sent got : Int) (ss : List ByteArray) : Rep := ⟨fun w fp => QRep w b sent got ss fp, QRep.lt, QRep.keeps⟩
def tx2 (x y : Int) : ByteArray := strOfNums [x, y]
def tx (i : Nat) : ByteArray := tx2 ((i : Int) / 256) ((i : Int) % 256)
theorem run_tx (w : World) (x y : Int) : (convert 23 9 (.slice (some ⟨w.heap.size, 0, none⟩) 2 2)).run Try.prog (w.alloc (.cells #[.int .u8 x, .int .u8 y] 5)) = .ok (.string (tx2 x y)) (w.alloc (.cells #[.int .u8 x, .int .u8 y] 5)) :=
  run_convert_bytes_arg _ 23 5 Try.underlying23 Try.underlying5 w.heap.size 0 2 2 [x, y] rfl (fun i hi => by
    rw [(Blk.new w _ _).cell]
    have h2 : i = 0 ∨ i = 1 := by omega
    rcases h2 with rfl | rfl <;> rfl) _ Try.underlying9
theorem run_txd (w : World) (x y : Int) : (convert 23 9 (.slice (some ⟨w.heap.size, 0, none⟩) 2 2)).run Try.prog (w.alloc (.cells #[.int .u8 x, .int .u8 y] 5)).drew = .ok (.string (tx2 x y)) (w.alloc (.cells #[.int .u8 x, .int .u8 y] 5)).drew :=
  run_convert_bytes_arg _ 23 5 Try.underlying23 Try.underlying5 w.heap.size 0 2 2 [x, y] rfl (fun i hi => by
    rw [(Blk.new w _ _).drew.cell]
    have h2 : i = 0 ∨ i = 1 := by omega
    rcases h2 with rfl | rfl <;> rfl) _ Try.underlying9
def txs (n : Nat) : List ByteArray := (List.range n).map tx
theorem txs_length (n : Nat) : (txs n).length = n := by simp [txs]
theorem txs_succ (n : Nat) : txs (n + 1) = txs n ++ [tx n] := by simp [txs, List.range_succ]
theorem txs_drop (n a : Nat) (h : a ≤ n) : (txs (n + 1)).drop a = (txs n).drop a ++ [tx n] := by
  rw [txs_succ, List.drop_append_of_le_length (by simpa [txs_length] using h)]

theorem txs_at (M G k : Nat) (h : G + k < M) : ((txs M).drop G)[k]? = some (tx (G + k)) := by
  rw [List.getElem?_drop]
  simp [txs, h]
/-- within a round, behind the sending: M were sent, G were heard. -/
def GInv (w : World) (b1 b2 : Nat) (v5 v10 : Value) (G0 G M L : Nat) (wr : World) : Prop :=
  G0 ≤ G ∧ G ≤ M ∧ Star w wr [Rep.own 9 1 v10 L (strs ((txs M).drop G0)), Rep.q b1 M 0 ((txs M).drop G0), Rep.q b2 0 G [], Rep.own 9 1 v5 G (strs (txs G))]
/-- within a round: M were sent, of which G were heard ahead of it. -/
def MInv (w : World) (b1 b2 : Nat) (v5 v10 : Value) (G M : Nat) (wr : World) : Prop :=
  G ≤ M ∧ M ≤ G + 16 ∧ Star w wr [Rep.own 9 1 v10 (M - G) (strs ((txs M).drop G)), Rep.q b1 M 0 ((txs M).drop G), Rep.q b2 0 G [], Rep.own 9 1 v5 G (strs (txs G))]
/-- between two rounds. -/
def HInv (w : World) (b1 b2 : Nat) (v5 : Value) (N i : Nat) (wr : World) : Prop :=
  ∃ A G, A ≤ G ∧ G ≤ N ∧ N ≤ A + 16 ∧ N ≤ 7 * i ∧ i ≤ 30 ∧ Star w wr [Rep.q b1 N 0 ((txs N).drop A), Rep.q b2 0 G [], Rep.own 9 1 v5 G (strs (txs G))]

set_option maxHeartbeats 1600000 in
set_option maxRecDepth 100000 in
theorem walk (A : Option Addr) (n c : Nat) (ps : List (Nat × Nat)) (w : World) (hs : Steps w A n ps) :
    Calls Try.prog 11 #[.slice A n c] w fun e w' => e = .returned (.bool true) ∧ Below w.heap.size w w' := by
  obtain ⟨i0, hi, hz0, hz1, hz2⟩ := info_parts strInfo
  have kc := run_tx
  go_enter Try.func11, Try.ntmps11
  go_wp2_with fail
  refine (new_calls w).mono ?_
  rintro e w1 ⟨f1, rfl, hq1, hk1, hn1⟩
  have S1 := (Star.nil w).add (Rep.q w.heap.size 0 0 []) hq1 hk1 (by simpa using hn1)
  obtain ⟨b1, hb1⟩ : ∃ b, b = w.heap.size := ⟨_, rfl⟩
  rw [← hb1] at S1 ⊢
  have H1 := Lib.hid S1
  clear hb1 hq1 hk1 hn1 S1
  go_wp2_with fail
  refine (new_calls w1).mono ?_
  rintro e w2 ⟨f2, rfl, hq2, hk2, hn2⟩
  have S2 := H1.out.add (Rep.q w1.heap.size 0 0 []) hq2 hk2 (by simpa using hn2)
  obtain ⟨b2, hb2⟩ : ∃ b, b = w1.heap.size := ⟨_, rfl⟩
  rw [← hb2] at S2 ⊢
  have H2 := Lib.hid S2
  clear hb2 hq2 hk2 hn2 S2 H1
  have hI : HInv w b1 b2 (.slice none 0 0) 0 0 w2 := ⟨0, 0, by omega, by omega, by omega, by omega, by omega,
    (H2.out.add (Rep.own 9 1 (.slice none 0 0) 0 []) (Own.bare _ _ _ _) (Keeps.refl _ _) (by simp)).turn (fun i => 2 - i) (fun i S h => by
      rcases i with _ | _ | _ | i <;> simp at h <;> subst h <;> rfl) (fun i j hi hj h => by simp at hi hj; omega)⟩
  have HI := Lib.hid hI; clear hI H2
  go_wp2_with fail
  go_loopg [5, 6, 7] n (fun g s5 s6 s7 wr => ∃ N j : Nat, g + j = n ∧ s6 = .int .i64 N ∧ s7 = .int .i64 j ∧ HInv w b1 b2 s5 N j wr)
  case atStart => exact ⟨0, 0, by omega, rfl, rfl, HI.out⟩
  case round =>
    obtain ⟨N, j, hg, rfl, rfl, hI⟩ := hrel
    have HJ := Lib.hid (And.intro hI hg); clear hI hg
    by_cases hgo : j < n ∧ (j : Int) < 30
    · obtain ⟨hlt, hlt30⟩ := hgo
      obtain ⟨a, G, haG, hGN, hNa, hN7, h30, hS⟩ := HJ.out.1
      obtain ⟨bs, os, ⟨p, q⟩, rfl, hpq, hp, hq⟩ := hs.get hlt
      have hp : p < 256 := hp
      have hq : q < 256 := hq
      have Hs := Lib.hid (And.intro hs hpq)
      have hN210 : N ≤ 210 := by omega
      have HN := Lib.hid (And.intro haG (And.intro hGN (And.intro hNa (And.intro hN7 (And.intro h30 (And.intro hS hN210))))))
      clear haG hGN hNa hN7 h30 hS hN210 hpq hs
      go_wp2_with fail
      obtain ⟨fp2, hq2, hf2, back2⟩ := HN.out.2.2.2.2.2.1.step 1 rfl
      refine (handled_calls b2 0 G [] fp2 _ hq2).mono ?_
      rintro e w3 ⟨rfl, rfl⟩
      clear hq2 hf2 back2 fp2
      go_wp2_with fail
      obtain ⟨fp1, hq1, hf1, back1⟩ := HN.out.2.2.2.2.2.1.step_add 0 rfl
      refine (resume_ok b1 N 0 _ fp1 G (N - G) wr hq1 (by have := HN.out.2.1; have := HN.out.2.2.2.2.2.2; omega) (by have := HN.out.1; simp [txs_length]; omega) (by have := HN.out.2.2.1; simp [txs_length]; omega)).mono ?_
      rintro e w4 ⟨fq, v, fo, rfl, hq4, hown4, hfo, hk4, hn4⟩
      have S4 := back1 w4 (Rep.q b1 N 0 ((txs N).drop G)) (Rep.own 9 1 v (N - G) (strs ((txs N).drop G))) fq fo (by
        have e1 : ((txs N).drop a).drop (((txs N).drop a).length - (N - G)) = (txs N).drop G := by
          have := HN.out.1; have := HN.out.2.1
          rw [List.drop_drop, List.length_drop, txs_length]; congr 1; omega
        rw [e1] at hq4; exact hq4) (by
        have e1 : ((txs N).drop a).drop (((txs N).drop a).length - (N - G)) = (txs N).drop G := by
          have := HN.out.1; have := HN.out.2.1
          rw [List.drop_drop, List.length_drop, txs_length]; congr 1; omega
        rw [e1, List.length_drop, txs_length] at hown4; exact hown4) hk4 hn4 hfo
      have H4 := Lib.hid S4
      clear S4 hq1 hf1 back1 hq4 hown4 hfo hk4 hn4 fp1 fq fo
      have HM : MInv w b1 b2 u5 v G N w4 := ⟨HN.out.2.1, by have := HN.out.1; have := HN.out.2.2.1; omega, H4.out⟩
      have HM := Lib.hid HM
      clear H4
      go_upto_block 2 with (fail)
      go_cut [6, 10] (fun s6 s10 wx => ∃ M : Nat, s6 = .int .i64 M ∧ M ≤ N + 7 ∧ MInv w b1 b2 u5 s10 G M wx)
      case first =>
        go_wp2_with fail
        go_loopg [6, 10, 11] (p % 8) (fun g s6 s10 s11 wx => ∃ M k : Nat, g + k = p % 8 ∧ s6 = .int .i64 M ∧ s11 = .int .i64 k ∧ M ≤ N + k ∧ MInv w b1 b2 u5 s10 G M wx)
        case atStart => exact ⟨N, 0, by omega, rfl, rfl, by omega, HM.out⟩
        case round =>
          obtain ⟨M, k, hgk, rfl, rfl, hMk, hI⟩ := hrel
          have c0 : wr.cell? ⟨bs, os + j * 2, none⟩ = some (.int .u8 (p : Nat)) := (Hs.out.1.cells Hs.out.2 hI.2.2.old).1
          have hM : M ≤ 300 := by have := HN.out.2.2.2.2.2.2; omega
          have HK := Lib.hid (And.intro hI (And.intro hgk hMk)); clear hI hgk hMk
          by_cases hkp : (k : Int) < (p : Int) % 8
          · go_wp2_with fail
            by_cases hfull : ((txs M).drop G).length = 16
            · obtain ⟨fpq, hq1, -, -⟩ := HK.out.1.2.2.step 1 rfl
              refine (send_full b1 M 0 _ fpq _ _ (hq1.keeps ((Keeps.refl wr []).alloc _) (by simp)) hfull).mono ?_
              rintro e w5 ⟨rfl, rfl⟩
              clear hq1 hfull
              go_wp2_with fail
              go_meet
              exact ⟨M, rfl, by have := HK.out.2; omega, HK.out.1.1, HK.out.1.2.1, HK.out.1.2.2.quiet ((Keeps.refl wr []).alloc _)⟩
            · have S5 := HK.out.1.2.2.quiet ((Keeps.refl wr []).alloc (.cells #[.int .u8 ((M : Int) / 256), .int .u8 ((M : Int) % 256)] 5))
              obtain ⟨fpq, hq1, -, back⟩ := S5.step 1 rfl
              have hlen : ((txs M).drop G).length < 16 := by
                have := HK.out.1.1; have := HK.out.1.2.1
                rw [List.length_drop, txs_length] at hfull ⊢; omega
              refine (send_room b1 M 0 _ fpq _ _ hq1 hlen).mono ?_
              rintro e w5 ⟨fq5, rfl, hq5, hk5, hn5⟩
              have S6 := back w5 (Rep.q b1 (M + 1 : Nat) 0 ((txs (M + 1)).drop G)) fq5 (by
                rw [txs_drop M G HK.out.1.1]
                have e1 : ((M : Int) + 1) % 4294967296 = ((M + 1 : Nat) : Int) := by omega
                rw [e1] at hq5
                exact hq5) hk5 hn5
              rw [List.length_drop, txs_length] at hlen
              have H6 := Lib.hid (And.intro S6 hlen)
              clear S5 S6 hq1 back hq5 hk5 hn5 hlen hfull
              obtain ⟨fpo, ho, -, back⟩ := (H6.out.1.quiet ((Keeps.refl w5 []).alloc (.cells #[.string (tx2 ((M : Int) / 256) ((M : Int) % 256))] 9))).step 0 rfl
              have HO := Lib.hid (And.intro ho back); clear ho back
              go_wp2_with (at_builtin; refine wpList_append_mine _ rfl (.tmp 61) (.tmp 63) _ _ rfl 9 i0 _ 1 16 Try.underlying22 hi hz0 hz1 hz2 rfl _ (M - G) (strs ((txs M).drop G)) fpo rfl HO.out.1 _ 1 (strs [tx M]) rfl ?_ ?_ ?_ ?_)
              · exact (Blk.new' w5 rfl 9 #[.string (tx M)]).src Try.underlying22 1 rfl (strs_one [tx M])
              · unfold maxLen; omega
              · omega
              intro v10 w7 f7 ho7 hk7 hn7
              have HI7 : MInv w b1 b2 u5 v10 G (M + 1) w7 := ⟨by have := HK.out.1.1; omega, by have := HK.out.1.1; have := H6.out.2; omega, HO.out.2 w7 (Rep.own 9 1 v10 (M + 1 - G) (strs ((txs (M + 1)).drop G))) f7 (by
                have := HK.out.1.1
                rw [txs_drop M G HK.out.1.1, show M + 1 - G = M - G + 1 by omega]
                have e1 : strs ((txs M).drop G ++ [tx M]) = strs ((txs M).drop G) ++ strs [tx M] := by simp [strs]
                rw [e1]; exact ho7) hk7 (by simpa using hn7)⟩
              have HI7 := Lib.hid HI7
              clear ho7 hk7 hn7
              go_wp2_with fail
              go_roundg (p % 8 - (k + 1))
              case measure => have := HK.out.2; omega
              case rel => exact ⟨M + 1, k + 1, by have := HK.out.2; omega, by go_num, by go_num, by have := HK.out.2; omega, HI7.out⟩
          · have hkp' : (p : Int) % 8 ≤ (k : Int) := by omega
            go_wp2_with fail
            go_meet
            exact ⟨M, rfl, by have := HK.out.2; omega, HK.out.1⟩
      case rest =>
        obtain ⟨M, rfl, hM7, hI⟩ := hcut
        have HC := Lib.hid (And.intro hI hM7); clear hI hM7
        obtain ⟨fo0, ho0, -, -⟩ := HC.out.1.2.2.step 0 rfl
        obtain ⟨Aw, cw, rfl, hcw, -⟩ := Own.form ho0
        obtain ⟨L, hL⟩ : ∃ L, L = M - G := ⟨_, rfl⟩
        have hI0 : GInv w b1 b2 u5 (.slice Aw L cw) G G M L wc := ⟨Nat.le_refl _, HC.out.1.1, by subst hL; exact HC.out.1.2.2⟩
        have HL := Lib.hid (And.intro hL hI0)
        rw [← hL] at hcw ⊢
        clear hL hI0 ho0
        go_wp2_with fail
        go_loopg [5, 13] L (fun g s5 s13 wx => ∃ k : Nat, g + k = L ∧ s13 = .int .i64 k ∧ GInv w b1 b2 s5 (.slice Aw L cw) G (G + k) M L wx)
        case atStart => exact ⟨0, by omega, rfl, HL.out.2⟩
        case round =>
          obtain ⟨k, hgk, rfl, hI⟩ := hrel
          have c1 : wr.cell? ⟨bs, os + j * 2 + 1, none⟩ = some (.int .u8 (q : Nat)) := (Hs.out.1.cells Hs.out.2 hI.2.2.old).2
          have hM : M ≤ 300 := by have := HN.out.2.2.2.2.2.2; have := HC.out.2; omega
          obtain ⟨fo, ho, -, -⟩ := hI.2.2.step 0 rfl
          obtain ⟨Aw', cw', he, -, fr, hr, -⟩ := Own.form ho
          simp only [Value.slice.injEq, true_and] at he
          obtain ⟨rfl, rfl⟩ := he
          have hkM : k ≤ L := by omega
          have hGM : G ≤ M := HC.out.1.1
          have HK := Lib.hid (And.intro hI (And.intro hgk HL.out.1)); clear hI hgk ho
          by_cases hgo : (k : Int) < (q : Int) % 12 ∧ k < L
          · obtain ⟨hkq, hkL⟩ := hgo
            obtain ⟨bw, ow, uw, rfl, -, -, hxw, hcell⟩ := hr.cellAt hkL
            obtain rfl : Value.string (tx (G + k)) = uw := by
              have e1 := HK.out.2.2
              simp only [strs, List.getElem?_map, txs_at M G k (by omega), Option.map_some, Option.some.injEq] at hxw
              exact hxw
            clear hxw hr
            obtain ⟨fpo, ho, -, back⟩ := (HK.out.1.2.2.quiet ((Keeps.refl wr []).alloc (.cells #[.string (tx (G + k))] 9))).step 3 rfl
            have HO := Lib.hid (And.intro ho back); clear ho back
            have hGk : G + k < 301 := by have := HK.out.2.2; omega
            go_wp2_with (at_builtin; refine wpList_append_mine _ rfl (.tmp 82) (.tmp 87) _ _ rfl 9 i0 _ 1 16 Try.underlying22 hi hz0 hz1 hz2 rfl _ (G + k) (strs (txs (G + k))) fpo rfl HO.out.1 _ 1 (strs [tx (G + k)]) rfl ?_ ?_ ?_ ?_)
            · exact (Blk.new' wr rfl 9 #[.string (tx (G + k))]).src Try.underlying22 1 rfl (strs_one [tx (G + k)])
            · unfold maxLen; omega
            · omega
            intro v5' w7 f7 ho7 hk7 hn7
            have S7 := HO.out.2 w7 (Rep.own 9 1 v5' (G + k + 1) (strs (txs (G + k + 1)))) f7 (by
              have e1 : strs (txs (G + k + 1)) = strs (txs (G + k)) ++ strs [tx (G + k)] := by rw [txs_succ]; simp [strs]
              rw [e1]; exact ho7) hk7 (by simpa using hn7)
            obtain ⟨fq, hq7, -, back⟩ := S7.step 2 rfl
            have HQ := Lib.hid (And.intro hq7 back)
            clear ho7 hk7 hn7 S7 hq7 back HO
            go_wp2_with fail
            refine (got_calls b2 0 _ [] fq w7 HQ.out.1).mono ?_
            rintro e w8 ⟨fq8, rfl, hq8, hk8, hn8⟩
            have hI8 : GInv w b1 b2 v5' (.slice (some ⟨bw, ow, none⟩) L cw) G (G + (k + 1)) M L w8 := ⟨by omega, by have := HK.out.2.2; omega, HQ.out.2 w8 (Rep.q b2 0 (G + (k + 1) : Nat) []) fq8 (by
              have e1 : (((G + k : Nat) : Int) + 1) % 4294967296 = ((G + (k + 1) : Nat) : Int) := by omega
              rw [e1] at hq8; exact hq8) hk8 hn8⟩
            have HI8 := Lib.hid hI8
            clear hI8 hq8 hk8 hn8
            go_wp2_with fail
            go_roundg (L - (k + 1))
            case measure => have := HK.out.2; omega
            case rel => exact ⟨k + 1, by have := HK.out.2; omega, by go_num, HI8.out⟩
          · have hend : HInv w b1 b2 u5 M (j + 1) wr := ⟨G, G + k, by omega, HK.out.1.2.1, HC.out.1.2.1, by have := HN.out.2.2.2.1; have := HC.out.2; omega, by omega, HK.out.1.2.2.tail⟩
            have HE := Lib.hid hend; clear hend
            by_cases hkq : (k : Int) < (q : Int) % 12
            · have hkL : k = L := by omega
              subst hkL
              go_wp2_with fail
              go_roundg (n - (j + 1))
              case measure => have := HJ.out.2; omega
              case rel => exact ⟨M, j + 1, by have := HJ.out.2; omega, rfl, by go_num, HE.out⟩
            · have hkq' : (q : Int) % 12 ≤ (k : Int) := by omega
              go_wp2_with fail
              go_roundg (n - (j + 1))
              case measure => have := HJ.out.2; omega
              case rel => exact ⟨M, j + 1, by have := HJ.out.2; omega, rfl, by go_num, HE.out⟩
    · obtain ⟨a, G, haG, hGN, hNa, hN7, h30, hS⟩ := HJ.out.1
      have HN := Lib.hid (And.intro hGN (And.intro hS (And.intro hN7 h30)))
      obtain ⟨fo, ho, -, -⟩ := hS.step 2 rfl
      obtain ⟨Ag, cg, rfl, hcg, fr, hr, -⟩ := Own.form ho
      have hG210 : G ≤ 210 := by omega
      have hGNi : (G : Int) ≤ (N : Int) := by omega
      have hN210 : N ≤ 210 := by omega
      clear haG hGN hNa hN7 h30 hS ho
      by_cases hlt : j < n
      all_goals
        first
          | have h30' : (30 : Int) ≤ (j : Int) := by omega
          | (obtain rfl : j = n := by have := HJ.out.2; omega)
        clear hgo
        go_wp2_with fail
        obtain ⟨wo, rfl⟩ : ∃ wo : World, wo = wr := ⟨_, rfl⟩
        go_loopg [14] G (fun g s14 wx => ∃ k : Nat, g + k = G ∧ s14 = .int .i64 k ∧ Keeps wo wx [])
        case atStart => exact ⟨0, by omega, rfl, Keeps.refl _ _⟩
        case round =>
          obtain ⟨k, hgk, rfl, hK⟩ := hrel
          have HK := Lib.hid (And.intro hK hgk)
          have hrk := hr.keeps hK (by simp)
          clear hK hgk
          by_cases hlk : k < G
          · obtain ⟨bg, og, ug, rfl, -, hbg, hxg, hcell⟩ := hrk.cellAt hlk
            obtain rfl : Value.string (tx2 ((k : Int) / 256) ((k : Int) % 256)) = ug := by
              simp only [strs, txs, List.getElem?_map, List.getElem?_range hlk, Option.map_some, Option.some.injEq] at hxg
              exact hxg
            clear hxg hrk
            go_wp2_with fail
            have kd := run_txd
            have hw1 : IntKind.i64.wrap ((k : Int) / 256) = (k : Int) / 256 := IntWalk.i64_in _ (by omega)
            have hw2 : IntKind.u8.wrap ((k : Int) / 256) = (k : Int) / 256 := by rw [IntKind.wrap_u8']; omega
            have hw3 : IntKind.u8.wrap (k : Int) = (k : Int) % 256 := by rw [IntKind.wrap_u8']
            have hcell2 := ((((Keeps.refl wr []).alloc (.cells #[.int .u8 ((k : Int) / 256), .int .u8 ((k : Int) % 256)] 5)).drew).cell (p := ⟨bg, og + k, none⟩) hbg (by simp)).trans hcell
            have hcell3 := ((Keeps.refl wr []).drew.cell (p := ⟨bg, og + k, none⟩) hbg (by simp)).trans hcell
            clear hbg
            go_region_law (fail)
            all_goals
              clear hcell2 hcell3 hw1 hw2 hw3 kd
              go_wp2_with fail
              go_roundg (G - (k + 1))
              case measure => have := HK.out.2; omega
              case rel => exact ⟨k + 1, by have := HK.out.2; omega, by go_num, (HK.out.1.alloc _).drew⟩
          · obtain rfl : k = G := by have := HK.out.2; omega
            have S := HN.out.2.1.quiet HK.out.1
            obtain ⟨f2, hq2, -, -⟩ := S.step 1 rfl
            obtain ⟨f1, hq1, -, -⟩ := S.step 0 rfl
            have H2 := Lib.hid hq2
            have H1 := Lib.hid hq1
            have hold := Lib.hid S.old
            clear S hq1 hq2 hrk hr
            go_wp2_with fail
            refine (handled_calls b2 0 _ [] f2 wr H2.out).mono ?_
            rintro e w3 ⟨rfl, rfl⟩
            go_wp2_with fail
            refine (sent_calls b1 _ 0 _ f1 wr H1.out).mono ?_
            rintro e w3 ⟨rfl, rfl⟩
            go_wp2_with fail
            go_ret
            exact ⟨by simp, hold.out.below (Nat.le_refl _) (by simp)⟩

/-! ### the row (its frame is printed by gen.py; the walk is above) -/
theorem own : ownKnob Try.prog.godebug = none := by kernel_rfl
theorem laidOut : laidOutB Try.prog = true := by kernel_rfl
set_option maxRecDepth 100000 in
theorem lifted (os : Os) (started : os.Started) (H : Type) (enc : TypeId × Value → H) :
    ReturnsInHanded {} Try.checked os 11 .any (Rows.topHeardSpec.pre6 enc Try.prog Try.f11 Rows.topHeardRow.domain false) (Rows.topHeardSpec.post enc Try.prog Try.f11 false true false false) := by
  refine returnsInHanded_of_change (C := Try.checked) own started (by kernel_rfl) Try.func11
    (ChangeSpec.witness6 (enc := enc) (C := Try.checked) false ⟨#[], #[.slice none 0 0], []⟩ 8 (by kernel_rfl) (by kernel_rfl) (by kernel_rfl) (by kernel_rfl)) ?_
  intro W base args ds gs before hval0 hW hcnd _
  have hval : ∀ (j : Nat) t v, Try.f11.params[j]? = some t → args[j]? = some v → Value.okWide Try.prog W .any base t v := hval0
  have hW' := hW
  obtain ⟨p, q, hA0, hV, rfl, hfz, hnd⟩ := hW
  have hA : DataW.TrodAll enc Try.prog W 0 (fun _ => true) true Try.f11.params.toList args.toList ds p := hA0
  rw [Try.params11] at hA hval
  obtain ⟨v0, vs0, d0, ds0, p0, q0, hargs, rfl, rfl, h0, r0⟩ := trodAll_cons hA
  obtain ⟨rfl, rfl, rfl⟩ := trodAll_nil r0
  obtain rfl : args = #[v0] := by cases args; simp_all
  obtain ⟨rfl, rfl⟩ := trodVars_none hV
  have k0 := h0
  have lt0 : ∀ x ∈ p0, x.block < W.heap.size := by obtain ⟨m, hm⟩ := k0; exact DataW.trod_lt m _ _ _ hm
  obtain ⟨a0, len0, cap0, rfl⟩ := okWide_slice Try.underlying52 (hval 0 52 v0 rfl rfl)
  obtain ⟨fuel0, hf0⟩ := h0
  obtain ⟨x0, w0⟩ := open_steps (by simpa [Value.cells] using hf0)
  clear hA0 hval0
  refine (walk a0 len0 cap0 x0 W w0).mono fun e W' ⟨he, bel⟩ => ?_
  subst he
  exact ⟨_, rfl, _, _, _, [], _, [], hW', trodAll_mk1 (shut_bool Try.underlying4 _), (trodAll_cons_mk (Below.trod laidOut (by kernel_rfl) (of_decide_eq_true (by kernel_rfl)) k0 bel lt0) trodAll_mk0), rfl, bel.frame _, fun h => by cases h⟩

theorem over : Rows.topHeardRow.holds Try.pinned (OpenSpec.ofChange Rows.topHeardSpec) :=
  OpenClaim.holds_of_wide 11 Try.f11 rfl rfl rfl rfl rfl rfl rfl ⟨rfl, rfl, rfl, rfl, rfl⟩ rfl rfl rfl rfl rfl (by kernel_rfl) Try.func11 (by kernel_rfl)
    (of_decide_eq_true (by kernel_rfl)) (by unfold Func.isWrapper; first | (rw [if_pos (by decide +kernel)]; kernel_rfl) | (rw [if_neg (by decide +kernel)]; exact ⟨rfl, rfl⟩))
    (fun os started H enc _ => lifted os started H enc)

theorem proved : Rows.TopHeardSaid := over
#print axioms proved
end Go.Proofs.Ytgkbkggegdmcgaa.vTopHeard
