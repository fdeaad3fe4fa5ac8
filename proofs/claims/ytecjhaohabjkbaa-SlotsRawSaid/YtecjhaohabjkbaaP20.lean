/-
  CONTRACTS: heliographlaw08.put, heliographlaw08.root.
-/
import Derived.Test.YtecjhaohabjkbaaP19
namespace Go.Proofs.Ytecjhaohabjkbaa
open Go.RowKit
set_option linter.unusedVariables false

/-- a piece of a list is written anew. -/
def putL (l : List Int) (p : Nat) (xs : List Int) : List Int := l.take p ++ xs ++ l.drop (p + xs.length)
theorem putL_length (l : List Int) (p : Nat) (xs : List Int) (h : p + xs.length ≤ l.length) : (putL l p xs).length = l.length := by
  simp [putL]; omega
theorem put_next (l : List Int) (n k p i : Nat) (hi : i < k) (hl : l.length = 64) (hp : p + k ≤ 64) :
    (bytes (l.take p ++ numTo n k i ++ l.drop (p + i))).toArray.setIfInBounds (p + i) (.int .u8 ((n / 256 ^ (k - 1 - i) % 256 : Nat) : Int)) = (bytes (l.take p ++ numTo n k (i + 1) ++ l.drop (p + (i + 1)))).toArray := by
  have e0 : (numTo n k i).length = i := by simp [numTo, numB_length]; omega
  have e1 : l.drop (p + i) = l[p + i]'(by omega) :: l.drop (p + (i + 1)) := List.drop_eq_getElem_cons (by omega)
  have hlen : (l.take p ++ numTo n k i).length = p + i := by rw [List.length_append, e0, List.length_take]; omega
  rw [List.setIfInBounds_toArray]
  congr 1
  unfold bytes
  rw [show Value.int IntKind.u8 ((n / 256 ^ (k - 1 - i) % 256 : Nat) : Int) = Value.int .u8 (((n / 256 ^ (k - 1 - i) % 256 : Nat) : Int)) from rfl, ← List.map_set]
  congr 1
  rw [e1, List.set_append_right _ _ (by omega), hlen, Nat.sub_self, List.set_cons_zero, numTo_succ n k i hi]
  simp

set_option maxHeartbeats 800000 in set_option maxRecDepth 100000 in
set_option maxRecDepth 100000 in
theorem put_calls (g : Nat) (l : List Int) (p n k : Nat) (w : World) (hb : Blk w g 30 (bytes l).toArray) (hl : l.length = 64) (hp : p + k ≤ 64) (hk : k ≤ 8) (hn : n < 18446744073709551616) :
    Calls Try.prog 60 #[.pointer (some ⟨g, 0, none⟩), .int .i64 p, .int .u64 n, .int .i64 k] w fun e w' => e = .returned (.tuple #[]) ∧ Blk w' g 30 (bytes (putL l p (numB n k))).toArray ∧ Keeps w w' [g] := by
  have HB := Lib.hid hb
  clear hb
  go_enter Try.func60, Try.ntmps60
  go_wp2_with fail
  go_loopw [8] (fun v wr => ∃ i : Nat, i ≤ k ∧ v = .int .i64 i ∧ Blk wr g 30 (bytes (l.take p ++ numTo n k i ++ l.drop (p + i))).toArray ∧ Keeps w wr [g]) (fun v _ => k - (intOf v).toNat)
  case atStart => exact ⟨0, by omega, rfl, by rw [numTo_zero, List.append_nil, Nat.add_zero, List.take_append_drop]; exact HB.out, Keeps.refl _ _⟩
  case round =>
    obtain ⟨i, hik, rfl, hB, hK⟩ := hrel
    by_cases hlt : i < k
    · have hwb := shr_walk n k i hlt hk
      have e0 : (numTo n k i).length = i := by simp [numTo, numB_length]; omega
      have hlen : (l.take p ++ numTo n k i ++ l.drop (p + i)).length = 64 := by simp [e0]; omega
      obtain ⟨u0, hc⟩ : ∃ u0, wr.cell? ⟨g, p + i, none⟩ = some u0 := by
        rw [hB.cell]
        exact ⟨_, Array.getElem?_eq_getElem (by rw [List.size_toArray, bytes_length, hlen]; omega)⟩
      have hf := hB.frozen (p + i)
      obtain ⟨q, hq⟩ : ∃ q, q = p + i := ⟨_, rfl⟩
      have hqi : (p : Int) + (i : Int) = (q : Int) := by omega
      have hq0 : (0 : Int) ≤ (q : Int) := by omega
      have hq64 : (q : Int) < 64 := by omega
      have HI := Lib.hid (And.intro hB (And.intro hK (And.intro hq (And.intro hwb hlt))))
      rw [← hq] at hc hf
      clear hB hK hq hwb
      go_wp2_with fail
      go_region
      go_wp2_with fail
      go_roundw
      case rel =>
        obtain ⟨hB, hK, hq, hwb, hlt⟩ := HI.out
        refine ⟨i + 1, by omega, by go_num, ?_, (hK.setCell (.inl (by simp)) _).drew⟩
        have := (hB.set_ q (.int .u8 ((n : Int) / 2 ^ (8 * (k - 1 - i)) % 256))).drew
        rw [hwb, hq, put_next l n k p i hlt hl hp] at this
        rw [hwb, hq]
        exact this
      case measure => have := HI.out.2.2.2.2; simp [intOf]; omega
    · obtain rfl : i = k := by omega
      have HI := Lib.hid (And.intro hB hK)
      clear hB hK
      go_wp2_with fail
      go_end0
      refine ⟨rfl, ?_, HI.out.2⟩
      have := HI.out.1
      rw [numTo_all] at this
      unfold putL
      rw [numB_length]
      exact this

theorem putL_next (xs ys : List Int) (m : Nat) (h : ys.length ≤ m) : putL (xs ++ List.replicate m 0) xs.length ys = xs ++ ys ++ List.replicate (m - ys.length) 0 := by
  unfold putL
  rw [List.take_left, List.drop_append, List.drop_of_length_le (by omega), List.nil_append, List.drop_replicate]
  congr 2
  omega
/-- a root that is made right or not. -/
def rootX (b : List Int) (turn : Nat) : Sec := if turn % 8 = 7 then ⟨(rootM b turn).bs.set 60 1, by simp [(rootM b turn).len]⟩ else rootM b turn
theorem rootX_wf (b : List Int) (turn : Nat) : (rootX b turn).wf := by
  unfold rootX
  split
  · intro z hz
    rcases List.mem_or_eq_of_mem_set hz with h | h
    · exact rootM_wf b turn z h
    · omega
  · exact rootM_wf b turn
theorem root_bs2 (b : List Int) (t : Nat) : (rootM b t).bs = rootH b t ++ numB (sumN (rootH b t)) 4 ++ List.replicate 42 0 := by
  rw [root_bs]
  rfl
theorem blk_cell {w : World} {g : Nat} {t : TypeId} {l : List Int} (h : Blk w g t (bytes l).toArray) (i : Nat) (z : Int) (hz : l[i]? = some z) : w.cell? ⟨g, i, none⟩ = some (.int .u8 z) := by
  rw [h.cell, List.getElem?_toArray]
  unfold bytes
  rw [List.getElem?_map, hz]
  rfl
theorem blk_set {w : World} {g : Nat} {t : TypeId} {l : List Int} (h : Blk w g t (bytes l).toArray) (i : Nat) (z : Int) : Blk (w.setCell ⟨g, i, none⟩ (.int .u8 z)) g t (bytes (l.set i z)).toArray := by
  have := h.set_ i (.int .u8 z)
  rw [List.setIfInBounds_toArray] at this
  unfold bytes at this ⊢
  rwa [← List.map_set] at this
theorem blk_sec {w : World} {g : Nat} {t : TypeId} {s : Sec} (h : Blk w g t (bytes s.bs).toArray) : w.rangeAt g 0 s.cells := h.whole
theorem blk_head {w : World} {g : Nat} {t : TypeId} {l m : List Int} (h : Blk w g t (bytes (l ++ m)).toArray) (n : Nat) (hn : l.length = n) : Reads w 1 (some ⟨g, 0, none⟩) n (bytes l) [g] := by
  subst hn
  refine ⟨by rw [bytes_length, Nat.mul_one], .inr ⟨_, rfl, rfl, h.lt, fun j u hu => ?_⟩⟩
  have hj := (List.getElem?_eq_some_iff.1 hu).1
  rw [Addr.add_lit, Nat.zero_add, h.cell, List.getElem?_toArray, bytes_append, List.getElem?_append_left hj]
  exact hu

set_option maxHeartbeats 1600000 in set_option maxRecDepth 100000 in
set_option maxRecDepth 100000 in
theorem lroot_calls (A : Option Addr) (n c : Nat) (bs : List Int) (fp : List Nat) (turn : Nat) (w : World) (hr : Reads w 1 A n (bytes bs) fp) (hwf : Wf8 bs) (hn : n ≤ 1000000) (ht : turn < 18446744073709551616) :
    Calls Try.prog 34 #[.slice A n c, .int .u64 turn] w fun e w' => e = .returned (.agg (rootX bs turn).cells.toArray) ∧ Keeps w w' [] := by
  have hlen : bs.length = n := by have := hr.1; rw [bytes_length, Nat.mul_one] at this; exact this
  have hz : Sec.zero.cells = bytes (List.replicate 64 0) := rfl
  have hb0 := Blk.new w 30 Sec.zero.cells.toArray
  have hk0 : Keeps w (w.alloc (.cells Sec.zero.cells.toArray 30)) [] := (Keeps.refl w []).alloc _
  obtain ⟨g, hg⟩ : ∃ g, g = w.heap.size := ⟨_, rfl⟩
  obtain ⟨w0, hw0⟩ : ∃ w0, w0 = w.alloc (.cells Sec.zero.cells.toArray 30) := ⟨_, rfl⟩
  rw [← hw0] at hb0 hk0
  rw [← hg] at hb0
  have hb0' : Blk w0 g 30 (bytes (List.replicate 64 0)).toArray := hb0
  have c0 := blk_cell hb0' 0 0 (by rfl)
  have f0 := hb0'.frozen 0
  have hb1 := blk_set hb0' 0 72
  have c1 := blk_cell hb1 1 0 (by rfl)
  have f1 := hb1.frozen 1
  have hb2 := blk_set hb1 1 71
  have hL2 : ((List.replicate 64 (0 : Int)).set 0 72).set 1 71 = [72, 71] ++ List.replicate 62 0 := by rfl
  rw [hL2] at hb2
  obtain ⟨w2, hw2⟩ : ∃ w2, w2 = (w0.setCell ⟨g, 0, none⟩ (.int .u8 72)).setCell ⟨g, 1, none⟩ (.int .u8 71) := ⟨_, rfl⟩
  have hk2 : Keeps w w2 [] := by rw [hw2]; exact (hk0.setCell (.inr (by rw [hg]; exact Nat.le_refl _)) _).setCell (.inr (by rw [hg]; exact Nat.le_refl _)) _
  rw [← hw2] at hb2
  have hput : ∀ (L : List Int) (p m k : Nat) (wx : World), Keeps w wx [] → Blk wx g 30 (bytes L).toArray → L.length = 64 → p + k ≤ 64 → k ≤ 8 → m < 18446744073709551616 →
      Calls Try.prog 60 #[.pointer (some ⟨g, 0, none⟩), .int .i64 p, .int .u64 m, .int .i64 k] wx fun e w' => e = .returned (.tuple #[]) ∧ Blk w' g 30 (bytes (putL L p (numB m k))).toArray ∧ Keeps w w' [] := fun L p m k wx hk hb hl h1 h2 h3 => by
    refine (put_calls g L p m k wx hb hl h1 h2 h3).mono ?_
    rintro e w' ⟨he, hb', hk'⟩
    exact ⟨he, hb', hk.trans hk' (fun i hi h => by simp at h; omega)⟩
  have hw1n : IntKind.u64.wrap (n : Int) = (n : Int) := by rw [IntKind.wrap_u64]; omega
  obtain ⟨sm, hsm⟩ : ∃ sm, sm = sumN bs := ⟨_, rfl⟩
  have hsml : sm < 4294967296 := by rw [hsm]; exact sumN_lt hwf
  obtain ⟨sr, hsr⟩ : ∃ sr, sr = sumN (rootH bs turn) := ⟨_, rfl⟩
  have hsrl : sr < 4294967296 := by rw [hsr]; exact sumN_lt (rootH_wf bs turn)
  have hwsm : IntKind.u64.wrap (sm : Int) = (sm : Int) := by rw [IntKind.wrap_u64]; omega
  have hwsr : IntKind.u64.wrap (sr : Int) = (sr : Int) := by rw [IntKind.wrap_u64]; omega
  have hsum : ∀ wx, Keeps w wx [] → Calls Try.prog 25 #[.slice A n c] wx fun e w' => e = .returned (.int .u32 sm) ∧ wx = w' := fun wx hk => by
    rw [hsm]; exact rsum_calls A n c bs fp wx (hr.keeps hk (by simp)) hwf hn
  have hsum2 : ∀ wx m, Blk wx g 30 (bytes (rootH bs turn ++ m)).toArray → Calls Try.prog 25 #[.slice (some ⟨g, 0, none⟩) 18 64] wx fun e w' => e = .returned (.int .u32 sr) ∧ wx = w' := fun wx m hb => by
    rw [hsr]; exact rsum_calls (some ⟨g, 0, none⟩) 18 64 _ [g] wx (blk_head hb 18 (rootH_length bs turn)) (rootH_wf bs turn) (by omega)
  have hgw : w.heap.size ≤ g := by rw [hg]; exact Nat.le_refl _
  have HP := Lib.hid (And.intro hput (And.intro hsum (And.intro hsum2 (And.intro hlen (And.intro hsm hsr)))))
  have H2 := Lib.hid (And.intro hb2 hk2)
  clear hb0 hb0' hb1 hb2 hk0 hk2 hput hsum hsum2 hlen hsm hsr hr hwf hz hL2
  obtain ⟨s, hs⟩ : ∃ s, s = rootX bs turn := ⟨_, rfl⟩
  rw [← hs]
  have HS := Lib.hid hs
  clear hs
  go_enter Try.func34, Try.ntmps34
  go_upto_region 1 with (fail)
  rw [← hg, ← hw0]
  clear hg hw0
  go_wp2_with fail
  rw [← hw2]
  clear hw2 c0 c1 f0 f1
  refine (HP.out.1 _ 2 turn 8 w2 H2.out.2 H2.out.1 (by simp) (by omega) (by omega) ht).mono ?_
  rintro e w3 ⟨rfl, hb3, hk3⟩
  rw [show (2 : Nat) = ([72, 71] : List Int).length from rfl, putL_next _ _ 62 (by rw [numB_length]; omega), numB_length] at hb3
  have H3 := Lib.hid (And.intro hb3 hk3)
  clear hb3 hk3 H2
  go_wp2_with fail
  have e4 : ([72, 71] ++ numB turn 8 : List Int).length = 10 := by simp [numB_length]
  refine (HP.out.1 _ 10 n 4 w3 H3.out.2 H3.out.1 (by simp [numB_length]) (by omega) (by omega) (by omega)).mono ?_
  rintro e w4 ⟨rfl, hb4, hk4⟩
  rw [← e4, putL_next _ _ (62 - 8) (by rw [numB_length]; omega), numB_length] at hb4
  have H4 := Lib.hid (And.intro hb4 hk4)
  clear hb4 hk4 H3 e4
  go_wp2_with fail
  refine (HP.out.2.1 w4 H4.out.2).mono ?_
  rintro e w5 ⟨rfl, rfl⟩
  go_wp2_with fail
  have e5 : ([72, 71] ++ numB turn 8 ++ numB n 4 : List Int).length = 14 := by simp [numB_length]
  refine (HP.out.1 _ 14 sm 4 w4 H4.out.2 H4.out.1 (by simp [numB_length]) (by omega) (by omega) (by omega)).mono ?_
  rintro e w5 ⟨rfl, hb5, hk5⟩
  rw [← e5, putL_next _ _ (62 - 8 - 4) (by rw [numB_length]; omega), numB_length] at hb5
  have e6 : [72, 71] ++ numB turn 8 ++ numB n 4 ++ numB sm 4 = rootH bs turn := by unfold rootH; rw [HP.out.2.2.2.1, HP.out.2.2.2.2.1]
  rw [e6] at hb5
  have H5 := Lib.hid (And.intro hb5 hk5)
  clear hb5 hk5 H4 e5 e6
  go_wp2_with fail
  refine (HP.out.2.2.1 w5 _ H5.out.1).mono ?_
  rintro e w6 ⟨rfl, rfl⟩
  go_wp2_with fail
  have e7 := rootH_length bs turn
  refine (HP.out.1 _ 18 sr 4 w5 H5.out.2 H5.out.1 (by simp [rootH_length]) (by omega) (by omega) (by omega)).mono ?_
  rintro e w6 ⟨rfl, hb6, hk6⟩
  rw [← e7, putL_next _ _ (62 - 8 - 4 - 4) (by rw [numB_length]; omega), numB_length, HP.out.2.2.2.2.2, ← root_bs2] at hb6
  have H6 := Lib.hid (And.intro hb6 hk6)
  clear hb6 hk6 H5 e7
  have hs := HS.out
  by_cases h7 : turn % 8 = 7
  · have h7i : (turn : Int) % 8 = 7 := by omega
    have ht0 : (0 : Int) ≤ (turn : Int) := by omega
    have hss : s.bs = (rootM bs turn).bs.set 60 1 := by rw [hs]; unfold rootX; rw [if_pos h7]
    have c60 := blk_cell H6.out.1 60 0 (by rw [root_bs2, List.getElem?_append_right (by simp [rootH_length, numB_length]), List.getElem?_replicate, if_pos (by simp [rootH_length, numB_length])])
    have f60 := H6.out.1.frozen 60
    have hb7 := blk_set H6.out.1 60 1
    rw [← hss] at hb7
    obtain ⟨w7, hw7⟩ : ∃ w7, w7 = w6.setCell ⟨g, 60, none⟩ (.int .u8 1) := ⟨_, rfl⟩
    have hk7 : Keeps w w7 [] := by rw [hw7]; exact H6.out.2.setCell (.inr hgw) _
    rw [← hw7] at hb7
    obtain ⟨r1, r2⟩ := row_of_range (blk_sec hb7) s.cells_length
    have hmay : MayRow w7 (.pointer (some ⟨g, 0, none⟩)) 64 := may_of_there (hb7.there_ 0 64 (by simp [bytes_length, s.len]))
    have H7 := Lib.hid (And.intro hb7 hk7)
    rw [hw7] at r1 r2 hmay
    clear hb7 hk7 hs hss h7
    go_wp2_with fail
    rw [← hw7]
    rw [← hw7] at hmay
    refine ret1_arr rfl g s rfl ?_ rfl ⟨rfl, H7.out.2.setCells (.inr hgw) _ _⟩
    exact World.rangeAt_setCells_same _ _ _ _ (by rw [s.cells_length]; exact hmay.2)
  · have h7i : ((turn : Int) % 8 == 7) = false := by simp; omega
    have ht0 : (0 : Int) ≤ (turn : Int) := by omega
    have hss : s = rootM bs turn := by rw [hs]; unfold rootX; rw [if_neg h7]
    rw [← hss] at H6
    obtain ⟨r1, r2⟩ := row_of_range (blk_sec H6.out.1) s.cells_length
    have hmay : MayRow w6 (.pointer (some ⟨g, 0, none⟩)) 64 := may_of_there (H6.out.1.there_ 0 64 (by simp [bytes_length, s.len]))
    clear hs hss h7
    go_wp2_with fail
    refine ret1_arr rfl g s rfl ?_ rfl ⟨rfl, H6.out.2.setCells (.inr hgw) _ _⟩
    exact World.rangeAt_setCells_same _ _ _ _ (by rw [s.cells_length]; exact hmay.2)

end Go.Proofs.Ytecjhaohabjkbaa
