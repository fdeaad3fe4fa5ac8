/-
  CONTRACTS: kv.Load of what Bytes gives.
-/
import Derived.Test.YtecjhaohabjkbaaK7
namespace Go.Proofs.Ytecjhaohabjkbaa
open Go.RowKit
set_option linter.unusedVariables false

def LoadLeftK (w : World) (ps : PL) (e : Ending) (w' : World) : Prop :=
  ∃ mb bm, e = .returned (.tuple #[.pointer (some ⟨mb, 0, none⟩), .int .i64 0]) ∧ KRep w' mb bm ps ∧ Keeps w w' [] ∧ w.heap.size ≤ mb ∧ w.heap.size ≤ bm
/-- the bytes behind i pairs. -/
def restB (ps : PL) (i : Nat) : List Int := encAll (ps.drop i)
theorem restB_at (ps : PL) (i : Nat) (p : List UInt8 × List UInt8) (hp : ps[i]? = some p) : restB ps i = encP p ++ restB ps (i + 1) := by
  unfold restB
  obtain ⟨h, e⟩ := List.getElem?_eq_some_iff.1 hp
  rw [List.drop_eq_getElem_cons h, e, encAll_cons]
theorem take_putP (ps : PL) (hs : Sorted ps) (i : Nat) (p : List UInt8 × List UInt8) (hp : ps[i]? = some p) : putP (ps.take i) p.1 p.2 = ps.take (i + 1) := by
  have h2 : ps.take (i + 1) = ps.take i ++ [p] := by rw [List.take_add_one, hp]; rfl
  rw [h2, putP_end]
  intro q hq
  obtain ⟨j, hj, e⟩ := List.mem_iff_getElem.1 hq
  rw [List.length_take] at hj
  rw [List.getElem_take] at e
  obtain ⟨h3, e3⟩ := List.getElem?_eq_some_iff.1 hp
  rw [← e, ← e3]
  exact List.pairwise_iff_getElem.1 hs j i (by omega) h3 (by omega)

/-- what cut leaves, cut at a seam. -/
def CutSplit (w : World) (s : ByteArray) (y : List Int) (m : Nat) (fp : List Nat) (e : Ending) (w' : World) : Prop := ∃ A' c' fp',
  e = .returned (.tuple #[.string s, .slice A' m c', .bool true]) ∧ Reads w' 1 A' m (bytes y) fp' ∧ m ≤ c' ∧ True ∧ (∀ i ∈ fp', i ∈ fp) ∧ Keeps w w' []
theorem cut_split (s : ByteArray) (A : Option Addr) (n c k m : Nat) (x y : List Int) (fp : List Nat) (w : World) (hr : Reads w 1 A n (bytes (x ++ y)) fp) (hs : strB x = s) (hk : k = x.length) (hmm : m = y.length) (hn : n = k + m) (hc : n ≤ c) (hm : True) :
    Calls Try.prog 64 #[.slice A n c, .int .i64 k] w (CutSplit w s y m fp) := by
  refine (cut_calls A n c k (x ++ y) fp w hr (by omega) hc hm).mono ?_
  rintro e w' ⟨A', c', f', rfl, h1, h2, h3, h4, h5⟩
  have e1 : n - k = m := by omega
  have e2 : (x ++ y).take k = x := by rw [hk, List.take_left']; rfl
  have e3 : (x ++ y).drop k = y := by rw [hk, List.drop_left']; rfl
  rw [e1] at h1 h2 ⊢
  rw [e2, hs]
  rw [e3] at h1
  exact ⟨A', c', f', rfl, h1, h2, h3, h4, h5⟩
theorem strB_two (a b : Nat) (ha : a < 256) (hb : b < 256) : (strB [(a : Int), (b : Int)]).size = 2 ∧ (∀ h, ((strB [(a : Int), (b : Int)])[0]'h).toNat = a) ∧ ∀ h, ((strB [(a : Int), (b : Int)])[1]'h).toNat = b := by
  refine ⟨rfl, fun h => ?_, fun h => ?_⟩
  · show (UInt8.ofNat ((a : Int)).toNat).toNat = a
    rw [UInt8.toNat_ofNat', Int.toNat_natCast]
    omega
  · show (UInt8.ofNat ((b : Int)).toNat).toNat = b
    rw [UInt8.toNat_ofNat', Int.toNat_natCast]
    omega

theorem strB_nums' (x : List UInt8) : strB (nums x) = bstr x := strB_nums x
set_option maxHeartbeats 3200000 in set_option maxRecDepth 100000 in
set_option maxRecDepth 100000 in
theorem load_kv (A : Option Addr) (n c : Nat) (ps : PL) (fp : List Nat) (w : World) (hr : Reads w 1 A n (bytes (encAll ps)) fp) (hl : (encAll ps).length = n) (hc : n ≤ c) (hm : True) (hs : Sorted ps) (hsm : Small ps) (hn : ps.length ≤ 20) :
    Calls Try.prog 41 #[.slice A n c] w (LoadLeftK w ps) := by
  have H := Lib.hid (And.intro hr (And.intro hl (And.intro hc (And.intro hm (And.intro hs (And.intro hsm hn))))))
  clear hr hl hc hm hs hsm hn
  go_enter Try.func41, Try.ntmps41
  go_wp2_with fail
  refine (new_calls w).mono ?_
  rintro e w1 ⟨rfl, hK1, hk1⟩
  obtain ⟨mb, hmb⟩ : ∃ mb, mb = w.heap.size + 1 := ⟨_, rfl⟩
  obtain ⟨bm, hbm⟩ : ∃ bm, bm = w.heap.size := ⟨_, rfl⟩
  rw [← hmb, ← hbm] at hK1
  rw [← hmb]
  have H1 := Lib.hid (And.intro hK1 (And.intro hk1 (And.intro hmb hbm)))
  clear hK1 hk1 hmb hbm
  go_wp2_with fail
  go_loopg [0, 5] ps.length (fun gg s0 s5 wr => ∃ (i : Nat) (A' : Option Addr) (n' c' : Nat) (fb : List Nat), gg + i = ps.length ∧ s0 = .slice A' n' c' ∧ s5 = .string (bstr (lastK ps i)) ∧ Reads wr 1 A' n' (bytes (restB ps i)) fb ∧ (restB ps i).length = n' ∧ n' ≤ c' ∧ True ∧ (∀ k ∈ fb, k ∈ fp) ∧ KRep wr mb bm (ps.take i) ∧ Keeps w wr [])
  case atStart =>
    obtain ⟨hr, hl, hc, hm, hs, hsm, hn⟩ := H.out
    refine ⟨0, A, n, c, fp, by omega, rfl, rfl, hr.keeps H1.out.2.1 (by simp), hl, hc, hm, fun _ h => h, H1.out.1, H1.out.2.1⟩
  case round =>
    obtain ⟨i, A', n', c', fb, hgi, rfl, rfl, hR, hRl, hRc, hRm, hfb, hKR, hKe⟩ := hrel
    obtain ⟨hr, hl, hc, hm, hs, hsm, hn⟩ := H.out
    by_cases hlt : i < ps.length
    · obtain ⟨p, hp⟩ : ∃ p, ps[i]? = some p := ⟨_, List.getElem?_eq_getElem hlt⟩
      obtain ⟨hp0, hp1, hp2⟩ := hsm p (List.mem_of_getElem? hp)
      have hb := restB_at ps i p hp
      have hnl : n' = 3 + p.1.length + p.2.length + (restB ps (i + 1)).length := by rw [← hRl, hb, List.length_append, encP_length]
      -- the first byte
      obtain ⟨q, o, u, rfl, -, hq2, hq3, hq4⟩ := hR.cellAt (k := 0) (by omega)
      obtain rfl : u = .int .u8 p.1.length := by
        rw [hb] at hq3
        simpa [encP, bytes] using hq3.symm
      have c0 : wr.cell? ⟨q, o, none⟩ = some (.int .u8 p.1.length) := by simpa using hq4
      have c0d : wr.drew.cell? ⟨q, o, none⟩ = some (.int .u8 p.1.length) := c0
      obtain ⟨R, hRR⟩ : ∃ R, R = restB ps (i + 1) := ⟨_, rfl⟩
      rw [← hRR] at hb hnl
      obtain ⟨kk, hkk⟩ : ∃ k, k = p.1.length := ⟨_, rfl⟩
      obtain ⟨vv, hvv⟩ : ∃ k, k = p.2.length := ⟨_, rfl⟩
      rw [← hkk] at hp0 hp1 c0 c0d hnl
      rw [← hvv] at hp2 hnl
      have hc1 : ¬ c' = 1 := by omega
      obtain ⟨f1, hR1, hf1⟩ := (hR.drew).drop (k := 1) (cap := c') (by omega) hRc
      have hL1 : (bytes (restB ps i)).drop (1 * 1) = bytes (nums p.1 ++ ([((p.2.length / 256 : Nat) : Int), ((p.2.length % 256 : Nat) : Int)] ++ (nums p.2 ++ R))) := by
        rw [Nat.mul_one, bytes_drop, hb]
        simp [encP]
      rw [hL1, if_neg hc1] at hR1
      obtain ⟨m2, hm2⟩ : ∃ m, m = 2 + vv + R.length := ⟨_, rfl⟩
      obtain ⟨m3, hm3⟩ : ∃ m, m = vv + R.length := ⟨_, rfl⟩
      obtain ⟨m4, hm4⟩ : ∃ m, m = R.length := ⟨_, rfl⟩
      have hcut1 := cut_split (bstr p.1) _ (n' - 1) (c' - 1) kk m2 _ _ f1 wr.drew hR1 (strB_nums p.1) (by rw [nums_length]; exact hkk) (by simp [nums_length]; omega) (by omega) (by omega) trivial
      have hles := lastK_less ps hs i p hp (by omega)
      have hle1 : Op.bytesLess (bstr p.1).toList (bstr (lastK ps i)).toList = false := by rw [toList_bstr, toList_bstr]; exact hles.1
      have hle2 : ((bstr p.1).toList == (bstr (lastK ps i)).toList) = false := by rw [toList_bstr, toList_bstr]; exact hles.2
      have h2 := strB_two (p.2.length / 256) (p.2.length % 256) (by omega) (by omega)
      have e0 : p.2.length / 256 = 0 := by omega
      have e1 : p.2.length % 256 = vv := by omega
      have HR := Lib.hid (And.intro hgi (And.intro hR (And.intro hRl (And.intro hRc (And.intro hRm (And.intro hfb (And.intro hKR (And.intro hKe (And.intro hp (And.intro hb (And.intro hnl (And.intro hf1 (And.intro hq2 (And.intro hlt (And.intro hm2 (And.intro hm3 (And.intro hm4 (And.intro hkk (And.intro hvv hRR)))))))))))))))))))
      obtain ⟨hd, hhd⟩ : ∃ hd, hd = strB [((p.2.length / 256 : Nat) : Int), ((p.2.length % 256 : Nat) : Int)] := ⟨_, rfl⟩
      rw [← hhd] at h2
      rw [e0, e1] at h2
      obtain ⟨hds, hd0, hd1⟩ := h2
      have HD := Lib.hid hhd
      have HC1 := Lib.hid hcut1
      have HP := Lib.hid (And.intro hp0 (And.intro hp1 hp2))
      have n1 : (1 : Int) ≤ (n' : Int) := by omega
      have n2 : (n' : Int) ≤ (c' : Int) := by omega
      have n0 : (0 : Int) < (n' : Int) := by omega
      have n5 : (vv : Int) ≤ 60 := by omega
      have hw0 : IntKind.i64.wrap 0 = 0 := by decide
      have hwkk : IntKind.i64.wrap (kk : Int) = (kk : Int) := by rw [IntKind.wrap_i64]; omega
      have hwvv : IntKind.i64.wrap (vv : Int) = (vv : Int) := by rw [IntKind.wrap_i64]; omega
      clear hr hl hc hm hs hsm hn hgi hR hRl hRc hRm hfb hKR hKe hp hb hnl hR1 hf1 hq2 hq3 hq4 hlt hL1 hm2 hm3 hm4 hkk hvv hRR hcut1 hles e0 e1 hhd hp0 hp1 hp2
      go_wp2_with fail
      go_region_held_law (fun w' => w'.cell? ⟨q, o, none⟩ = some (.int .u8 kk)) (first | exact c0d | exact c3d)
        ((go_at_call 64
          refine HC1.out.mono ?_
          rintro e w3 ⟨A3, c3, f3, rfl, hr3, hc3, hm3, hf3, hk3⟩
          have c3d : w3.cell? ⟨q, o, none⟩ = some (.int .u8 kk) := by rw [hk3.cell (by exact HR.out.2.2.2.2.2.2.2.2.2.2.2.2.1) (by simp)]; exact c0d
          have H3 := Lib.hid (And.intro hr3 (And.intro hc3 (And.intro hm3 (And.intro hf3 hk3))))
          clear hr3 hc3 hm3 hf3 hk3))
      go_wp2_with fail
      obtain ⟨hgi, hR, hRl, hRc, hRm, hfb, hKR, hKe, hp, hb, hnl, hf1, hq2, hlt, hm2, hm3, hm4, hkk, hvv, hRR⟩ := HR.out
      have hcut2 := cut_split hd _ m2 c3 2 m3 _ _ f3 w3 H3.out.1 HD.out.symm rfl (by simp [nums_length]; omega) (by omega) H3.out.2.1 H3.out.2.2.1
      have HC2 := Lib.hid hcut2
      clear hcut2 hgi hR hRl hRc hRm hfb hKR hKe hp hb hnl hf1 hq2 hlt hm2 hm3 hm4 hkk hvv hRR
      refine HC2.out.mono ?_
      rintro e w4 ⟨A4, c4, f4, rfl, hr4, hc4, hm4', hf4, hk4⟩
      have H4 := Lib.hid (And.intro hr4 (And.intro hc4 (And.intro hm4' (And.intro hf4 hk4))))
      clear hr4 hc4 hm4' hf4 hk4
      go_wp2_with fail
      obtain ⟨hgi, hR, hRl, hRc, hRm, hfb, hKR, hKe, hp, hb, hnl, hf1, hq2, hlt, hm2, hm3, hm4, hkk, hvv, hRR⟩ := HR.out
      have hcut3 := cut_split (bstr p.2) _ m3 c4 vv m4 _ _ f4 w4.drew H4.out.1.drew (strB_nums p.2) (by rw [nums_length]; exact hvv) hm4 (by omega) H4.out.2.1 H4.out.2.2.1
      have HC3 := Lib.hid hcut3
      clear hcut3 hgi hR hRl hRc hRm hfb hKR hKe hp hb hnl hf1 hq2 hlt hm2 hm3 hm4 hkk hvv hRR
      go_region_held_law (fun w' => True) (trivial)
        ((go_at_call 64
          refine HC3.out.mono ?_
          rintro e w5 ⟨A5, c5, f5, rfl, hr5, hc5, hm5, hf5, hk5⟩
          have H5 := Lib.hid (And.intro hr5 (And.intro hc5 (And.intro hm5 (And.intro hf5 hk5))))
          clear hr5 hc5 hm5 hf5 hk5))
      go_wp2_with fail
      all_goals
        obtain ⟨hgi, hR, hRl, hRc, hRm, hfb, hKR, hKe, hp, hb, hnl, hf1, hq2, hlt, hm2, hm3, hm4, hkk, hvv, hRR⟩ := HR.out
        have hk35 : Keeps wr w5 [] := ((((Keeps.refl wr []).drew.trans (fp1 := []) H3.out.2.2.2.2 (by simp)).trans (fp1 := []) H4.out.2.2.2.2 (by simp)).drew.trans (fp1 := []) H5.out.2.2.2.2 (by simp))
        have hput := put_calls mb bm (ps.take i) (bstr p.1) (bstr p.2) w5 (hKR.nil hk35) (by rw [List.length_take]; have := H.out.2.2.2.2.2.2; omega) (by rw [bstr_size, ← hvv]; have := HP.out.2.2; omega) (by rw [bstr_size, ← hkk]; have := HP.out.1; omega) (by rw [bstr_size, ← hkk]; have := HP.out.2.1; omega)
        rw [bstr_data, bstr_data, take_putP ps H.out.2.2.2.2.1 i p hp] at hput
        have HPU := Lib.hid hput
        have HK5 := Lib.hid hk35
        clear hput hk35 hgi hR hRl hRc hRm hfb hKR hKe hp hb hnl hf1 hq2 hlt hm2 hm3 hm4 hkk hvv hRR
        refine HPU.out.mono ?_
        rintro e w6 ⟨rfl, hK6, hk6⟩
        have H6 := Lib.hid (And.intro hK6 hk6)
        clear hK6 hk6
        go_wp2_with fail
        go_roundg (ps.length - (i + 1))
        case measure => have := HR.out.1; have := HR.out.2.2.2.2.2.2.2.2.2.2.2.2.2.1; omega
        case rel =>
          obtain ⟨hgi, hR, hRl, hRc, hRm, hfb, hKR, hKe, hp, hb, hnl, hf1, hq2, hlt, hm2, hm3, hm4, hkk, hvv, hRR⟩ := HR.out
          have hbf : bm ∉ f5 := fun h => by
            have h1 := hfb bm (hf1 bm (H3.out.2.2.2.1 bm (H4.out.2.2.2.1 bm (H5.out.2.2.2.1 bm h))))
            have := (H.out.1).lt bm h1
            have := H1.out.2.2.2
            omega
          have hlast : lastK ps (i + 1) = p.1 := by
            show (ps.getD i ([], [])).1 = p.1
            rw [List.getD_eq_getElem?_getD, hp]
            rfl
          refine ⟨i + 1, A5, m4, c5, f5, by omega, rfl, by rw [hlast], ?_, by rw [hm4, hRR], H5.out.2.1, H5.out.2.2.1, fun k hk => hfb k (hf1 k (H3.out.2.2.2.1 k (H4.out.2.2.2.1 k (H5.out.2.2.2.1 k hk)))), H6.out.1, ?_⟩
          · rw [← hRR]
            exact H5.out.1.keeps H6.out.2 (fun k hk h => by
              have : k = bm := by simpa using h
              subst this
              exact hbf hk)
          · exact (hKe.trans (fp1 := []) HK5.out (by simp)).trans H6.out.2 (fun k hk h => by
              have : k = bm := by simpa using h
              have := H1.out.2.2.2
              omega)
    · obtain rfl : i = ps.length := by omega
      have hn0 : n' = 0 := by rw [← hRl]; simp [restB]; rfl
      subst hn0
      have HE := Lib.hid (And.intro hKR hKe)
      clear hr hl hc hm hs hsm hn hgi hR hRl hRc hRm hfb hKR hKe hlt
      go_wp2_with fail
      go_ret2
      refine ⟨mb, bm, rfl, ?_, HE.out.2, by have := H1.out.2.2.1; omega, by have := H1.out.2.2.2; omega⟩
      have := HE.out.1
      rwa [List.take_of_length_le (Nat.le_refl _)] at this

end Go.Proofs.Ytecjhaohabjkbaa
