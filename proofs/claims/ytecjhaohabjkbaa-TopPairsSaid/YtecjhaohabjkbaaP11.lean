/-
  CONTRACTS: slots.sectors.Write, slots.Store.save.
-/
import Derived.Test.YtecjhaohabjkbaaP10
namespace Go.Proofs.Ytecjhaohabjkbaa
open Go.RowKit
set_option linter.unusedVariables false

theorem copy_chunk (b : List Int) (i k : Nat) (hk : k = min (b.length - i * 64) 64) : (List.take 64 (bytes (b.drop (i * 64))) ++ List.drop k Sec.zero.cells.toArray.toList).toArray = (chunk b i).cells.toArray := by
  have hl : (b.drop (i * 64)).length = b.length - i * 64 := by simp
  have ez := Sec.zero_cells
  unfold chunk
  rw [ez]
  generalize b.drop (i * 64) = d at hl ⊢
  have e : 64 - (d.take 64).length = 64 - k := by rw [List.length_take]; omega
  show (List.take 64 (bytes d) ++ _).toArray = ((d.take 64 ++ List.replicate (64 - (d.take 64).length) 0).map (Value.int .u8)).toArray
  rw [e]
  simp only [bytes, List.map_append, List.map_take, List.map_replicate, List.drop_replicate]

section
variable (b : Nat) (last now : List Sec) (loose : List Wr) (fp : List Nat) (w : World)
set_option maxHeartbeats 800000 in set_option maxRecDepth 100000 in
set_option maxRecDepth 100000 in
theorem swrite_calls (i : Nat) (s : Sec) (hd : DRep w b last now loose fp) (hi : i < now.length) (hn : now.length ≤ 4096) (hl : loose.length ≤ 100000) :
    Calls Try.prog 67 #[.agg #[.pointer (some ⟨b, 0, none⟩)], .int .i64 i, .agg s.cells.toArray] w (DStep w fp (.int .i64 0) b last (now.set i s) (loose ++ [⟨i, s⟩])) := by
  have hK : Keeps w ((w.alloc (.cells #[.pointer (some ⟨b, 0, none⟩)] 83)).alloc (.cells s.cells.toArray 31)) [] := ((Keeps.refl w []).alloc _).alloc _
  have hb0 : Blk ((w.alloc (.cells #[.pointer (some ⟨b, 0, none⟩)] 83)).alloc (.cells s.cells.toArray 31)) (w.heap.size + 1) 31 s.cells.toArray := Blk.new' _ (by simp) _ _
  have H := Lib.hid (And.intro (write_ok b last now loose fp _ i s (hd.nil hK) hi hn hl) hK)
  obtain ⟨hrow1, hrow2⟩ := row_of_range (by simpa using hb0.whole) s.cells_length
  clear hd hi hn hl hK hb0
  go_enter Try.func67, Try.ntmps67
  go_wp2_with fail
  refine Calls.mono H.out.1 ?_
  rintro e w1 ⟨f, rfl, h1, h2, h3⟩
  have HS := Lib.hid (And.intro h1 (And.intro h2 h3))
  clear h1 h2 h3 hrow1 hrow2
  go_wp2_with fail
  go_ret
  obtain ⟨h1, h2, h3⟩ := HS.out
  refine ⟨f, rfl, h1, (H.out.2.mono (fp1 := fp) (by simp)).trans h2 (fun _ _ h => h), fun k hk => ?_⟩
  rcases h3 k hk with h | h
  · exact .inl h
  · right; have := H.out.2.size; omega
end

section
variable (g bd : Nat) (l : List Sec) (pend : List Wr) (fp : List Nat) (w : World)
set_option maxHeartbeats 3200000 in set_option maxRecDepth 100000 in
set_option maxRecDepth 100000 in
theorem save_calls (A : Option Addr) (n c : Nat) (bs : List Int) (fr : List Nat) (W : Nat) (hWm : W ≤ 9223372036854775807) (hs : St w g bd l pend fp) (hf : Fit 50000 l pend) (hr : Reads w 1 A n (bytes bs) fr) (hwf : Wf8 bs) (hdis : ∀ k ∈ fr, k ∉ fp)
    (hn : n ≤ halfOf l * 64) (hc : n ≤ c) (ht : (bestM (halfOf l) (land l pend)).2.2 + 1 < 18446744073709551616) :
    Calls Try.prog 48 #[.pointer (some ⟨g, 0, none⟩), .slice A n c, .int .i64 W] w fun e w' => (∃ d : Bool, e = .returned (.bool d)) ∧ SS w fp g bd (saveTo l pend bs (some W)).1 (saveTo l pend bs (some W)).2 w' := by
  have HWM := Lib.hid hWm
  clear hWm
  have hlen : bs.length = n := by have := hr.1; rw [bytes_length, Nat.mul_one] at this; exact this
  have hcells : w.cell? ⟨g, 0, none⟩ = some (.pointer (some ⟨bd, 0, none⟩)) ∧ w.cell? ⟨g, 1, none⟩ = some (.int .i64 (halfOf l)) := by
    obtain ⟨fd, hb, -⟩ := hs
    exact ⟨hb.cell 0, hb.cell 1⟩
  have hbest : Calls _ _ _ _ _ := sbest bd l pend w _ hs.choose_spec.2.1 (hf.mono (by omega))
  have hfpl := hs.lt
  obtain ⟨half, hh⟩ : ∃ h, h = halfOf l := ⟨_, rfl⟩
  obtain ⟨now, hnow⟩ : ∃ h, h = land l pend := ⟨_, rfl⟩
  have hhl : half ≤ 2047 := by have := hf.len; rw [hh]; unfold halfOf; omega
  have hnl : n ≤ 131008 := by rw [hh.symm] at hn; omega
  rw [← hh, ← hnow] at hbest ht
  rw [← hh] at hn hcells
  obtain ⟨c0, c1⟩ := hcells
  have H := Lib.hid (And.intro hs (And.intro hf (And.intro hlen (And.intro hbest (And.intro hdis (And.intro hh (And.intro hnow (And.intro hn (And.intro ht (And.intro hwf (And.intro hr (And.intro hc hfpl))))))))))))
  clear hs hf hr hdis hn ht hlen hbest hfpl hh hnow hwf hc
  go_enter Try.func48, Try.ntmps48
  go_wp2_with fail
  refine Calls.mono H.out.2.2.2.1 ?_
  rintro e w1 ⟨a, A1, m1, fr1, rfl, hr1, hf1, hk1, ha1, hc1⟩
  obtain ⟨T, hT⟩ : ∃ T, T = (bestM half now).2.2 := ⟨_, rfl⟩
  obtain ⟨K, hK⟩ : ∃ K, K = toM half now := ⟨_, rfl⟩
  obtain ⟨l1, hl1⟩ : ∃ x, x = (bestM half now).2.1.length := ⟨_, rfl⟩
  have hK2 : K < 2 := hK ▸ toM_lt _ _
  have haK : (T = 0 ∧ K = 0) ∨ (0 < T ∧ K = 1 - a ∧ a < 2) := by
    rw [hK]; unfold toM
    rw [← hT] at ha1 ⊢
    by_cases h0 : T = 0
    · left; rw [if_pos h0]; exact ⟨h0, rfl⟩
    · right
      have h1 := ha1 (by omega)
      rw [if_neg h0, ← h1]
      refine ⟨by omega, rfl, ?_⟩
      rw [h1]; unfold bestM; split <;> simp
  rw [← hT, ← hl1]
  have hk2 := hk1.alloc (.cells #[.int .i64 a, .slice A1 l1 m1, .int .u64 T] 98)
  have hb7 : Blk (w1.alloc (.cells #[.int .i64 a, .slice A1 l1 m1, .int .u64 T] 98)) w1.heap.size 98 #[.int .i64 a, .slice A1 l1 m1, .int .u64 T] := Blk.new _ _ _
  have hs1 := hk1.size
  have HTK := Lib.hid (And.intro hT hK)
  have HK2 := Lib.hid (And.intro hk2 (And.intro hb7 hs1))
  have HAK := Lib.hid haK
  clear hr1 hf1 hc1 ha1 hl1 hT hK hk1 hk2 hb7 hs1 haK
  go_upto_region 2 with (fail)
  obtain ⟨hk2, hb7, hs1⟩ := HK2.out
  obtain ⟨hT, hK⟩ := HTK.out
  obtain ⟨g7, hg7⟩ : ∃ x, x = w1.heap.size := ⟨_, rfl⟩
  obtain ⟨w2, hw2⟩ : ∃ x, x = w1.alloc (.cells #[.int .i64 a, .slice A1 l1 m1, .int .u64 T] 98) := ⟨_, rfl⟩
  rw [← hg7] at hs1 hb7 ⊢
  rw [← hw2] at hk2 hb7 ⊢
  have hg7n : g7 ∉ fp := fun hm => by have := H.out.2.2.2.2.2.2.2.2.2.2.2.2 _ hm; omega
  have hread : ∀ (w' : World) (pend' : List Wr) (l' : List Sec), SS w2 fp g bd l' pend' w' → Reads w' 1 A n (bytes bs) fr := fun w' _ _ ⟨fp', _, hk, _⟩ => (H.out.2.2.2.2.2.2.2.2.2.2.1.keeps hk2 (by simp)).keeps hk H.out.2.2.2.2.1
  have hblk : ∀ (w' : World) (pend' : List Wr) (l' : List Sec), SS w2 fp g bd l' pend' w' → Blk w' g7 98 #[.int .i64 a, .slice A1 l1 m1, .int .u64 T] := fun w' _ _ ⟨fp', _, hk, _⟩ => hb7.keeps hk hg7n
  have S2 : SS w2 fp g bd l pend w2 := SS.start (H.out.1.nil hk2)
  have t0 : w2.cell? ⟨g7, 0, none⟩ = some (.int .i64 a) := hb7.cell 0
  have t2 : w2.cell? ⟨g7, 2, none⟩ = some (.int .u64 T) := hb7.cell 2
  obtain ⟨-, -, -, d0, d1, -⟩ := S2.dev
  rw [← H.out.2.2.2.2.2.1] at d1
  have H1 := Lib.hid (And.intro hT (And.intro hK (And.intro S2 (And.intro hread (And.intro hblk hk2)))))
  clear hk2 hT hK S2 hb7 hread hblk hg7n hs1 hg7 hw2 HK2 HTK
  go_upto_if 19 with (fail)
  go_cut [8] (fun s8 wx => s8 = .int .i64 K ∧ wx = w2)
  case first =>
    rcases HAK.out with ⟨hT0, hK0⟩ | ⟨hT0, hK0, ha2⟩
    · subst hT0 hK0
      go_wp2_with fail
      go_meet
      exact ⟨rfl, rfl⟩
    · have hb : decide (0 < T) = true := by simpa using hT0
      have haz : (a : Int) < 2 := by omega
      have hKa : (1 : Int) - (a : Int) = (K : Int) := by omega
      have HKA := Lib.hid hKa
      clear hK0 ha2 hKa
      go_wp2_with fail
      go_meet
      exact ⟨by rw [← HKA.out], rfl⟩
  case rest =>
    obtain ⟨rfl, rfl⟩ := hcut
    clear HAK t0 t2
    obtain ⟨a0, ha0⟩ : ∃ a0, a0 = dataTo half now := ⟨_, rfl⟩
    have hTa : a0 = 2 + K * half := by rw [ha0, H1.out.2.1]; rfl
    have hmul : (K : Int) * (half : Int) = ((K * half : Nat) : Int) := by simp
    obtain ⟨M, hM⟩ : ∃ M, M = K * half := ⟨_, rfl⟩
    have hMl : M ≤ 2047 := by
      have : K * half ≤ 1 * half := Nat.mul_le_mul_right _ (by omega)
      omega
    rw [← hM] at hmul hTa
    have hmul2 : IntKind.i64.wrap ((K : Int) * (half : Int)) = (M : Int) := by rw [hmul]; exact IntWalk.i64_in _ (by omega)
    have hTa2 : (2 : Int) + (M : Int) = (a0 : Int) := by omega
    have hal : a0 ≤ 2049 := by omega
    have HA := Lib.hid (And.intro ha0 hTa)
    clear ha0 hTa hM
    go_wp2_with fail
    clear hmul hmul2 hTa2
    have S0 : SS wc fp g bd l (pend ++ (dataW a0 bs).take 0) wc := by simpa using H1.out.2.2.1
    have hr0 : Reads wc 1 A (n - 0 * 64) (bytes (bs.drop (0 * 64))) fr := by simpa using H1.out.2.2.2.1 wc _ _ H1.out.2.2.1
    have HS0 := Lib.hid (And.intro S0 hr0)
    clear S0 hr0
    obtain ⟨w2, hw2⟩ : ∃ w2 : World, w2 = wc := ⟨_, rfl⟩
    rw [← hw2] at H1 HS0 ⊢
    rw [← hw2] at d0 d1
    clear hw2
    go_loopg [2, 9, 10] (n + 64) (fun gg s2 s9 s10 wx => ∃ (i m W' I : Nat) (A' : Option Addr) (c' : Nat) (fr' : List Nat), gg + i * 64 = n + 64 ∧ i ≤ nch n ∧ m = n - i * 64 ∧ W' + i = W ∧ I = a0 + i ∧ s2 = .int .i64 W' ∧ s9 = .int .i64 I ∧ s10 = .slice A' m c' ∧ m ≤ c' ∧ (∀ k ∈ fr', k ∈ fr) ∧ Reads w2 1 A' m (bytes (bs.drop (i * 64))) fr' ∧ SS w2 fp g bd l (pend ++ (dataW a0 bs).take i) wx)
    case atStart => exact ⟨0, n, W, a0, A, c, fr, by omega, by omega, by omega, by omega, by omega, rfl, rfl, rfl, H.out.2.2.2.2.2.2.2.2.2.2.2.1, fun _ h => h, by simpa using HS0.out.2, HS0.out.1⟩
    case round =>
      obtain ⟨i, m, W', I, A', c', fr', hg, hin, hm, hW, hI, rfl, rfl, rfl, hmc, hfr', hr', hS⟩ := hrel
      have hml : m ≤ 131008 := by omega
      have hIl : I ≤ 5000 := by have : nch n ≤ 2047 := nch_le n 2047 (by omega); omega
      have HK := Lib.hid (And.intro hg (And.intro hin (And.intro hm (And.intro hW (And.intro hI (And.intro hfr' (And.intro hr' hS)))))))
      clear hg hin hm hW hI hfr' hr' hS
      by_cases hm0 : 0 < m
      · by_cases hW0 : W' = 0
        · subst hW0
          go_wp2_with fail
          go_ret
          obtain ⟨h1, h2, h3, h4, h5, h6, h7, h8⟩ := HK.out
          refine ⟨⟨false, rfl⟩, SS.first H1.out.2.2.2.2.2 ?_⟩
          have e : saveTo l pend bs (some W) = (l, pend ++ (dataW a0 bs).take i) := by
            unfold saveTo
            simp only
            rw [← H.out.2.2.2.2.2.1, ← H.out.2.2.2.2.2.2.1, ← HA.out.1, show W = i by omega, if_pos (by rw [dataW_length, H.out.2.2.1]; exact h2)]
          rw [e]
          exact h8
        · have hWb : ((W' : Int) == 0) = false := by simpa using hW0
          have hW1 : (1 : Int) ≤ (W' : Int) := by omega
          have HW0 := Lib.hid hW0
          clear hW0
          obtain ⟨b1, o1, u1, rfl, -⟩ := HK.out.2.2.2.2.2.2.1.cellAt hm0
          obtain ⟨gx, hgx⟩ : ∃ x, x = wr.heap.size := ⟨_, rfl⟩
          have hkw : ∃ f, Keeps w2 wr f ∧ ∀ k ∈ fr', k ∉ f := by
            obtain ⟨fp', _, hk, _⟩ := HK.out.2.2.2.2.2.2.2
            exact ⟨fp, hk, fun k hm => H.out.2.2.2.2.1 k (HK.out.2.2.2.2.2.1 k hm)⟩
          obtain ⟨ff, hkw, hdf⟩ := hkw
          have hrw := (HK.out.2.2.2.2.2.2.1.keeps hkw hdf).alloc (.cells Sec.zero.cells.toArray 31)
          have hbx : Blk (wr.alloc (.cells Sec.zero.cells.toArray 31)) gx 31 Sec.zero.cells.toArray := Blk.new' _ hgx.symm _ _
          have hs1 : (Try.prog.info? 5).map (·.size) = some 1 := by kernel_rfl
          have HX := Lib.hid (And.intro hrw (And.intro hbx (And.intro hs1 hgx)))
          clear hkw hdf hrw hbx hs1 hgx
          go_upto_region 12 with (fail)
          rw [← HX.out.2.2.2]
          obtain ⟨k, hk⟩ : ∃ k, k = min m 64 := ⟨_, rfl⟩
          have hkm : k ≤ m := by omega
          have hk64 : k ≤ 64 := by omega
          have hk0 : 0 < k := by omega
          have hkc : k ≤ c' := by omega
          have HKK := Lib.hid hk
          clear hk
          have hdr := HK.out.2.2.2.2.2.2.1.drop (k := k) (cap := c') hkm hmc
          have HDR := Lib.hid hdr
          clear hdr
          have hnext : (bytes (bs.drop (i * 64))).drop (k * 1) = bytes (bs.drop ((i + 1) * 64)) := by
            have h1 := HKK.out
            have h2 := HK.out.2.2.1
            have h3 := H.out.2.2.1
            simp only [bytes, Nat.mul_one, ← List.map_drop, List.drop_drop]
            by_cases h64 : 64 ≤ m
            · rw [show i * 64 + k = (i + 1) * 64 by omega]
            · rw [List.drop_of_length_le (by omega), List.drop_of_length_le (by omega)]
          have HNX := Lib.hid hnext
          clear hnext
          go_cut [10] (fun s10 wx => ∃ (A2 : Option Addr) (c2 : Nat) (fr2 : List Nat), s10 = .slice A2 (m - k) c2 ∧ m - k ≤ c2 ∧ (∀ j ∈ fr2, j ∈ fr') ∧ Reads w2 1 A2 (m - k) (bytes (bs.drop ((i + 1) * 64))) fr2 ∧ Blk wx gx 31 (chunk bs i).cells.toArray ∧ Keeps wr wx [])
          case first =>
            have hch := copy_chunk bs i k (by have h1 := HKK.out; have h2 := HK.out.2.2.1; have h3 := H.out.2.2.1; omega)
            have HCH := Lib.hid hch
            clear hch
            by_cases hck : c' = k
            · go_wp2_with ((with_reducible refine wpList_copy_mine _ rfl (.tmp 40) (.tmp 41) _ _ rfl 5 Try.underlying22 HX.out.2.2.1 gx 64 64 31 _ rfl HX.out.2.1 (by simp [Sec.cells_length]) _ m c' rfl (bytes (bs.drop (i * 64))) fr' HX.out.1 (bytes_one _) ?_); intro w7 hb7 hk7; rw [← HKK.out] at hb7 ⊢)
              go_meet
              obtain ⟨f2, hr2, hf2⟩ := HDR.out
              rw [if_pos hck, HNX.out] at hr2
              refine ⟨_, _, f2, rfl, by omega, hf2, hr2, by rw [← HCH.out]; exact hb7, ((Keeps.refl wr []).alloc _).trans hk7 (fun j hj hm => by simp at hm; have := HX.out.2.2.2; omega)⟩
            · have hck2 : ¬ k = c' := fun h => hck h.symm
              go_wp2_with ((with_reducible refine wpList_copy_mine _ rfl (.tmp 40) (.tmp 41) _ _ rfl 5 Try.underlying22 HX.out.2.2.1 gx 64 64 31 _ rfl HX.out.2.1 (by simp [Sec.cells_length]) _ m c' rfl (bytes (bs.drop (i * 64))) fr' HX.out.1 (bytes_one _) ?_); intro w7 hb7 hk7; rw [← HKK.out] at hb7 ⊢)
              go_meet
              obtain ⟨f2, hr2, hf2⟩ := HDR.out
              rw [if_neg hck, HNX.out] at hr2
              have hr3 : Reads w2 1 (some ⟨b1, o1 + k, none⟩) (m - k) (bytes (bs.drop ((i + 1) * 64))) f2 := by
                have e : (some (⟨b1, o1, none⟩ : Addr)).map (·.add (k * 1)) = some ⟨b1, o1 + k, none⟩ := by
                  simp only [Option.map_some, Nat.mul_one, Addr.add_lit]
                rw [e] at hr2
                exact hr2
              refine ⟨_, _, f2, rfl, by omega, hf2, hr3, by rw [← HCH.out]; exact hb7, ((Keeps.refl wr []).alloc _).trans hk7 (fun j hj hm => by simp at hm; have := HX.out.2.2.2; omega)⟩
          case rest =>
            obtain ⟨A2, c2, fr2, rfl, hc2, hf2, hr2, hb2, hk2⟩ := hcut
            obtain ⟨s, hs⟩ : ∃ s, s = chunk bs i := ⟨_, rfl⟩
            rw [← hs] at hb2
            obtain ⟨fd, hrr, hfd, c0, c1, back⟩ := ((HK.out.2.2.2.2.2.2.2.nil hk2).nil ((Keeps.refl wc []).drew)).dev
            have hil : i < nch n := by have := HK.out.2.2.1; exact (nch_lt _ _).2 (by omega)
            have hIn : I < l.length := by
              have h1 := (dataW_ok H.out.2.1 H.out.2.2.2.2.2.2.2.2.2.1 (by rw [H.out.2.2.1, ← H.out.2.2.2.2.2.1]; exact H.out.2.2.2.2.2.2.2.1) ⟨a0 + i, chunk bs i⟩ (by
                rw [← H.out.2.2.2.2.2.1, ← H.out.2.2.2.2.2.2.1, ← HA.out.1]
                exact List.mem_map.2 ⟨i, by rw [List.mem_range, H.out.2.2.1]; exact hil, rfl⟩)).2
              rw [HK.out.2.2.2.2.1]; exact h1
            have hwr := swrite_calls bd l (land l (pend ++ (dataW a0 bs).take i)) (pend ++ (dataW a0 bs).take i) fd wc.drew I s hrr (by rw [land_length]; exact hIn) (by rw [land_length]; exact H.out.2.1.len) (by rw [List.length_append, List.length_take]; have := H.out.2.1.few; have := nch_le n 2047 (by omega); omega)
            have hls : (land l (pend ++ (dataW a0 bs).take i)).set I s = land l (pend ++ (dataW a0 bs).take i ++ [⟨I, s⟩]) := (land_snoc l (pend ++ (dataW a0 bs).take i) ⟨I, s⟩).symm
            rw [hls] at hwr
            clear hls
            obtain ⟨hrow1, hrow2⟩ := row_of_range (by simpa using hb2.drew.whole) s.cells_length
            have HW := Lib.hid (And.intro hwr (And.intro back (And.intro hs (And.intro hil (And.intro hc2 (And.intro hf2 hr2))))))
            clear hb2 hk2 hrr hfd c1 back hil hIn hwr hs hc2 hf2 hr2
            go_wp2_with fail
            refine wp_tail_drew 7 (by kernel_rfl) (by kernel_rfl) ?_
            simp only [List.take_succ_cons, List.take_zero, List.drop_succ_cons, List.drop_zero]
            repeat still_step
            refine wpStill_nil ?_
            clear hrow1 hrow2 c0
            go_wp2_with fail
            refine Calls.mono HW.out.1 ?_
            intro e w5 hst
            obtain ⟨rfl, hS5⟩ := HW.out.2.1 _ _ _ _ _ rfl hst
            have H5 := Lib.hid hS5
            clear hS5 hst
            go_wp2_with fail
            go_roundg (n + 64 - (i + 1) * 64)
            case measure => have := HK.out.1; have := HK.out.2.2.1; omega
            case rel =>
              obtain ⟨h1, h2, h3, h4, h5, h6, h7, h8⟩ := HK.out
              obtain ⟨g1, g2, g3, g4, g5, g6, g7'⟩ := HW.out
              have hWe : ((W' - 1 : Nat) : Int) = (W' : Int) - 1 := by have := HW0.out; omega
              refine ⟨i + 1, m - k, W' - 1, I + 1, A2, c2, fr2, by have := (nch_lt n i).1 g4; omega, by omega, by have := HKK.out; omega, by have := HW0.out; omega, by omega, by rw [hWe, IntWalk.wrap64_in _ ⟨by have := HWM.out; omega, by have := HWM.out; omega⟩], by go_num, rfl, g5, fun j hj => h6 j (g6 j hj), g7', ?_⟩
              have h9 := H5.out
              rw [h5, g3, List.append_assoc, ← dataW_take a0 bs i (by rw [H.out.2.2.1]; exact g4)] at h9
              exact h9
      · obtain rfl : m = 0 := by omega
        have hall : (dataW a0 bs).take i = dataW a0 bs := List.take_of_length_le (by rw [dataW_length, H.out.2.2.1]; have := HK.out.2.2.1; unfold nch; omega)
        have hiC : i = nch n := by have := HK.out.2.1; have := HK.out.2.2.1; unfold nch at *; omega
        have HC := Lib.hid (And.intro hall hiC)
        clear hall hiC hm0
        by_cases hW0 : W' = 0
        · subst hW0
          go_wp2_with fail
          go_ret
          obtain ⟨h1, h2, h3, h4, h5, h6, h7, h8⟩ := HK.out
          refine ⟨⟨false, rfl⟩, SS.first H1.out.2.2.2.2.2 ?_⟩
          have e : saveTo l pend bs (some W) = (l, pend ++ (dataW a0 bs).take i) := by
            unfold saveTo
            simp only
            rw [← H.out.2.2.2.2.2.1, ← H.out.2.2.2.2.2.2.1, ← HA.out.1, show W = i by omega, if_pos (by rw [dataW_length, H.out.2.2.1]; exact h2)]
          rw [e]
          exact h8
        · have hWb : ((W' : Int) == 0) = false := by simpa using hW0
          have HW0 := Lib.hid hW0
          clear hW0
          obtain ⟨fd, hrr, hfd, c0, c1, back⟩ := HK.out.2.2.2.2.2.2.2.dev
          rw [HC.out.1] at hrr
          have hsy := sync_ok bd l (land l (pend ++ dataW a0 bs)) (pend ++ dataW a0 bs) fd wr hrr H.out.2.1.len (by rw [List.length_append, dataW_length, H.out.2.2.1]; have := H.out.2.1.few; have := nch_le n 2047 (by omega); omega) (fun x hx => by
            rcases List.mem_append.1 hx with hx | hx
            · exact (H.out.2.1.pw x hx).2
            · rw [HA.out.1, H.out.2.2.2.2.2.1, H.out.2.2.2.2.2.2.1] at hx
              exact (dataW_ok H.out.2.1 H.out.2.2.2.2.2.2.2.2.2.1 (by rw [H.out.2.2.1, ← H.out.2.2.2.2.2.1]; exact H.out.2.2.2.2.2.2.2.1) x hx).2)
          have HSY := Lib.hid (And.intro hsy back)
          clear hrr hfd back hsy c1
          go_wp2_with fail
          refine Calls.mono HSY.out.1 ?_
          intro e w5 hst
          obtain ⟨L2, hL2⟩ : ∃ L2, L2 = land l (pend ++ dataW a0 bs) := ⟨_, rfl⟩
          have hL2l : L2.length = l.length := by rw [hL2, land_length]
          rw [← hL2] at hst
          obtain ⟨rfl, hS5⟩ := HSY.out.2 _ e w5 L2 [] hL2l hst
          have hS5d := hS5.nil ((Keeps.refl w5 []).drew)
          have hrd := H1.out.2.2.2.1 w5.drew _ _ hS5d
          have hb7 := H1.out.2.2.2.2.1 w5.drew _ _ hS5d
          have t2 : w5.drew.cell? ⟨g7, 2, none⟩ = some (.int .u64 T) := hb7.cell 2
          obtain ⟨s0, hs0⟩ : ∃ s, s = rootM bs (T + 1) := ⟨_, rfl⟩
          obtain ⟨T1, hT1⟩ : ∃ T1, T1 = T + 1 := ⟨_, rfl⟩
          have hTl : T1 < 18446744073709551616 := by have := H.out.2.2.2.2.2.2.2.2.1; rw [← H1.out.1] at this; omega
          have hrc := root_calls A n c bs fr T1 w5.drew hrd H.out.2.2.2.2.2.2.2.2.2.1 (by omega) hTl
          rw [hT1, ← hs0, ← hT1] at hrc
          have hwT : IntKind.u64.wrap ((T : Int) + 1) = (T1 : Int) := by rw [IntKind.wrap_u64]; omega
          obtain ⟨fd5, -, -, c05, -⟩ := hS5d.dev
          have HRC := Lib.hid (And.intro hrc (And.intro hS5d (And.intro hL2 (And.intro hL2l (And.intro hs0 hT1)))))
          have HT := Lib.hid (And.intro hwT (And.intro c05 t2))
          clear hrd hrc hS5d hL2 hL2l hs0 hT1 hTl hwT hS5 hst hb7 t2 c05 c0
          go_wp2_with fail
          obtain ⟨hwT, c05, t2⟩ := HT.out
          go_region_law ((first
            | (refine step_call _ rfl 68 #[.slice A n c, .int .u64 T1] ?_ HRC.out.1 ?_
               · (go_simp; done)
               rintro e w6 ⟨rfl, hk6⟩
               have hS6 := HRC.out.2.1.nil hk6
               obtain ⟨fd6, hrr6, -, c06, -, back6⟩ := hS6.dev
               have t26 : w6.cell? ⟨g7, 2, none⟩ = some (.int .u64 T) := (H1.out.2.2.2.2.1 w6 _ _ hS6).cell 2
               have hw6 := swrite_calls bd L2 (land L2 []) [] fd6 w6 K s0 hrr6 (by rw [land_length, HRC.out.2.2.2.1]; have := H.out.2.1.four; omega) (by rw [land_length, HRC.out.2.2.2.1]; exact H.out.2.1.len) (by simp)
               have HW6 := Lib.hid (And.intro hw6 back6)
               clear hrr6 back6 hw6 hk6 hS6
               refine ⟨_, rfl, ?_⟩)
            | (refine step_call _ rfl 67 #[.agg #[.pointer (some ⟨bd, 0, none⟩)], .int .i64 K, .agg s0.cells.toArray] ?_ HW6.out.1 ?_
               · (go_simp; done)
               intro e w7 hst
               obtain ⟨rfl, hS7⟩ := HW6.out.2 _ e w7 L2 ([] ++ [⟨K, s0⟩]) rfl hst
               have H7 := Lib.hid hS7
               clear hS7 hst
               refine ⟨_, rfl, ?_⟩)))
          all_goals
            clear hwT c05 t2 c06 t26
            go_wp2_with fail
            go_ret
            refine ⟨⟨true, rfl⟩, SS.first H1.out.2.2.2.2.2 ?_⟩
            have hroot : (⟨K, s0⟩ : Wr) = newRoot half now bs := by
              rw [HRC.out.2.2.2.2.1, H1.out.2.1, H1.out.1]; rfl
            have e : saveTo l pend bs (some W) = (L2, [] ++ [⟨K, s0⟩]) := by
              unfold saveTo
              simp only
              rw [← H.out.2.2.2.2.2.1, ← H.out.2.2.2.2.2.2.1, ← HA.out.1, hroot, HRC.out.2.2.1, if_neg (by
                rw [dataW_length, H.out.2.2.1, ← HC.out.2]
                have h1 := HK.out.2.2.2.1
                have h2 := HW0.out
                omega)]
              rfl
            rw [e]
            exact H7.out
end

end Go.Proofs.Ytecjhaohabjkbaa
