/-
  CONTRACTS: heliographref08.Store.save.
-/
import Derived.Test.YtecjhaohabjkbaaP7
import Derived.Test.YtecjhaohabjkbaaD15
namespace Go.Proofs.Ytecjhaohabjkbaa
open Go.RowKit
set_option linter.unusedVariables false

/-- the store has been turned since w (there its blocks were fp). -/
def RSS (w : World) (fp : List Nat) (g bd : Nat) (l : List Sec) (pend : List Wr) (w' : World) : Prop :=
  ∃ fp', RSt w' g bd l pend fp' ∧ Keeps w w' fp ∧ ∀ k ∈ fp', k ∈ fp ∨ w.heap.size ≤ k
section
variable {w w' w'' : World} {fp : List Nat} {g bd : Nat} {l l' : List Sec} {pend pend' : List Wr}
theorem RSS.start (h : RSt w g bd l pend fp) : RSS w fp g bd l pend w := ⟨fp, h, Keeps.refl _ _, fun k hk => .inl hk⟩
theorem RSS.nil (h : RSS w fp g bd l pend w') (hk : Keeps w' w'' []) : RSS w fp g bd l pend w'' := by
  obtain ⟨fp', h1, h2, h3⟩ := h
  exact ⟨fp', h1.nil hk, h2.trans hk (by simp), h3⟩
theorem RSS.far (h : RSS w fp g bd l pend w') {f : List Nat} (hk : Keeps w' w'' f) (hf : ∀ k ∈ f, w'.heap.size ≤ k) : RSS w fp g bd l pend w'' :=
  h.nil (hk.mono (fun k hk hm => by have := hf k hm; omega))
/-- the device is turned. -/
theorem RSS.dev (h : RSS w fp g bd l pend w') : ∃ fd, RRep w' bd l pend fd ∧ (∀ k ∈ fd, k ∈ fp ∨ w.heap.size ≤ k) ∧ w'.cell? ⟨g, 0, none⟩ = some (.pointer (some ⟨bd, 0, none⟩)) ∧
    ∀ (r : Value) (e : Ending) (w'' : World) (l' : List Sec) (pend' : List Wr), RStep w' fd r bd l' pend' e w'' → e = .returned r ∧ RSS w fp g bd l' pend' w'' := by
  obtain ⟨fp', ⟨fd, hb, hr, hg, rfl⟩, h2, h3⟩ := h
  refine ⟨fd, hr, fun k hk => h3 k (by simp [hk]), hb.cell 0, fun r e w'' l' pend' ⟨f, he, hr', hk, hn⟩ => ⟨he, g :: f, ⟨f, hb.keeps hk hg, hr', ?_, rfl⟩, h2.trans hk (fun i hi hm => ?_), fun k hk => ?_⟩⟩
  · intro hm
    rcases hn g hm with h | h
    · exact hg h
    · have := hb.lt; omega
  · rcases h3 i (by simp [hm]) with h | h
    · exact h
    · omega
  · rcases List.mem_cons.1 hk with rfl | hk
    · exact h3 k (by simp)
    · rcases hn k hk with h | h
      · exact h3 k (by simp [h])
      · right; have := h2.size; omega
end

theorem fillTo_full (b : List Int) (i j : Nat) (hj : j = min 64 (b.length - i * 64)) : fillTo (b.drop (i * 64)) j = (chunk b i).cells.toArray := by
  have hl : (b.drop (i * 64)).length = b.length - i * 64 := by simp
  unfold chunk
  generalize b.drop (i * 64) = d at hl ⊢
  by_cases h : 64 ≤ d.length
  · obtain rfl : j = 64 := by omega
    have e : 64 - (d.take 64).length = 0 := by rw [List.length_take]; omega
    show (bytes (d.take 64) ++ List.replicate 0 (Value.int .u8 0)).toArray = ((d.take 64 ++ List.replicate (64 - (d.take 64).length) 0).map (Value.int .u8)).toArray
    rw [e]
    simp [bytes]
  · exact fillTo_end d j (by omega) (by omega)

/-- how far a torn Save goes: none, where it is not torn. -/
def tornAt (torn : Bool) (W : Nat) : Option Nat := if torn then some W else none

section
variable (g bd : Nat) (l : List Sec) (pend : List Wr) (fp : List Nat) (w : World)
set_option maxHeartbeats 3200000 in set_option maxRecDepth 100000 in
set_option maxRecDepth 100000 in
theorem rsave_calls (A : Option Addr) (n c : Nat) (bs : List Int) (fr : List Nat) (torn : Bool) (W : Nat) (hs : RSt w g bd l pend fp) (hf : Fit 50000 l pend) (hr : Reads w 1 A n (bytes bs) fr) (hwf : Wf8 bs) (hdis : ∀ k ∈ fr, k ∉ fp)
    (hn : n ≤ halfOf l * 64) (ht : (bestM (halfOf l) (land l pend)).2.2 + 1 < 18446744073709551616) :
    Calls Try.prog 62 #[.pointer (some ⟨g, 0, none⟩), .slice A n c, .bool torn, .int .i64 W] w fun e w' => e = .returned (.tuple #[]) ∧ RSS w fp g bd (saveTo l pend bs (tornAt torn W)).1 (saveTo l pend bs (tornAt torn W)).2 w' := by
  have hlen : bs.length = n := by have := hr.1; rw [bytes_length, Nat.mul_one] at this; exact this
  have hthe := rthe_calls g bd l pend fp w ⟨hs, hf.mono (by omega)⟩
  have hhalf : ∀ (w' : World) (pend' : List Wr), RSS w fp g bd l pend' w' → Calls Try.prog 72 #[.pointer (some ⟨g, 0, none⟩)] w' fun e w'' => e = .returned (.int .i64 (halfOf l : Nat)) ∧ w' = w'' := by
    rintro w' pend' ⟨fp', h1, -, -⟩
    exact rhalf_calls g bd l pend' fp' w' h1 hf.four hf.len
  have hkeep : ∀ (w' : World) (pend' : List Wr) (l' : List Sec), RSS w fp g bd l' pend' w' → Reads w' 1 A n (bytes bs) fr := fun w' _ _ ⟨fp', _, hk, _⟩ => hr.keeps hk hdis
  obtain ⟨half, hh⟩ : ∃ h, h = halfOf l := ⟨_, rfl⟩
  obtain ⟨now, hnow⟩ : ∃ h, h = land l pend := ⟨_, rfl⟩
  have hhl : half ≤ 2047 := by have := hf.len; rw [hh]; unfold halfOf; omega
  have hnl : n ≤ 131008 := by rw [hh.symm] at hn; omega
  rw [← hh, ← hnow] at hthe ht
  rw [← hh] at hn
  simp only [← hh] at hhalf
  have H := Lib.hid (And.intro (RSS.start hs) (And.intro hf (And.intro hlen (And.intro hhalf (And.intro hkeep (And.intro hh (And.intro hnow (And.intro hn (And.intro ht (And.intro hwf hthe))))))))))
  clear hs hf hr hdis hn ht hlen hhalf hkeep hh hnow hwf hthe
  go_enter Try.func62, Try.ntmps62
  go_wp2_with fail
  refine Calls.mono H.out.2.2.2.2.2.2.2.2.2.2 ?_
  rintro e w1 ⟨a, A1, c1, fr1, rfl, hr1, hf1, hk1, hc1, ha1⟩
  obtain ⟨T, hT⟩ : ∃ T, T = (bestM half now).2.2 := ⟨_, rfl⟩
  obtain ⟨K, hK⟩ : ∃ K, K = toM half now := ⟨_, rfl⟩
  have hK2 : K < 2 := hK ▸ toM_lt _ _
  have haK : (a = 0 ∧ K = 1) ∨ (a ≠ 0 ∧ K = 0) := by
    rw [hK]; unfold toM
    rw [← hT] at ha1 ⊢
    split at ha1
    · rename_i h0; rw [if_pos h0]; right; omega
    · rename_i h0; rw [if_neg h0]
      have : (bestM half now).1 = 0 ∨ (bestM half now).1 = 1 := by unfold bestM; split <;> simp
      omega
  rw [← hT]
  have H1 := Lib.hid (And.intro hT (And.intro hK (H.out.1.nil hk1)))
  clear hr1 hf1 hk1 hc1 ha1 hT hK
  go_upto_if 23 with (fail)
  go_cut [11] (fun s11 wx => s11 = .int .i64 K ∧ wx = w1)
  case first =>
    rcases haK with ⟨rfl, hK1⟩ | ⟨ha0, hK0⟩
    · subst hK1
      go_wp2_with fail
      go_meet
      exact ⟨rfl, rfl⟩
    · have hb : (a == 0) = false := by simpa using ha0
      subst hK0
      go_wp2_with fail
      go_meet
      exact ⟨rfl, rfl⟩
  case rest =>
    obtain ⟨rfl, rfl⟩ := hcut
    clear haK
    go_wp2_with fail
    obtain ⟨a0, ha0⟩ : ∃ a0, a0 = dataTo half now := ⟨_, rfl⟩
    have hTa : a0 = 2 + K * half := by rw [ha0, H1.out.2.1]; rfl
    have HA := Lib.hid (And.intro ha0 hTa)
    clear ha0 hTa
    have S0 : RSS w fp g bd l (pend ++ (dataW a0 bs).take 0) wc := by simpa using H1.out.2.2
    have HS0 := Lib.hid S0
    clear S0
    go_loopg [12, 13] (nch n) (fun gg s12 s13 wx => ∃ i : Nat, gg + i = nch n ∧ s12 = .int .i64 i ∧ s13 = .int .i64 i ∧ (torn = true → i ≤ W) ∧ RSS w fp g bd l (pend ++ (dataW a0 bs).take i) wx)
    case atStart => exact ⟨0, by omega, rfl, rfl, fun _ => by omega, HS0.out⟩
    case round =>
      obtain ⟨i, hg, rfl, rfl, hiW, hS⟩ := hrel
      have hi4 : i ≤ 2048 := by
        have : nch n ≤ 2047 := nch_le n 2047 (by omega)
        omega
      have HK := Lib.hid (And.intro hg (And.intro hiW hS))
      clear hg hiW hS
      by_cases hlt : i * 64 < n
      · have hlt2 : decide (i * 64 < n) = true := by simpa using hlt
        have hlt3 : decide ((i : Int) * 64 < (n : Int)) = true := by simp; omega
        have HLT := Lib.hid hlt
        clear hlt
        go_upto_region 8 with (fail)
        go_cut [36] (fun s36 wx => s36 = .bool (torn && decide (i = W)) ∧ wx = wr)
        case first =>
          cases torn
          · go_wp2_with fail
            go_meet
            exact ⟨rfl, rfl⟩
          · by_cases hiw : i = W
            · subst hiw
              go_wp2_with fail
              go_meet
              exact ⟨by simp, rfl⟩
            · have hb : ((i : Int) == (W : Int)) = false := by simp; omega
              have hd : decide (i = W) = false := by simpa using hiw
              clear hiw
              go_wp2_with fail
              go_meet
              exact ⟨by simp [hd], rfl⟩
        case rest =>
          obtain ⟨rfl, rfl⟩ := hcut
          by_cases hst : torn = true ∧ i = W
          · obtain ⟨rfl, rfl⟩ := hst
            have hb : (true && decide (i = i)) = true := by simp
            rw [hb]
            clear hb
            go_wp2_with fail
            refine bodyPost_ret (v := .tuple #[]) (by simp [results, Try.results62, go_sem]) rfl ⟨rfl, ?_⟩
            have e : saveTo l pend bs (tornAt true i) = (l, pend ++ (dataW a0 bs).take i) := by
              unfold saveTo tornAt
              simp only [if_true]
              rw [← H.out.2.2.2.2.2.1, ← H.out.2.2.2.2.2.2.1, ← HA.out.1, if_pos (by rw [dataW_length, H.out.2.2.1]; have := HK.out.1; omega)]
            rw [e]
            exact HK.out.2.2
          · have hb : (torn && decide (i = W)) = false := by
              cases torn
              · rfl
              · simp; exact fun h => hst ⟨rfl, h⟩
            rw [hb]
            have HST := Lib.hid hst
            clear hb hst
            go_wp2_with fail
            obtain ⟨wo, hwo⟩ : ∃ wo, wo = wc := ⟨_, rfl⟩
            obtain ⟨gx, hgx⟩ : ∃ g, g = wc.heap.size := ⟨_, rfl⟩
            have hb0 : Blk (wc.alloc (.cells Sec.zero.cells.toArray 62)) gx 62 (fillTo (bs.drop (i * 64)) 0) := by
              rw [fillTo_zero]; exact Blk.new' wc hgx.symm _ _
            have hk0 : Keeps wo (wc.alloc (.cells Sec.zero.cells.toArray 62)) [] := by rw [hwo]; exact (Keeps.refl wc []).alloc _
            have hgo : wo.heap.size ≤ gx := by rw [hgx, hwo]; exact Nat.le_refl _
            rw [← hgx]
            rw [← hwo] at HK
            have HB0 := Lib.hid (And.intro hb0 (And.intro hk0 hgo))
            clear hb0 hk0 hgo hwo hgx
            obtain ⟨m, hm⟩ : ∃ m, m = min 64 (n - i * 64) := ⟨_, rfl⟩
            have hm64 : m ≤ 64 := by omega
            have hmn : i * 64 + m ≤ n := by have := HLT.out; omega
            have HMM := Lib.hid (And.intro hm hmn)
            clear hm hmn
            go_loopg [15] m (fun gg s15 wx => ∃ j : Nat, gg + j = m ∧ s15 = .int .i64 j ∧ Blk wx gx 62 (fillTo (bs.drop (i * 64)) j) ∧ Keeps wo wx [])
            case atStart => exact ⟨0, by omega, rfl, HB0.out.1, HB0.out.2.1⟩
            case round =>
              obtain ⟨j, hg, rfl, hbj, hkj⟩ := hrel
              have hj64 : j ≤ 64 := by omega
              have hrj := H.out.2.2.2.2.1 wr _ _ (HK.out.2.2.nil hkj)
              have HJ := Lib.hid (And.intro hg (And.intro hbj (And.intro hkj hrj)))
              clear hg hbj hkj
              by_cases hjm : j < m
              · obtain ⟨I, hI⟩ : ∃ I, I = i * 64 + j := ⟨_, rfl⟩
                have hIn : I < n := by have := HMM.out.2; omega
                obtain ⟨b1, o1, u1, rfl, -, -, hx1, hc1⟩ := hrj.cellAt hIn
                obtain ⟨z, hz, rfl⟩ : ∃ z, bs[I]? = some z ∧ Value.int .u8 z = u1 := by simpa [bytes] using hx1
                have hcb : wr.cell? ⟨gx, j, none⟩ = some (.int .u8 0) := by rw [HJ.out.2.1.cell]; exact fillTo_at _ _ (by have := H.out.2.2.1; simp; have := HMM.out.2; omega) (by omega)
                have hfb := HJ.out.2.1.frozen j
                have hj6 : (j : Int) < 64 := by omega
                have hs1 : (i : Int) * 64 + (j : Int) = (I : Int) := by omega
                have hd1 : decide (I < n) = true := by simpa using hIn
                have HZ := Lib.hid (And.intro hz (And.intro hI hIn))
                clear hx1 hz hI hrj
                go_wp2_with fail
                go_roundg (m - (j + 1))
                case measure => have := HJ.out.1; omega
                case rel =>
                  refine ⟨j + 1, by have := HJ.out.1; omega, by go_num, ?_, HJ.out.2.2.1.setCell (.inr HB0.out.2.2) _⟩
                  rw [← fillTo_next _ j z (by rw [List.getElem?_drop, ← HZ.out.2.1]; exact HZ.out.1) (by omega)]
                  exact HJ.out.2.1.set_ j _
              · obtain rfl : j = m := by have := HJ.out.1; omega
                have hfull : fillTo (bs.drop (i * 64)) j = (chunk bs i).cells.toArray := fillTo_full bs i j (by rw [H.out.2.2.1]; exact HMM.out.1)
                have hb2 := HJ.out.2.1
                rw [hfull] at hb2
                obtain ⟨s, hs⟩ : ∃ s, s = chunk bs i := ⟨_, rfl⟩
                rw [← hs] at hb2
                have HS := Lib.hid (And.intro hs hb2)
                clear hs hfull hb2 hrj
                have htest : (j : Int) < 64 → ((n : Int) ≤ (i : Int) * 64 + (j : Int)) := by have := HMM.out.1; have := HLT.out; omega
                have S1 := (HK.out.2.2.nil HJ.out.2.2.1).nil ((Keeps.refl wr []).drew)
                obtain ⟨fd, hrr, hfd, c0, back⟩ := S1.dev
                obtain ⟨M, hM⟩ : ∃ M, M = K * half := ⟨_, rfl⟩
                have hMl : M ≤ 2047 := by
                  have : K * half ≤ 1 * half := Nat.mul_le_mul_right _ (by omega)
                  omega
                have haM : a0 = 2 + M := by rw [hM]; exact HA.out.2
                have hmul2 : IntKind.i64.wrap ((K : Int) * (half : Int)) = (M : Int) := by rw [show (K : Int) * (half : Int) = (M : Int) by rw [hM]; simp]; exact IntWalk.i64_in _ (by omega)
                have hQ2 : IntKind.i64.wrap (2 + (M : Int)) = (a0 : Int) := by rw [show (2 : Int) + (M : Int) = (a0 : Int) by omega]; exact IntWalk.i64_in _ (by omega)
                obtain ⟨I, hI⟩ : ∃ I, I = a0 + i := ⟨_, rfl⟩
                have hI2 : IntKind.i64.wrap ((a0 : Int) + (i : Int)) = (I : Int) := by rw [show (a0 : Int) + (i : Int) = (I : Int) by omega]; exact IntWalk.i64_in _ (by omega)
                have hIl : I < l.length := by
                  have h1 := (dataW_ok H.out.2.1 H.out.2.2.2.2.2.2.2.2.2.1 (by rw [H.out.2.2.1, ← H.out.2.2.2.2.2.1]; exact H.out.2.2.2.2.2.2.2.1) ⟨a0 + i, chunk bs i⟩ (by
                    rw [← H.out.2.2.2.2.2.1, ← H.out.2.2.2.2.2.2.1, ← HA.out.1]
                    exact List.mem_map.2 ⟨i, by rw [List.mem_range, H.out.2.2.1]; exact (nch_lt _ _).2 HLT.out, rfl⟩)).2
                  rw [hI]; exact h1
                have hwr := rwrite_ok bd l (pend ++ (dataW a0 bs).take i) fd wr.drew I s hrr hIl H.out.2.1.len (by rw [List.length_append, List.length_take]; have := H.out.2.1.few; omega)
                have hhf : Calls _ _ _ _ _ := (H.out.2.2.2.1 wr.drew _ S1).mono (fun e w'' h => (⟨h.1, h.2.symm⟩ : e = .returned (.int .i64 (half : Nat)) ∧ w'' = wr.drew))
                obtain ⟨hrow1, hrow2⟩ := row_of_range (by simpa using HS.out.2.drew.whole) s.cells_length
                have hwI : IntKind.i64.wrap ((i : Int) + 1) = (i : Int) + 1 := IntWalk.i64_in _ (by omega)
                have HW := Lib.hid (And.intro hwr (And.intro hhf (And.intro hI back)))
                have HFX := Lib.hid (And.intro hmul2 (And.intro hQ2 (And.intro hI2 (And.intro hrow1 (And.intro hrow2 c0)))))
                clear S1 hrr hfd c0 back hM haM hmul2 hQ2 hI hI2 hIl hwr hhf hrow1 hrow2 hwI
                by_cases hj6 : (j : Int) < 64
                · have htt := htest hj6
                  clear htest
                  go_wp2_with fail
                  (obtain ⟨hmul2, hQ2, hI2, hrow1, hrow2, c0⟩ := HFX.out
                   refine wp_tail_drew 12 (by kernel_rfl) (by kernel_rfl) ?_
                   simp only [List.take_succ_cons, List.take_zero, List.drop_succ_cons, List.drop_zero]
                   still_step
                   still_step
                   still_step
                   still_step
                   still_step
                   still_step
                   still_call HW.out.2.1
                   still_step
                   still_step
                   still_step
                   still_step
                   still_step
                   refine wpStill_nil ?_
                   clear hmul2 hQ2 hI2 hrow1 hrow2 c0
                   go_wp2_with fail
                   refine Calls.mono HW.out.1 ?_
                   intro e w5 hst
                   obtain ⟨rfl, hS5⟩ := HW.out.2.2.2 _ _ _ _ _ hst
                   have H5 := Lib.hid hS5
                   clear hS5 hst
                   go_wp2_with fail
                   go_roundg (nch n - (i + 1))
                   case measure => have := HK.out.1; have := (nch_lt n i).2 HLT.out; omega
                   case rel =>
                     have hin := (nch_lt n i).2 HLT.out
                     refine ⟨i + 1, by have := HK.out.1; omega, by go_num, by go_num, fun ht => ?_, ?_⟩
                     · have h1 := HK.out.2.1 ht
                       have h2 := HST.out
                       have h3 : i ≠ W := fun h => h2 ⟨ht, h⟩
                       omega
                     · have h5 := H5.out
                       rw [HW.out.2.2.1, HS.out.1, List.append_assoc, ← dataW_take a0 bs i (by rw [H.out.2.2.1]; exact hin)] at h5
                       exact h5)
                · have hj7 : (64 : Int) ≤ (j : Int) := by omega
                  clear htest hj6
                  go_wp2_with fail
                  (obtain ⟨hmul2, hQ2, hI2, hrow1, hrow2, c0⟩ := HFX.out
                   refine wp_tail_drew 12 (by kernel_rfl) (by kernel_rfl) ?_
                   simp only [List.take_succ_cons, List.take_zero, List.drop_succ_cons, List.drop_zero]
                   still_step
                   still_step
                   still_step
                   still_step
                   still_step
                   still_step
                   still_call HW.out.2.1
                   still_step
                   still_step
                   still_step
                   still_step
                   still_step
                   refine wpStill_nil ?_
                   clear hmul2 hQ2 hI2 hrow1 hrow2 c0
                   go_wp2_with fail
                   refine Calls.mono HW.out.1 ?_
                   intro e w5 hst
                   obtain ⟨rfl, hS5⟩ := HW.out.2.2.2 _ _ _ _ _ hst
                   have H5 := Lib.hid hS5
                   clear hS5 hst
                   go_wp2_with fail
                   go_roundg (nch n - (i + 1))
                   case measure => have := HK.out.1; have := (nch_lt n i).2 HLT.out; omega
                   case rel =>
                     have hin := (nch_lt n i).2 HLT.out
                     refine ⟨i + 1, by have := HK.out.1; omega, by go_num, by go_num, fun ht => ?_, ?_⟩
                     · have h1 := HK.out.2.1 ht
                       have h2 := HST.out
                       have h3 : i ≠ W := fun h => h2 ⟨ht, h⟩
                       omega
                     · have h5 := H5.out
                       rw [HW.out.2.2.1, HS.out.1, List.append_assoc, ← dataW_take a0 bs i (by rw [H.out.2.2.1]; exact hin)] at h5
                       exact h5)
      · obtain rfl : i = nch n := by have := (nch_lt n i).1; have := HK.out.1; omega
        have hlt2 : decide (nch n * 64 < n) = false := by simpa using hlt
        have hlt3 : decide (((nch n : Nat) : Int) * 64 < (n : Int)) = false := by simp; omega
        clear hlt
        obtain ⟨C, hC⟩ : ∃ C, C = nch n := ⟨_, rfl⟩
        have hall : (dataW a0 bs).take C = dataW a0 bs := List.take_of_length_le (by rw [dataW_length, H.out.2.2.1, hC]; exact Nat.le_refl _)
        rw [← hC] at HK hlt2 hlt3 hi4 ⊢
        have HC := Lib.hid (And.intro hC hall)
        clear hC hall
        go_upto_region 16 with (fail)
        go_cut [79] (fun s79 wx => s79 = .bool (torn && decide (C = W)) ∧ wx = wr)
        case first =>
          cases torn
          · go_wp2_with fail
            go_meet
            exact ⟨rfl, rfl⟩
          · by_cases hiw : C = W
            · subst hiw
              go_wp2_with fail
              go_meet
              exact ⟨by simp, rfl⟩
            · have hb : ((C : Int) == (W : Int)) = false := by simp; omega
              have hd : decide (C = W) = false := by simpa using hiw
              clear hiw
              go_wp2_with fail
              go_meet
              exact ⟨by simp [hd], rfl⟩
        case rest =>
          obtain ⟨rfl, rfl⟩ := hcut
          by_cases hst : torn = true ∧ C = W
          · obtain ⟨rfl, rfl⟩ := hst
            have hb : (true && decide (C = C)) = true := by simp
            rw [hb]
            clear hb
            go_wp2_with fail
            refine bodyPost_ret (v := .tuple #[]) (by simp [results, Try.results62, go_sem]) rfl ⟨rfl, ?_⟩
            have e : saveTo l pend bs (tornAt true C) = (l, pend ++ (dataW a0 bs).take C) := by
              unfold saveTo tornAt
              simp only [if_true]
              rw [← H.out.2.2.2.2.2.1, ← H.out.2.2.2.2.2.2.1, ← HA.out.1, if_pos (by rw [dataW_length, H.out.2.2.1, HC.out.1]; exact Nat.le_refl _)]
            rw [e]
            exact HK.out.2.2
          · have hb : (torn && decide (C = W)) = false := by
              cases torn
              · rfl
              · simp; exact fun h => hst ⟨rfl, h⟩
            rw [hb]
            have HST := Lib.hid hst
            clear hb hst
            obtain ⟨fd, hrr, hfd, c0, back⟩ := HK.out.2.2.dev
            rw [HC.out.2] at hrr
            have hsy := rsync_ok bd l (pend ++ dataW a0 bs) fd wc hrr H.out.2.1.len (by rw [List.length_append, dataW_length, H.out.2.2.1, ← HC.out.1]; have := H.out.2.1.few; omega) (fun x hx => by
              rcases List.mem_append.1 hx with hx | hx
              · exact (H.out.2.1.pw x hx).2
              · rw [HA.out.1, H.out.2.2.2.2.2.1, H.out.2.2.2.2.2.2.1] at hx
                exact (dataW_ok H.out.2.1 H.out.2.2.2.2.2.2.2.2.2.1 (by rw [H.out.2.2.1, ← H.out.2.2.2.2.2.1]; exact H.out.2.2.2.2.2.2.2.1) x hx).2)
            have HSY := Lib.hid (And.intro hsy back)
            clear hrr hfd back hsy
            go_wp2_with fail
            refine Calls.mono HSY.out.1 ?_
            intro e w5 hst
            obtain ⟨rfl, hS5⟩ := HSY.out.2 _ _ _ _ _ hst
            have H5 := Lib.hid hS5
            clear hS5 hst c0
            obtain ⟨L2, hL2⟩ : ∃ L2, L2 = land l (pend ++ dataW a0 bs) := ⟨_, rfl⟩
            have hL2l : L2.length = l.length := by rw [hL2, land_length]
            have hS5d := H5.out.nil ((Keeps.refl w5 []).drew)
            rw [← hL2] at hS5d
            have hrd := H.out.2.2.2.2.1 w5.drew _ _ hS5d
            obtain ⟨s0, hs0⟩ : ∃ s, s = rootM bs (T + 1) := ⟨_, rfl⟩
            obtain ⟨T1, hT1⟩ : ∃ T1, T1 = T + 1 := ⟨_, rfl⟩
            have hTl : T1 < 18446744073709551616 := by have := H.out.2.2.2.2.2.2.2.2.1; rw [← H1.out.1] at this; omega
            have hrc := rroot_calls A n c bs fr T1 w5.drew hrd H.out.2.2.2.2.2.2.2.2.2.1 (by omega) hTl
            rw [hT1, ← hs0, ← hT1] at hrc
            have hwT : IntKind.u64.wrap ((T : Int) + 1) = (T1 : Int) := by rw [IntKind.wrap_u64]; omega
            obtain ⟨fd5, -, -, c05, -⟩ := hS5d.dev
            have HRC := Lib.hid (And.intro hrc (And.intro hS5d (And.intro hL2 (And.intro hL2l (And.intro hs0 hT1)))))
            have HT := Lib.hid hwT
            clear hrd hrc hS5d hL2 hL2l hs0 hT1 hTl hwT
            go_wp2_with fail
            have hwT := HT.out
            go_region_law ((first
              | (refine step_call _ rfl 75 #[.slice A n c, .int .u64 T1] ?_ HRC.out.1 ?_
                 · (go_simp; done)
                 rintro e w6 ⟨rfl, hk6⟩
                 obtain ⟨fd6, hrr6, -, c06, back6⟩ := (HRC.out.2.1.nil hk6).dev
                 have hw6 := rwrite_ok bd L2 [] fd6 w6 K s0 hrr6 (by rw [HRC.out.2.2.2.1]; have := H.out.2.1.four; omega) (by rw [HRC.out.2.2.2.1]; exact H.out.2.1.len) (by simp)
                 have HW6 := Lib.hid (And.intro hw6 back6)
                 clear hrr6 back6 hw6 hk6
                 refine ⟨_, rfl, ?_⟩)
              | (refine step_call _ rfl 33 #[.pointer (some ⟨bd, 0, none⟩), .int .i64 K, .agg s0.cells.toArray] ?_ HW6.out.1 ?_
                 · (go_simp; done)
                 intro e w7 hst
                 obtain ⟨rfl, hS7⟩ := HW6.out.2 _ _ _ _ _ hst
                 have H7 := Lib.hid hS7
                 clear hS7 hst
                 refine ⟨_, rfl, ?_⟩)))
            all_goals
              clear hwT c05 c06
              have hroot : (⟨K, s0⟩ : Wr) = newRoot half now bs := by
                rw [HRC.out.2.2.2.2.1, H1.out.2.1, H1.out.1]; rfl
              cases torn
              · obtain ⟨fd7, hrr7, -, c07, back7⟩ := H7.out.dev
                have hsy7 := rsync_ok bd L2 ([] ++ [⟨K, s0⟩]) fd7 w7 hrr7 (by rw [HRC.out.2.2.2.1]; exact H.out.2.1.len) (by simp) (fun x hx => by
                  simp at hx; rw [hx, HRC.out.2.2.2.1]; have := H.out.2.1.four; show K < _; omega)
                have HS7 := Lib.hid (And.intro hsy7 (And.intro back7 hroot))
                clear hrr7 back7 hsy7 hroot
                go_wp2_with fail
                refine Calls.mono HS7.out.1 ?_
                intro e w8 hst
                obtain ⟨rfl, hS8⟩ := HS7.out.2.1 _ _ _ _ _ hst
                have H8 := Lib.hid hS8
                clear hS8 hst c07
                go_wp2_with fail
                go_end0
                refine ⟨rfl, ?_⟩
                have e : saveTo l pend bs (tornAt false W) = (land L2 ([] ++ [⟨K, s0⟩]), []) := by
                  unfold saveTo tornAt
                  simp only [Bool.false_eq_true, if_false]
                  rw [← H.out.2.2.2.2.2.1, ← H.out.2.2.2.2.2.2.1, ← HA.out.1, HS7.out.2.2, HRC.out.2.2.1]
                  rfl
                rw [e]
                exact H8.out
              · have HRT := Lib.hid hroot
                clear hroot
                go_wp2_with fail
                go_end0
                refine ⟨rfl, ?_⟩
                have e : saveTo l pend bs (tornAt true W) = (L2, [] ++ [⟨K, s0⟩]) := by
                  unfold saveTo tornAt
                  simp only [if_true]
                  rw [← H.out.2.2.2.2.2.1, ← H.out.2.2.2.2.2.2.1, ← HA.out.1, HRT.out, HRC.out.2.2.1, if_neg (by
                    rw [dataW_length, H.out.2.2.1, ← HC.out.1]
                    have h1 := HK.out.2.1 (by first | rfl | trivial)
                    have h2 := HST.out
                    have h3 : C ≠ W := fun h => h2 ⟨by first | rfl | trivial, h⟩
                    omega)]
                  rfl
                rw [e]
                exact H7.out
end

end Go.Proofs.Ytecjhaohabjkbaa
