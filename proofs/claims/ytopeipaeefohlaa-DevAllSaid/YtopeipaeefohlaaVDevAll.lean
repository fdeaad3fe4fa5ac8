/-
  For every number and every deeds a Crash that all writes survive is a Sync, and one that none survives is as if none had been made: heliographlaw07.DevAll answers true, and the deeds read as before. No condition.
-/
import Derived.Test.YtopeipaeefohlaaRows
import Derived.ProofKit
import Derived.OpenShut
import Derived.ShutString
import Derived.ChangeOld
import Derived.Carry
import Derived.Test.YtopeipaeefohlaaD15
namespace Go.Proofs.Ytopeipaeefohlaa.vDevAll
open Go.ChangeShapes Go.WideShapes Go.ChangeAt Go.RowKit
open Go.ChangeMaps (open_string shut_string)
set_option linter.unusedVariables false

theorem info_bool : (Try.prog.info? 4).map (fun i => (i.zero, i.size, i.bytes)) = some (some (.bool false), 1, 1) := by kernel_rfl
theorem surv_all (loose : List Wr) (n : Nat) (h : loose.length ≤ n) : surv loose (List.replicate n true) = loose := by
  unfold surv
  rw [List.filter_eq_self.2]
  · apply List.ext_getElem
    · simp; omega
    · intro i h1 h2; simp
  · intro p hp
    have := (List.of_mem_zip hp).2
    exact (List.mem_replicate.1 this).2
theorem surv_none (loose : List Wr) : surv loose [false, false] = [] := by
  unfold surv
  rw [List.filter_eq_nil_iff.2]
  · rfl
  · intro p hp
    have := (List.of_mem_zip hp).2
    simp at this
    simp [this]

set_option maxHeartbeats 2000000 in
theorem walk (x : Int) (A : Option Addr) (n c : Nat) (ds : List DeedD) (w : World) (hx : (Lit.int .u8 x).wf = true) (hd : DDeeds w A n ds) :
    Calls Try.prog 7 #[.int .u8 x, .slice A n c] w fun e w' => e = .returned (.bool true) ∧ Below w.heap.size w w' := by
  obtain ⟨z, rfl, hz⟩ := u8_nat hx
  clear hx
  obtain ⟨i0, hi, hz0, hz1, hz2⟩ := info_parts info_bool
  have H0 := Lib.hid (play_calls z hz A n c ds w hd)
  have HA := Lib.hid (And.intro hi (And.intro hz0 (And.intro hz1 hz2)))
  clear hd hi hz0 hz1 hz2
  go_enter Try.func7, Try.ntmps7
  go_wp2_with fail
  refine H0.out.mono ?_
  rintro e w1 ⟨bd, br, rfl, hF⟩
  have H1 := Lib.hid hF; clear hF H0
  go_wp2_with fail
  refine (dlive_calls w1).mono ?_
  rintro e w2 ⟨rfl, hk2⟩
  obtain ⟨l, loose, fd, fr, hB, hl6, hm, hK, hN⟩ := H1.out.nil hk2
  have H2 := Lib.hid (And.intro hB (And.intro hK (And.intro hm (And.intro hl6 hN)))); clear hB hK hk2 hN H1 hl6 hm
  go_wp2_with fail
  go_loopw [9, 8] (fun i v wr => ∃ k : Nat, k ≤ 60 ∧ i = .int .i64 k ∧ ∃ f8, Own wr 4 1 v k (bools (List.replicate k true)) f8 ∧ Keeps w2 wr [] ∧ ∀ j ∈ f8, w2.heap.size ≤ j) (fun i _ _ => 60 - (intOf i).toNat)
  case atStart => exact ⟨0, by omega, rfl, [], Own.bare _ _ _ _, Keeps.refl _ _, by simp⟩
  case round =>
    obtain ⟨k, hk, rfl, f8, hO, hK, hN8⟩ := hrel
    obtain ⟨A8, n8, rfl, -, -⟩ := hO.form
    by_cases hlt : (k : Int) < 60
    · have HO := Lib.hid (And.intro hO (And.intro hK hN8))
      clear hO hK hN8
      go_wp2_with (at_builtin; refine wpList_append_mine _ rfl (.tmp 30) (.tmp 31) _ _ rfl 4 i0 _ 1 1 Try.underlying23 HA.out.1 HA.out.2.1 HA.out.2.2.1 HA.out.2.2.2 rfl _ k (bools (List.replicate k true)) f8 rfl ?own _ 1 (bools [true]) rfl ?src ?c1 ?c2 ?next)
      case own => exact HO.out.1.alloc _
      case src => exact (Blk.new' wr (n := wr.heap.size) rfl 4 #[.bool true]).src Try.underlying23 1 rfl (by simp [Value.oneCell'])
      case c1 => unfold maxLen; omega
      case c2 => omega
      case next =>
        intro v1 w5 f9 hown9 hk9 hn9
        obtain ⟨A9, n9, rfl, -, -⟩ := hown9.form
        have hk9' : Keeps w2 w5 [] := ((HO.out.2.1.alloc _).trans hk9 (fun i hi h => by have := HO.out.2.2 i h; omega))
        have hN9 : ∀ j ∈ f9, w2.heap.size ≤ j := fun j hj => by
          rcases hn9 j hj with h | h
          · exact HO.out.2.2 j h
          · have := HO.out.2.1.size
            (try simp at h)
            omega
        have hb9 : bools (List.replicate k true) ++ bools [true] = bools (List.replicate (k + 1) true) := by simp [bools, List.replicate_succ']
        rw [hb9] at hown9
        have HO9 := Lib.hid (And.intro hown9 (And.intro hk9' hN9))
        clear hown9 hk9 hn9 hk9' hN9 hb9
        go_wp2_with fail
        go_roundw
        case rel => exact ⟨k + 1, by omega, by go_num, f9, HO9.out⟩
        case measure => simp [intOf]; omega
    · obtain rfl : k = 60 := by omega
      have hB := H2.out.1.nil hK
      obtain ⟨A8', n8', hf8, hcn, fS, hRS, hfS⟩ := hO.form
      simp only [Value.slice.injEq] at hf8
      obtain ⟨rfl, -, rfl⟩ := hf8
      have HZ := Lib.hid (And.intro hB (And.intro hK (And.intro hRS (And.intro hfS hN8))))
      clear hB hK hRS hfS hN8 hO hcn hlt hk
      go_wp2_with fail
      refine (fork_ok bd l _ loose fd wr HZ.out.1.d HZ.out.1.small (by rw [land_length]; exact HZ.out.1.small) (by have := H2.out.2.2.1; omega)).mono ?_
      rintro e w3 ⟨bf, ff, rfl, hf3, hk3, hn3⟩
      have H3 := Lib.hid (And.intro hf3 (And.intro hk3 hn3)); clear hf3 hk3 hn3
      go_wp2_with fail
      refine (rfork_ok br l loose fr w3 (HZ.out.1.r.nil H3.out.2.1) HZ.out.1.small (by have := H2.out.2.2.1; omega)).mono ?_
      rintro e w4 ⟨bg, fg, rfl, hg4, hk4, hn4⟩
      have hFG : DBoth w4 bf bg l loose ff fg ∧ Keeps wr w4 [] ∧ ∀ k ∈ ff ++ fg, wr.heap.size ≤ k := by
        obtain ⟨hf3, hk3, hn3⟩ := H3.out
        refine ⟨⟨hf3.nil hk4, hg4, HZ.out.1.wi, HZ.out.1.small, fun k h1 h2 => ?_⟩, hk3.trans hk4 (by simp), fun k hm => ?_⟩
        · have := hf3.lt k h1; have := hn4 k h2; omega
        · have := hk3.size
          rcases List.mem_append.1 hm with h | h
          · exact hn3 k h
          · have := hn4 k h; omega
      have H4 := Lib.hid hFG; clear hFG hg4 hk4 hn4 H3
      have hC := crash_ok A8 n8 (List.replicate 60 true) fS bf l (land l loose) loose ff w4 H4.out.1.d (by simpa using HZ.out.2.2.1.keeps H4.out.2.1 (by simp)) (by unfold maxLen; simp) (fun k h1 h2 => by have := HZ.out.2.2.1.lt k h1; have := H4.out.2.2 k (by simp [h2]); omega) H4.out.1.small (by have := H2.out.2.2.1; omega) H4.out.1.wi
      rw [surv_all loose 60 H2.out.2.2.1, List.length_replicate] at hC
      have HC := Lib.hid hC
      clear hC
      go_wp2_with fail
      refine HC.out.mono ?_
      intro e w5 h5
      have hr5 : RRep w5 bg l loose fg := by
        obtain ⟨-, -, -, hk, -⟩ := h5
        exact H4.out.1.r.keeps hk (fun k h1 h2 => H4.out.1.apart k h2 h1)
      have H5 := Lib.hid (And.intro h5 hr5)
      obtain ⟨-, rfl, -, -, -⟩ := h5
      clear hr5 HC
      go_wp2_with fail
      refine (rsync_ok bg l loose fg w5 H5.out.2 H4.out.1.small (by have := H2.out.2.2.1; omega) H4.out.1.wi).mono ?_
      intro e w6 h6
      obtain ⟨ff6, fg6, -, he6, hb6, hk6, hn6⟩ := H4.out.1.steps (l' := land l loose) (loose' := []) H5.out.1 (Keeps.refl w5 []) h6 (land_length _ _) (by simp) (by simp)
      subst he6
      have hB6 : DBoth w6 bd br l loose fd fr := (HZ.out.1.nil H4.out.2.1).keeps hk6 (fun k h1 h2 => by
        have := H4.out.2.2 k h2
        rcases List.mem_append.1 h1 with h | h
        · have := HZ.out.1.d.lt k h; omega
        · have := HZ.out.1.r.lt k h; omega)
      have hK6 : Keeps w w6 [] := ((H2.out.2.1.trans HZ.out.2.1 (by simp)).trans H4.out.2.1 (by simp)).trans hk6 (fun i hi h => by
        have := H4.out.2.2 i h
        have := H2.out.2.1.size
        have := HZ.out.2.1.size
        omega)
      have hN6 : ∀ k ∈ ff6 ++ fg6, wr.heap.size ≤ k := fun k hk => by
        rcases hn6 k hk with h | h
        · exact H4.out.2.2 k h
        · have := H4.out.2.1.size; omega
      have H6 := Lib.hid (And.intro hb6 (And.intro hB6 (And.intro hK6 hN6)))
      clear hb6 hk6 hn6 hB6 hK6 hN6 h6
      go_wp2_with fail
      refine (crash_ok none 0 [] [] bd l (land l loose) loose fd w6 H6.out.2.1.d (Reads.zero _ _ _) (by simp) (by simp) H6.out.2.1.small (by have := H2.out.2.2.1; omega) H6.out.2.1.wi).mono ?_
      intro e w7 h7
      have hs7 : surv loose [] = [] := by simp [surv]
      rw [hs7] at h7
      have hr7 : RRep w7 br l loose fr := by
        obtain ⟨-, -, -, hk, -⟩ := h7
        exact H6.out.2.1.r.keeps hk (fun k h1 h2 => H6.out.2.1.apart k h2 h1)
      have H7 := Lib.hid (And.intro h7 hr7)
      obtain ⟨-, rfl, -, -, -⟩ := h7
      clear hr7 hs7
      go_wp2_with fail
      refine (rcrash_ok (some ⟨w7.heap.size, 0, none⟩) 2 [false, false] [w7.heap.size] br l loose fr _ (H7.out.2.nil ((Keeps.refl w7 []).alloc _)) ((Blk.new w7 4 #[.bool false, .bool false]).reads 1 2 rfl) H6.out.2.1.small (by have := H2.out.2.2.1; omega) H6.out.2.1.wi).mono ?_
      intro e w8 h8
      rw [surv_none] at h8
      obtain ⟨fd8, fr8, -, he8, hb8, hk8, hn8⟩ := H6.out.2.1.steps (l' := l) (loose' := []) H7.out.1 ((Keeps.refl w7 []).alloc _) h8 rfl (by simp) (by simp)
      subst he8
      have hB8 : DBoth w8 bf bg (land l loose) [] ff6 fg6 := H6.out.1.keeps hk8 (fun k h1 h2 => by
        have := H6.out.2.2.2 k h1
        rcases List.mem_append.1 h2 with h | h
        · have := HZ.out.1.d.lt k h; omega
        · have := HZ.out.1.r.lt k h; omega)
      have hK8 : Keeps w w8 [] := H6.out.2.2.1.trans hk8 (fun i hi h => by
        have := H2.out.2.2.2.2 i h
        omega)
      have H8 := Lib.hid (And.intro hb8 (And.intro hB8 hK8))
      clear hb8 hk8 hn8 hB8 hK8 h8
      go_wp2_with fail
      refine (same_calls bf bg _ _ ff6 fg6 w8 H8.out.2.1 (by simp)).mono ?_
      rintro e w9 ⟨rfl, hk9⟩
      have H9 := Lib.hid hk9; clear hk9
      go_wp2_with fail
      refine (same_calls bd br _ _ fd8 fr8 w9 (H8.out.1.nil H9.out) (by simp)).mono ?_
      rintro e w10 ⟨rfl, hk10⟩
      have H10 := Lib.hid ((H8.out.2.2.trans H9.out (by simp)).trans hk10 (by simp)); clear hk10
      go_wp2_with fail
      go_ret
      exact ⟨rfl, H10.out.below (Nat.le_refl _) (by simp)⟩

/-! ### the row (its frame is printed by gen.py; the walk is above) -/
theorem own : ownKnob Try.prog.godebug = none := by kernel_rfl
theorem laidOut : laidOutB Try.prog = true := by kernel_rfl
set_option maxRecDepth 100000 in
theorem lifted (os : Os) (started : os.Started) (H : Type) (enc : TypeId × Value → H) :
    ReturnsInHanded {} Try.checked os 7 .any (Rows.devAllSpec.pre6 enc Try.prog Try.f7 Rows.devAllRow.domain false) (Rows.devAllSpec.post enc Try.prog Try.f7 false true false false) := by
  refine returnsInHanded_of_change (C := Try.checked) own started (by kernel_rfl) Try.func7
    (ChangeSpec.witness6 (enc := enc) (C := Try.checked) false ⟨#[], #[.int .u8 0, .slice none 0 0], []⟩ 8 (by kernel_rfl) (by kernel_rfl) (by kernel_rfl) (by kernel_rfl)) ?_
  intro W base args ds gs before hval0 hW hcnd _
  have hval : ∀ (j : Nat) t v, Try.f7.params[j]? = some t → args[j]? = some v → Value.okWide Try.prog W .any base t v := hval0
  have hW' := hW
  obtain ⟨p, q, hA0, hV, rfl, hfz, hnd⟩ := hW
  have hA : DataW.TrodAll enc Try.prog W 0 (fun _ => true) true Try.f7.params.toList args.toList ds p := hA0
  rw [Try.params7] at hA hval
  obtain ⟨v0, vs0, d0, ds0, p0, q0, hargs, rfl, rfl, h0, r0⟩ := trodAll_cons hA
  obtain ⟨v1, vs1, d1, ds1, p1, q1, rfl, rfl, rfl, h1, r1⟩ := trodAll_cons r0
  obtain ⟨rfl, rfl, rfl⟩ := trodAll_nil r1
  obtain rfl : args = #[v0, v1] := by cases args; simp_all
  obtain ⟨rfl, rfl⟩ := trodVars_none hV
  have k0 := h0
  have lt0 : ∀ x ∈ p0, x.block < W.heap.size := by obtain ⟨m, hm⟩ := k0; exact DataW.trod_lt m _ _ _ hm
  obtain ⟨x0, rfl, rfl, rfl, w0⟩ := open_int Try.underlying5 (hval 0 5 v0 rfl rfl) h0
  have k1 := h1
  have lt1 : ∀ x ∈ p1, x.block < W.heap.size := by obtain ⟨m, hm⟩ := k1; exact DataW.trod_lt m _ _ _ hm
  obtain ⟨a1, len1, cap1, rfl⟩ := okWide_slice Try.underlying36 (hval 1 36 v1 rfl rfl)
  obtain ⟨fuel1, hf1⟩ := h1
  obtain ⟨x1, w1⟩ := open_ddeeds (by simpa [Value.cells] using hf1)
  clear hA0 hval0
  refine (walk x0 a1 len1 cap1 x1 W w0 w1).mono fun e W' ⟨he, bel⟩ => ?_
  subst he
  exact ⟨_, rfl, _, _, _, [], _, [], hW', trodAll_mk1 (shut_bool Try.underlying4 _), (trodAll_cons_mk (Below.trod laidOut (by kernel_rfl) (of_decide_eq_true (by kernel_rfl)) k0 bel lt0) (trodAll_cons_mk (Below.trod laidOut (by kernel_rfl) (of_decide_eq_true (by kernel_rfl)) k1 bel lt1) trodAll_mk0)), rfl, bel.frame _, fun h => by cases h⟩

theorem over : Rows.devAllRow.holds Try.pinned (OpenSpec.ofChange Rows.devAllSpec) :=
  OpenClaim.holds_of_wide 7 Try.f7 rfl rfl rfl rfl rfl rfl rfl ⟨rfl, rfl, rfl, rfl, rfl⟩ rfl rfl rfl rfl rfl (by kernel_rfl) Try.func7 (by kernel_rfl)
    (of_decide_eq_true (by kernel_rfl)) (by unfold Func.isWrapper; first | (rw [if_pos (by decide +kernel)]; kernel_rfl) | (rw [if_neg (by decide +kernel)]; exact ⟨rfl, rfl⟩))
    (fun os started H enc _ => lifted os started H enc)

theorem proved : Rows.DevAllSaid := over
#print axioms proved
end Go.Proofs.Ytopeipaeefohlaa.vDevAll
