/-
  For every deed and number: a nil store answers so, and of devices those that may not be are told: heliographlaw08.SlotsNone answers true, and what came in reads as before. No condition.
-/
import Derived.Test.YtecjhaohabjkbaaRows
import Derived.ProofKit
import Derived.OpenShut
import Derived.ShutString
import Derived.ChangeOld
import Derived.Carry
import Derived.Test.YtecjhaohabjkbaaP18
namespace Go.Proofs.Ytecjhaohabjkbaa.vSlotsNone
open Go.ChangeShapes Go.WideShapes Go.ChangeAt Go.RowKit
open Go.ChangeMaps (open_string shut_string)
set_option linter.unusedVariables false

section
variable (w : World)
theorem nmay_nil (A : Option Addr) (n c : Nat) : Calls Try.prog 47 #[.pointer none, .slice A n c] w fun e w' => e = .returned (.int .i64 1) ∧ w = w' := by
  go_enter Try.func47, Try.ntmps47
  go_wp2_with fail
  go_ret
  exact ⟨rfl, rfl⟩
theorem nsave_nil (A : Option Addr) (n c : Nat) : Calls Try.prog 17 #[.pointer none, .slice A n c] w fun e w' => e = .returned (.int .i64 1) ∧ w = w' := by
  have H := Lib.hid (nmay_nil w A n c)
  go_enter Try.func17, Try.ntmps17
  go_wp2_with fail
  refine Calls.mono H.out ?_
  rintro e w1 ⟨rfl, rfl⟩
  go_wp2_with fail
  go_ret
  exact ⟨rfl, rfl⟩
theorem ntorn_nil (A B : Option Addr) (n c m d : Nat) (W : Int) : Calls Try.prog 28 #[.pointer none, .slice A n c, .int .i64 W, .slice B m d] w fun e w' => e = .returned (.int .i64 1) ∧ w = w' := by
  have H := Lib.hid (nmay_nil w A n c)
  go_enter Try.func28, Try.ntmps28
  go_wp2_with fail
  refine Calls.mono H.out ?_
  rintro e w1 ⟨rfl, rfl⟩
  go_wp2_with fail
  go_ret
  exact ⟨rfl, rfl⟩
theorem nload_nil : Calls Try.prog 20 #[.pointer none] w fun e w' => e = .returned (.slice none 0 0) ∧ w = w' := by
  go_enter Try.func20, Try.ntmps20
  go_wp2_with fail
  go_ret
  exact ⟨rfl, rfl⟩
theorem nturn_nil : Calls Try.prog 21 #[.pointer none] w fun e w' => e = .returned (.int .u64 0) ∧ w = w' := by
  go_enter Try.func21, Try.ntmps21
  go_wp2_with fail
  go_ret
  exact ⟨rfl, rfl⟩
theorem nroom_nil : Calls Try.prog 27 #[.pointer none] w fun e w' => e = .returned (.int .i64 0) ∧ w = w' := by
  go_enter Try.func27, Try.ntmps27
  go_wp2_with fail
  go_ret
  exact ⟨rfl, rfl⟩
theorem ndevice_nil : Calls Try.prog 18 #[.pointer none] w fun e w' => e = .returned (.pointer none) ∧ w = w' := by
  go_enter Try.func18, Try.ntmps18
  go_wp2_with fail
  go_ret
  exact ⟨rfl, rfl⟩
theorem nfork_nil : Calls Try.prog 30 #[.pointer none] w fun e w' => e = .returned (.pointer none) ∧ w = w' := by
  go_enter Try.func30, Try.ntmps30
  go_wp2_with fail
  go_ret
  exact ⟨rfl, rfl⟩
theorem nopen_nil : Calls Try.prog 15 #[.pointer none] w fun e w' => e = .returned (.pointer none) ∧ w = w' := by
  have H := Lib.hid (size_nil w)
  go_enter Try.func15, Try.ntmps15
  go_wp2_with fail
  refine Calls.mono H.out ?_
  rintro e w1 ⟨rfl, rfl⟩
  go_wp2_with fail
  go_ret
  exact ⟨rfl, rfl⟩
theorem nopen_small (bd : Nat) (l : List Sec) (fd : List Nat) (hd : DRep w bd l l [] fd) (h : l.length < 4) : Calls Try.prog 15 #[.pointer (some ⟨bd, 0, none⟩)] w fun e w' => e = .returned (.pointer none) ∧ w = w' := by
  have hsz := size_calls bd l l [] fd w hd
  obtain ⟨L, hL⟩ : ∃ L, L = l.length := ⟨_, rfl⟩
  rw [← hL] at hsz h
  have h4 : (L : Int) < 4 := by omega
  have H := Lib.hid hsz
  clear hd hsz hL h
  go_enter Try.func15, Try.ntmps15
  go_wp2_with fail
  refine Calls.mono H.out ?_
  rintro e w1 ⟨rfl, rfl⟩
  go_wp2_with fail
  go_ret
  exact ⟨rfl, rfl⟩
end

set_option maxHeartbeats 3200000 in set_option maxRecDepth 100000 in
set_option maxRecDepth 100000 in
theorem walk (d : SDeed) (x : Int) (w : World) (hg : d.good w) (hx : (Lit.int .u8 x).wf = true) :
    Calls Try.prog 12 #[d.val, .int .u8 x] w fun e w' => e = .returned (.bool true) ∧ Below w.heap.size w w' := by
  obtain ⟨z, rfl, hz⟩ := u8_nat hx
  clear hx
  have hbox := Blk.new w 50 d.cells.toArray
  have hk0 : Keeps w (w.alloc (.cells d.cells.toArray 50)) [] := (Keeps.refl w []).alloc _
  have H0 := Lib.hid (And.intro hbox hk0)
  clear hbox hk0 hg
  obtain ⟨kind, B, b, cB, W, S, sv, cS⟩ := d
  simp only [SDeed.val, SDeed.cells] at H0 ⊢
  obtain ⟨w0, hw0⟩ : ∃ w0, w0 = w.alloc (.cells [Value.int .i64 kind, .slice B b.length cB, .int .i64 W, .slice S sv.length cS].toArray 50) := ⟨_, rfl⟩
  rw [← hw0] at H0
  obtain ⟨m, hm⟩ : ∃ m, m = z % 10 := ⟨_, rfl⟩
  have hme : (z : Int) % 10 = (m : Int) := by omega
  have hz0 : (0 : Int) ≤ (z : Int) := by omega
  have hz1 : (z : Int) < 256 := by omega
  have hm10 : m < 10 := by omega
  clear hz hm
  go_enter Try.func12, Try.ntmps12
  go_wp2_with fail
  have hw0' : w.alloc (.cells #[Value.int .i64 kind, .slice B b.length cB, .int .i64 W, .slice S sv.length cS] 50) = w0 := hw0.symm
  rw [hw0']
  clear hw0 hw0'
  refine (live_calls w0).mono ?_
  rintro e w2 ⟨rfl, hk2⟩
  have hb2 := H0.out.1.keeps hk2 (by simp)
  have c1 : w2.cell? ⟨w.heap.size, 1, none⟩ = some (.slice B b.length cB) := hb2.cell 1
  have c2 : w2.cell? ⟨w.heap.size, 2, none⟩ = some (.int .i64 W) := hb2.cell 2
  have c3 : w2.cell? ⟨w.heap.size, 3, none⟩ = some (.slice S sv.length cS) := hb2.cell 3
  have HK := Lib.hid (H0.out.2.trans (fp1 := []) hk2 (by simp))
  clear hk2 hb2
  go_wp2_with fail
  refine (nsave_nil w2 _ _ _).mono ?_
  rintro e w3 ⟨rfl, rfl⟩
  go_wp2_with fail
  refine (ntorn_nil w2 _ _ _ _ _ _ _).mono ?_
  rintro e w3 ⟨rfl, rfl⟩
  go_wp2_with fail
  refine (nload_nil w2).mono ?_
  rintro e w3 ⟨rfl, rfl⟩
  go_wp2_with fail
  refine (nturn_nil w2).mono ?_
  rintro e w3 ⟨rfl, rfl⟩
  go_wp2_with fail
  refine (nroom_nil w2).mono ?_
  rintro e w3 ⟨rfl, rfl⟩
  go_wp2_with fail
  refine (ndevice_nil w2).mono ?_
  rintro e w3 ⟨rfl, rfl⟩
  go_wp2_with fail
  refine (nfork_nil w2).mono ?_
  rintro e w3 ⟨rfl, rfl⟩
  go_wp2_with fail
  refine (nopen_nil w2).mono ?_
  rintro e w3 ⟨rfl, rfl⟩
  go_wp2_with fail
  clear c1 c2 c3
  have hmi : (m : Int) < 10 := by omega
  by_cases h0 : m = 0
  · subst h0
    refine (dnew_nil 0 w2 (by omega)).mono ?_
    rintro e w3 ⟨rfl, rfl⟩
    go_wp2_with fail
    refine (nopen_nil w2).mono ?_
    rintro e w3 ⟨rfl, rfl⟩
    go_wp2_with fail
    go_ret
    exact ⟨by simp, HK.out.below (Nat.le_refl _) (by simp)⟩
  · refine (dnew_ok m w2 (by omega) (by omega)).mono ?_
    rintro e w3 ⟨b3, f3, rfl, hd3, hk3, hn3⟩
    have H3 := Lib.hid (And.intro hd3 hk3)
    clear hd3 hk3 hn3
    by_cases h4 : m < 4
    · have h4' : (m : Int) < 4 := by omega
      clear hm10 h0 h4
      go_wp2_with fail
      refine (nopen_small w3 b3 _ f3 H3.out.1 (by simp; omega)).mono ?_
      rintro e w4 ⟨rfl, rfl⟩
      go_wp2_with fail
      go_ret
      exact ⟨by simp, (HK.out.trans (fp1 := []) H3.out.2 (by simp)).below (Nat.le_refl _) (by simp)⟩
    · have h4' : (4 : Int) ≤ (m : Int) := by omega
      have h4d : decide ((m : Int) < 4) = false := by simp; omega
      have hgd := (Good.new m (by omega) (by omega)).fit
      have HG := Lib.hid hgd
      clear hm10 h0 h4 hgd
      go_wp2_with fail
      refine Calls.mono (open_ok b3 _ [] w3 f3 H3.out.1 (HG.out.mono (by omega))) ?_
      rintro e w4 ⟨g4, b4, f4, rfl, -, hk4, -⟩
      have H4 := Lib.hid hk4
      clear hk4
      go_wp2_with fail
      go_ret
      exact ⟨by simp, ((HK.out.trans (fp1 := []) H3.out.2 (by simp)).trans (fp1 := []) H4.out (by simp)).below (Nat.le_refl _) (by simp)⟩

/-! ### the row (its frame is printed by gen.py; the walk is above) -/
theorem own : ownKnob Try.prog.godebug = none := by kernel_rfl
theorem laidOut : laidOutB Try.prog = true := by kernel_rfl
set_option maxRecDepth 100000 in
theorem lifted (os : Os) (started : os.Started) (H : Type) (enc : TypeId × Value → H) :
    ReturnsInHanded {} Try.checked os 12 .any (Rows.slotsNoneSpec.pre6 enc Try.prog Try.f12 Rows.slotsNoneRow.domain false) (Rows.slotsNoneSpec.post enc Try.prog Try.f12 false true false false) := by
  refine returnsInHanded_of_change (C := Try.checked) own started (by kernel_rfl) Try.func12
    (ChangeSpec.witness6 (enc := enc) (C := Try.checked) false ⟨#[], #[.agg #[.int .i64 0, .slice none 0 0, .int .i64 0, .slice none 0 0], .int .u8 0], []⟩ 8 (by kernel_rfl) (by kernel_rfl) (by kernel_rfl) (by kernel_rfl)) ?_
  intro W base args ds gs before hval0 hW hcnd _
  have hval : ∀ (j : Nat) t v, Try.f12.params[j]? = some t → args[j]? = some v → Value.okWide Try.prog W .any base t v := hval0
  have hW' := hW
  obtain ⟨p, q, hA0, hV, rfl, hfz, hnd⟩ := hW
  have hA : DataW.TrodAll enc Try.prog W 0 (fun _ => true) true Try.f12.params.toList args.toList ds p := hA0
  rw [Try.params12] at hA hval
  obtain ⟨v0, vs0, d0, ds0, p0, q0, hargs, rfl, rfl, h0, r0⟩ := trodAll_cons hA
  obtain ⟨v1, vs1, d1, ds1, p1, q1, rfl, rfl, rfl, h1, r1⟩ := trodAll_cons r0
  obtain ⟨rfl, rfl, rfl⟩ := trodAll_nil r1
  obtain rfl : args = #[v0, v1] := by cases args; simp_all
  obtain ⟨rfl, rfl⟩ := trodVars_none hV
  have k0 := h0
  have lt0 : ∀ x ∈ p0, x.block < W.heap.size := by obtain ⟨m, hm⟩ := k0; exact DataW.trod_lt m _ _ _ hm
  obtain ⟨x0, rfl, w0⟩ := open_sdeed (hval 0 50 v0 rfl rfl) h0
  have k1 := h1
  have lt1 : ∀ x ∈ p1, x.block < W.heap.size := by obtain ⟨m, hm⟩ := k1; exact DataW.trod_lt m _ _ _ hm
  obtain ⟨x1, rfl, rfl, rfl, w1⟩ := open_int Try.underlying5 (hval 1 5 v1 rfl rfl) h1
  clear hA0 hval0
  refine (walk x0 x1 W w0 w1).mono fun e W' ⟨he, bel⟩ => ?_
  subst he
  exact ⟨_, rfl, _, _, _, [], _, [], hW', trodAll_mk1 (shut_bool Try.underlying4 _), (trodAll_cons_mk (Below.trod laidOut (by kernel_rfl) (of_decide_eq_true (by kernel_rfl)) k0 bel lt0) (trodAll_cons_mk (Below.trod laidOut (by kernel_rfl) (of_decide_eq_true (by kernel_rfl)) k1 bel lt1) trodAll_mk0)), rfl, bel.frame _, fun h => by cases h⟩

theorem over : Rows.slotsNoneRow.holds Try.pinned (OpenSpec.ofChange Rows.slotsNoneSpec) :=
  OpenClaim.holds_of_wide 12 Try.f12 rfl rfl rfl rfl rfl rfl rfl ⟨rfl, rfl, rfl, rfl, rfl⟩ rfl rfl rfl rfl rfl (by kernel_rfl) Try.func12 (by kernel_rfl)
    (of_decide_eq_true (by kernel_rfl)) (by unfold Func.isWrapper; first | (rw [if_pos (by decide +kernel)]; kernel_rfl) | (rw [if_neg (by decide +kernel)]; exact ⟨rfl, rfl⟩))
    (fun os started H enc _ => lifted os started H enc)

theorem proved : Rows.SlotsNoneSaid := over
#print axioms proved
end Go.Proofs.Ytecjhaohabjkbaa.vSlotsNone
