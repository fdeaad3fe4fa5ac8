/-
  For every bytes that are written to one sector and whatever survives, what was written last is what is read, and behind a crash the last write that survives counts: heliographlaw07.DevOrder answers true, and both arguments read as before. No condition.
-/
import Derived.Test.YtopeipaeefohlaaRows
import Derived.ProofKit
import Derived.OpenShut
import Derived.ShutString
import Derived.ChangeOld
import Derived.Carry
import Derived.Test.YtopeipaeefohlaaD5
import Derived.Test.YtopeipaeefohlaaArgs
namespace Go.Proofs.Ytopeipaeefohlaa.vDevOrder
open Go.ChangeShapes Go.WideShapes Go.ChangeAt Go.RowKit
open Go.ChangeMaps (open_string shut_string)
set_option linter.unusedVariables false

/-- the last byte that survives among the first k. -/
def want (zs : List Int) (sv : List Bool) : Nat → Int
  | 0 => 0
  | k + 1 => if sv[k]?.getD false then zs[k]?.getD 0 else want zs sv k
def ws (zs : List Int) : List Wr := zs.map fun z => ⟨1, Sec.all z⟩
theorem all_zero : Sec.zero = Sec.all 0 := rfl
theorem landed (zs : List Int) (sv : List Bool) : ∀ k, k ≤ zs.length → land [Sec.zero, Sec.zero] (survTo (ws zs) sv k) = [Sec.zero, Sec.all (want zs sv k)]
  | 0, _ => rfl
  | k + 1, hk => by
    have ih := landed zs sv k (by omega)
    have hx : (ws zs)[k]? = some ⟨1, Sec.all (zs[k]'(by omega))⟩ := by simp [ws, show k < zs.length by omega]
    cases hs : sv[k]? with
    | none =>
      have : survTo (ws zs) sv (k + 1) = survTo (ws zs) sv k := by
        unfold survTo
        have h1 : sv.length ≤ k := List.getElem?_eq_none_iff.1 hs
        rw [List.take_of_length_le (by simp; omega), List.take_of_length_le (by simp; omega)]
      rw [this, ih]
      simp [want, hs]
    | some s =>
      rw [survTo_succ _ _ _ _ _ hx hs]
      cases s with
      | false => simpa [want, hs] using ih
      | true =>
        rw [if_pos rfl, land_snoc, ih]
        simp [want, hs, show k < zs.length by omega]
theorem landed_all (zs : List Int) (sv : List Bool) : land [Sec.zero, Sec.zero] (surv (ws zs) sv) = [Sec.zero, Sec.all (want zs sv zs.length)] := by
  rw [← landed zs sv zs.length (Nat.le_refl _)]
  congr 1
  unfold survTo surv
  rw [List.take_of_length_le (by simp [ws]; omega)]

set_option maxHeartbeats 2000000 in
set_option maxRecDepth 100000 in
theorem walk (A : Option Addr) (n c : Nat) (zs : List Int) (f0 : List Nat) (B : Option Addr) (m c2 : Nat) (sv : List Bool) (f1 : List Nat) (w : World)
    (hz : Reads w 1 A n (zs.map (Value.int .u8)) f0) (hzn : zs.length = n) (hzw : ∀ z ∈ zs, (Lit.int .u8 z).wf = true) (hnc : n ≤ c) (hs : Reads w 1 B m (sv.map Value.bool) f1) (hsn : sv.length = m) (hsl : m ≤ maxLen) :
    Calls Try.prog 3 #[.slice A n c, .slice B m c2] w fun e w' => e = .returned (.bool true) ∧ Below w.heap.size w w' := by
  subst hsn
  have H0 := Lib.hid (And.intro hz (And.intro hzn (And.intro hzw (And.intro hs hsl))))
  clear hz hzn hzw hs hsl
  go_enter Try.func3, Try.ntmps3
  go_wp2_with fail
  refine (dnew_ok 2 _ (by omega) (by omega)).mono ?_
  intro e w1 hpost
  obtain ⟨b, fp, rfl, hd1, -, -⟩ := hpost.st (Keeps.refl w [])
  have H1 := Lib.hid hd1; clear hd1 hpost
  go_upto_if 17 with (fail)
  go_cut [0] (fun s0 wx => wx = w1 ∧ ∃ (n' c' : Nat) (zs' : List Int) (f' : List Nat), s0 = .slice A n' c' ∧ n' ≤ 40 ∧ zs'.length = n' ∧ Reads w 1 A n' (zs'.map (Value.int .u8)) f' ∧ (∀ z ∈ zs', (Lit.int .u8 z).wf = true))
  case first =>
    obtain ⟨hz, hzn, hzw, hs, hsl⟩ := H0.out
    by_cases h40 : 40 < n
    · have g1 : (40 : Int) < (n : Int) := by omega
      have g2 : (40 : Int) ≤ (c : Int) := by omega
      obtain ⟨fq, hq, -⟩ := hz.take (k := 40) (by omega)
      go_wp2_with fail
      go_meet
      exact ⟨rfl, 40, c, zs.take 40, fq, rfl, by omega, by simp; omega, by simpa using hq, fun z hm => hzw z (List.mem_of_mem_take hm)⟩
    · have g1 : (n : Int) ≤ 40 := by omega
      go_wp2_with fail
      go_meet
      exact ⟨rfl, n, c, zs, f0, rfl, by omega, hzn, hz, hzw⟩
  case rest =>
    obtain ⟨rfl, n', c', zs', f', rfl, h40, hzn, hz, hzw⟩ := hcut
    go_wp2_with fail
    go_loopw [7, 6] (fun i v wr => ∃ k : Nat, k ≤ n' ∧ i = .int .i64 k ∧ v = .int .u8 (want zs' sv k) ∧ ∃ x fp, DSt w wr b [Sec.zero, Sec.zero] [Sec.zero, x] (ws (zs'.take k)) fp) (fun i _ _ => n' - (intOf i).toNat)
    case atStart => exact ⟨0, by omega, rfl, rfl, _, _, H1.out⟩
    case round =>
      obtain ⟨k, hk, rfl, rfl, x, fp', hd⟩ := hrel
      have hlow : ∀ {w' : World}, Keeps w w' [] → Reads w' 1 A n' (zs'.map (Value.int .u8)) f' ∧ Reads w' 1 B sv.length (sv.map Value.bool) f1 := fun hk => ⟨hz.keeps hk (by simp), H0.out.2.2.2.1.keeps hk (by simp)⟩
      by_cases hlt : k < n'
      · have g1 : (k : Int) < (n' : Int) := by omega
        have g0 : (0 : Int) ≤ (k : Int) := by omega
        have hzk : zs'[k]? = some (zs'[k]'(by omega)) := List.getElem?_eq_getElem (by omega)
        obtain ⟨z, hzz⟩ : ∃ z, zs'[k]? = some z := ⟨_, hzk⟩
        have cellz : ∀ {w' : World}, Keeps w w' [] → ∃ q o, A = some ⟨q, o, none⟩ ∧ w'.cell? ⟨q, o + k, none⟩ = some (.int .u8 z) := fun hk => by
          obtain ⟨q, o, u, h1, -, -, h2, h3⟩ := (hlow hk).1.cellAt hlt
          rw [List.getElem?_map, hzz] at h2
          cases h2
          exact ⟨q, o, h1, h3⟩
        obtain ⟨q, o, rfl, cz⟩ := cellz hd.2.1
        have HL := Lib.hid (And.intro (@hlow) (And.intro (@cellz) (And.intro hzz (And.intro hz (And.intro hzw hzn)))))
        have HD := Lib.hid hd
        clear hlow cellz hzz hzk hd hz hzw hzn
        go_wp2_with fail
        refine (sector_calls z _).mono ?_
        rintro e w2 ⟨rfl, hk2⟩
        have H2 := Lib.hid (HD.out.nil hk2); clear hk2
        go_wp2_with fail
        refine (write_ok b _ _ _ fp' _ 1 (Sec.all z) H2.out.1 (by simp) (by simp) (by simp [ws]; omega)).mono ?_
        intro e w3 hpost
        obtain ⟨rfl, f3, hd3, -, -⟩ := H2.out.step hpost
        have H3 := Lib.hid hd3; clear hd3 H2 hpost
        go_wp2_with fail
        refine (read_ok b _ _ _ f3 _ 1 (Sec.all z) H3.out.1 rfl (by simp)).mono ?_
        rintro e w4 ⟨rfl, hk4⟩
        have H4 := Lib.hid (H3.out.nil hk4); clear hk4 H3
        have hm4 := may_new w4 29
        have H5 := Lib.hid (H4.out.nil (keeps_stored (Keeps.refl w4 []) 29 Sec.zero.cells (Sec.all z).cells (Nat.le_refl _)))
        have c9 : ((w4.alloc (.cells Sec.zero.cells.toArray 29)).setCells w4.heap.size 0 (Sec.all z).cells).cell? ⟨w4.heap.size, 9, none⟩ = some (.int .u8 z) := by rw [(blk_stored w4 29 (Sec.all z)).cell]; rfl
        obtain ⟨q', o', hq', c10⟩ := HL.out.2.1 H5.out.2.1
        simp only [Option.some.injEq, Addr.mk.injEq, and_true] at hq'
        obtain ⟨rfl, rfl⟩ := hq'
        clear cz
        go_wp2_with fail
        go_quiet (fail)
        have H6 := H5.out.nil ((Keeps.refl _ []).drewN nq)
        obtain ⟨W5, hW5⟩ : ∃ W5, W5 = (((w4.alloc (.cells Sec.zero.cells.toArray 29)).setCells w4.heap.size 0 (Sec.all z).cells).drewN nq) := ⟨_, rfl⟩
        rw [← hW5] at H6 ⊢
        obtain ⟨q', o', hq', c11⟩ := HL.out.2.1 H6.2.1
        simp only [Option.some.injEq, Addr.mk.injEq, and_true] at hq'
        obtain ⟨rfl, rfl⟩ := hq'
        have hws : ws (zs'.take (k + 1)) = ws (zs'.take k) ++ [⟨1, Sec.all z⟩] := by
          rw [List.take_add_one, HL.out.2.2.1]
          simp [ws]
        have HF := Lib.hid (And.intro H6 hws)
        clear hm4 H4 H5 c9 c10 hW5 hws
        cases hsk : sv[k]? with
        | none =>
          have g3 : (sv.length : Int) ≤ (k : Int) := by have := List.getElem?_eq_none_iff.1 hsk; omega
          have HS := Lib.hid hsk
          clear hsk H6
          go_wp2_with fail
          go_roundw
          case rel =>
            refine ⟨k + 1, by omega, by go_num, by simp [want, HS.out], Sec.all z, f3, ?_⟩
            rw [HF.out.2]
            exact HF.out.1
          case measure => simp [intOf]; omega
        | some s =>
          have hks := (List.getElem?_eq_some_iff.1 hsk).1
          have g3 : (k : Int) < (sv.length : Int) := by omega
          obtain ⟨q2, o2, u2, rfl, -, -, h2, cs⟩ := (HL.out.1 H6.2.1).2.cellAt hks
          obtain rfl : u2 = .bool s := by
            rw [List.getElem?_map, hsk] at h2
            simpa using h2.symm
          have HS := Lib.hid hsk
          clear hsk H6 h2
          cases s with
          | true =>
            go_wp2_with fail
            go_roundw
            case rel =>
              refine ⟨k + 1, by omega, by go_num, by simp [want, HS.out, HL.out.2.2.1], Sec.all z, f3, ?_⟩
              rw [HF.out.2]
              exact HF.out.1
            case measure => simp [intOf]; omega
          | false =>
            go_wp2_with fail
            go_roundw
            case rel =>
              refine ⟨k + 1, by omega, by go_num, by simp [want, HS.out], Sec.all z, f3, ?_⟩
              rw [HF.out.2]
              exact HF.out.1
            case measure => simp [intOf]; omega
      · obtain rfl : k = n' := by omega
        have htk : zs'.take k = zs' := List.take_of_length_le (by omega)
        rw [htk] at hd
        have hzl : land [Sec.zero, Sec.zero] (surv (ws zs') sv) = [Sec.zero, Sec.all (want zs' sv k)] := by rw [landed_all, hzn]
        have hwl : (ws zs').length ≤ 40 := by simp [ws]; omega
        have hwi : ∀ x ∈ ws zs', x.i < [Sec.zero, Sec.zero].length := fun x hx => by
          obtain ⟨z, -, rfl⟩ := List.mem_map.1 hx
          simp
        have hsr := (hlow hd.2.1).2
        have hdis : ∀ i ∈ f1, i ∉ fp' := fun i h1 h2 => by
          have := H0.out.2.2.2.1.lt i h1
          have := hd.2.2 i h2
          omega
        have HC := Lib.hid (crash_ok B c2 sv f1 b _ _ _ fp' _ hd.1 hsr H0.out.2.2.2.2 hdis (by simp) (by omega) hwi)
        have HD := Lib.hid hd
        clear hlow hd hz hzw hzn htk hwl hwi hsr hdis
        go_wp2_with fail
        refine HC.out.mono ?_
        intro e w2 hpost
        obtain ⟨rfl, f3, hd3, -, -⟩ := HD.out.step hpost
        rw [hzl] at hd3
        have H3 := Lib.hid hd3; clear hd3 HD hpost HC
        go_wp2_with fail
        refine (read_ok b _ _ _ f3 _ 1 (Sec.all (want zs' sv k)) H3.out.1 rfl (by simp)).mono ?_
        rintro e w4 ⟨rfl, hk4⟩
        have H4 := Lib.hid (H3.out.nil hk4); clear hk4 H3
        have hm4 := may_new w4 29
        have hb5 := blk_stored w4 29 (Sec.all (want zs' sv k))
        have H5 := H4.out.nil (keeps_stored (Keeps.refl w4 []) 29 Sec.zero.cells (Sec.all (want zs' sv k)).cells (Nat.le_refl _))
        have HX := Lib.hid (And.intro hb5 H5)
        clear hb5 H5
        go_wp2_with fail
        refine (read_ok b _ _ _ f3 _ 0 Sec.zero HX.out.2.1 rfl (by simp)).mono ?_
        rintro e w6 ⟨rfl, hk6⟩
        have H6 := Lib.hid (And.intro (HX.out.1.keeps hk6 (by simp)) (HX.out.2.nil hk6)); clear hk6 HX H4 hm4
        have hm6 := may_new w6 29
        have hb7 := blk_stored w6 29 Sec.zero
        have hk7 := keeps_stored (Keeps.refl w6 []) 29 Sec.zero.cells Sec.zero.cells (Nat.le_refl _)
        have H7 := Lib.hid (And.intro hb7 (And.intro (H6.out.1.keeps hk7 (by simp)) (H6.out.2.nil hk7)))
        clear hb7 hk7 H6
        go_wp2_with fail
        refine (dlive_calls _).mono ?_
        rintro e w8 ⟨rfl, hk8⟩
        have hb8 := H7.out.2.1.keeps hk8 (by simp)
        have hz8 := H7.out.1.keeps hk8 (by simp)
        have e0 : w8.cell? ⟨w4.heap.size, 0, none⟩ = some (.int .u8 (want zs' sv k)) := by rw [hb8.cell]; rfl
        have e63 : w8.cell? ⟨w4.heap.size, 63, none⟩ = some (.int .u8 (want zs' sv k)) := by rw [hb8.cell]; rfl
        obtain ⟨r1, r2⟩ := row_of_range hz8.whole Sec.zero.cells_length
        have H8 := Lib.hid (H7.out.2.2.nil hk8)
        clear hb8 hz8 hk8 H7 hm6
        go_wp2_with fail
        go_ret
        exact ⟨rfl, H8.out.2.1.below (Nat.le_refl _) (by simp)⟩

/-! ### the row (its frame is printed by gen.py; the walk is above) -/
theorem own : ownKnob Try.prog.godebug = none := by kernel_rfl
theorem laidOut : laidOutB Try.prog = true := by kernel_rfl
set_option maxRecDepth 100000 in
theorem lifted (os : Os) (started : os.Started) (H : Type) (enc : TypeId × Value → H) :
    ReturnsInHanded {} Try.checked os 3 .any (Rows.devOrderSpec.pre6 enc Try.prog Try.f3 Rows.devOrderRow.domain false) (Rows.devOrderSpec.post enc Try.prog Try.f3 false true false false) := by
  refine returnsInHanded_of_change (C := Try.checked) own started (by kernel_rfl) Try.func3
    (ChangeSpec.witness6 (enc := enc) (C := Try.checked) false ⟨#[], #[.slice none 0 0, .slice none 0 0], []⟩ 8 (by kernel_rfl) (by kernel_rfl) (by kernel_rfl) (by kernel_rfl)) ?_
  intro W base args ds gs before hval0 hW hcnd _
  have hval : ∀ (j : Nat) t v, Try.f3.params[j]? = some t → args[j]? = some v → Value.okWide Try.prog W .any base t v := hval0
  have hW' := hW
  obtain ⟨p, q, hA0, hV, rfl, hfz, hnd⟩ := hW
  have hA : DataW.TrodAll enc Try.prog W 0 (fun _ => true) true Try.f3.params.toList args.toList ds p := hA0
  rw [Try.params3] at hA hval
  obtain ⟨v0, vs0, d0, ds0, p0, q0, hargs, rfl, rfl, h0, r0⟩ := trodAll_cons hA
  obtain ⟨v1, vs1, d1, ds1, p1, q1, rfl, rfl, rfl, h1, r1⟩ := trodAll_cons r0
  obtain ⟨rfl, rfl, rfl⟩ := trodAll_nil r1
  obtain rfl : args = #[v0, v1] := by cases args; simp_all
  obtain ⟨rfl, rfl⟩ := trodVars_none hV
  have k0 := h0
  have lt0 : ∀ x ∈ p0, x.block < W.heap.size := by obtain ⟨m, hm⟩ := k0; exact DataW.trod_lt m _ _ _ hm
  obtain ⟨a0, len0, cap0, rfl⟩ := okWide_slice Try.underlying22 (hval 0 22 v0 rfl rfl)
  obtain ⟨fuel0, hf0⟩ := h0
  obtain ⟨x0, fp0, w0, wn0, wl0, wc0⟩ := open_reads_intc (enc := enc) (P := Try.prog) Try.underlying22 Try.underlying5 (by kernel_rfl) (by simpa [Value.cells] using hf0)
  have k1 := h1
  have lt1 : ∀ x ∈ p1, x.block < W.heap.size := by obtain ⟨m, hm⟩ := k1; exact DataW.trod_lt m _ _ _ hm
  obtain ⟨a1, len1, cap1, rfl⟩ := okWide_slice Try.underlying23 (hval 1 23 v1 rfl rfl)
  obtain ⟨fuel1, hf1⟩ := h1
  obtain ⟨x1, fp1, w1, wn1, wl1⟩ := open_reads_bools (enc := enc) (P := Try.prog) Try.underlying23 Try.underlying4 (by kernel_rfl) (by simpa [Value.cells] using hf1)
  clear hA0 hval0
  refine (walk a0 len0 cap0 x0 fp0 a1 len1 cap1 x1 fp1 W w0 wn0 wl0 wc0 w1 wn1 wl1).mono fun e W' ⟨he, bel⟩ => ?_
  subst he
  exact ⟨_, rfl, _, _, _, [], _, [], hW', trodAll_mk1 (shut_bool Try.underlying4 _), (trodAll_cons_mk (Below.trod laidOut (by kernel_rfl) (of_decide_eq_true (by kernel_rfl)) k0 bel lt0) (trodAll_cons_mk (Below.trod laidOut (by kernel_rfl) (of_decide_eq_true (by kernel_rfl)) k1 bel lt1) trodAll_mk0)), rfl, bel.frame _, fun h => by cases h⟩

theorem over : Rows.devOrderRow.holds Try.pinned (OpenSpec.ofChange Rows.devOrderSpec) :=
  OpenClaim.holds_of_wide 3 Try.f3 rfl rfl rfl rfl rfl rfl rfl ⟨rfl, rfl, rfl, rfl, rfl⟩ rfl rfl rfl rfl rfl (by kernel_rfl) Try.func3 (by kernel_rfl)
    (of_decide_eq_true (by kernel_rfl)) (by unfold Func.isWrapper; first | (rw [if_pos (by decide +kernel)]; kernel_rfl) | (rw [if_neg (by decide +kernel)]; exact ⟨rfl, rfl⟩))
    (fun os started H enc _ => lifted os started H enc)

theorem proved : Rows.DevOrderSaid := over
#print axioms proved
end Go.Proofs.Ytopeipaeefohlaa.vDevOrder
