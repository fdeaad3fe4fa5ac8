/-
  For every deeds, writes behind them and whatever survives, what lasts is there behind a crash unless a write survives there: heliographlaw07.DevLasts answers true, and the arguments read as before. No condition.
-/
import Derived.Test.YtopeipaeefohlaaRows
import Derived.ProofKit
import Derived.OpenShut
import Derived.ShutString
import Derived.ChangeOld
import Derived.Carry
import Derived.Test.YtopeipaeefohlaaD14
namespace Go.Proofs.Ytopeipaeefohlaa.vDevLasts
open Go.ChangeShapes Go.WideShapes Go.ChangeAt Go.RowKit
open Go.ChangeMaps (open_string shut_string)
set_option linter.unusedVariables false

theorem surv_snoc_none (loose : List Wr) (sv : List Bool) (x : Wr) (h : sv[loose.length]? ≠ some true) : surv (loose ++ [x]) sv = surv loose sv := by
  unfold surv
  rcases Nat.lt_or_ge loose.length sv.length with h1 | h1
  · have e : sv = sv.take loose.length ++ sv.drop loose.length := (List.take_append_drop _ _).symm
    have hd : sv.drop loose.length = sv[loose.length] :: sv.drop (loose.length + 1) := List.drop_eq_getElem_cons h1
    have hf : sv[loose.length] = false := by
      cases hs : sv[loose.length] with
      | false => rfl
      | true => exact absurd (by rw [List.getElem?_eq_getElem h1, hs]) h
    have z1 : (loose ++ [x]).zip sv = loose.zip (sv.take loose.length) ++ [(x, false)] := by
      conv => lhs; rw [e, List.zip_append (by simp; omega), hd, hf]
      simp
    have z2 : loose.zip sv = loose.zip (sv.take loose.length) := by
      conv => lhs; rw [e]
      have := List.zip_append (l₁ := loose) (r₁ := []) (l₂ := sv.take loose.length) (r₂ := sv.drop loose.length) (by simp; omega)
      simpa using this
    rw [z1, z2]
    simp
  · have z1 : (loose ++ [x]).zip sv = loose.zip sv := by
      apply List.ext_getElem
      · simp; omega
      · intro i h2 h3
        simp at h2 h3
        simp [show i < loose.length by omega]
    rw [z1]
theorem surv_snoc_some (loose : List Wr) (sv : List Bool) (x : Wr) (h : sv[loose.length]? = some true) : surv (loose ++ [x]) sv = surv loose sv ++ [x] := by
  unfold surv
  have h1 : loose.length < sv.length := (List.getElem?_eq_some_iff.1 h).1
  have e : sv = sv.take loose.length ++ sv.drop loose.length := (List.take_append_drop _ _).symm
  have hd : sv.drop loose.length = sv[loose.length] :: sv.drop (loose.length + 1) := List.drop_eq_getElem_cons h1
  have hf : sv[loose.length] = true := (List.getElem?_eq_some_iff.1 h).2
  have z1 : (loose ++ [x]).zip sv = loose.zip (sv.take loose.length) ++ [(x, true)] := by
    conv => lhs; rw [e, List.zip_append (by simp; omega), hd, hf]
    simp
  have z2 : loose.zip sv = loose.zip (sv.take loose.length) := by
    conv => lhs; rw [e]
    have := List.zip_append (l₁ := loose) (r₁ := []) (l₂ := sv.take loose.length) (r₂ := sv.drop loose.length) (by simp; omega)
    simpa using this
  rw [z1, z2]
  simp
theorem land_far (ws : List Wr) : ∀ (l : List Sec) (i : Nat), (∀ x ∈ ws, x.i ≠ i) → (land l ws)[i]? = l[i]? := by
  induction ws with
  | nil => intro l i h; rfl
  | cons x r ih =>
    intro l i h
    have h1 := ih (l.set x.i x.s) i (fun y hy => h y (by simp [hy]))
    rw [List.getElem?_set_ne (h x (by simp))] at h1
    exact h1
/-- what was touched. -/
def Touched (tl : List Bool) (ws : List Wr) : Prop := tl.length = 8 ∧ ∀ i, i < 8 → tl[i]? = some (decide (∃ x ∈ ws, x.i = i))
theorem Touched.nil : Touched (List.replicate 8 false) [] := ⟨by simp, fun i hi => by rw [List.getElem?_replicate, if_pos hi]; simp⟩
theorem Touched.snoc {tl : List Bool} {ws : List Wr} (h : Touched tl ws) (x : Wr) (hx : x.i < 8) : Touched (tl.set x.i true) (ws ++ [x]) := by
  refine ⟨by simp [h.1], fun i hi => ?_⟩
  rw [List.getElem?_set]
  split
  · rename_i e
    subst e
    rw [if_pos (by rw [h.1]; exact hx)]
    simp
  · rename_i e
    rw [h.2 i hi]
    simp [e]

/-- between two writes. -/
def Inv (w : World) (bd bw g : Nat) (L : List Sec) (sv : List Bool) (fw : List Nat) (j : Nat) (wr : World) : Prop :=
  ∃ now loose fp tl, DRep wr bd L now loose fp ∧ now.length = 8 ∧ (∀ x ∈ loose, x.i < 8) ∧ loose.length = j ∧ DRep wr bw L L [] fw ∧ Blk wr g 45 (bools tl).toArray ∧ Touched tl (surv loose sv) ∧
    Keeps w wr [] ∧ (∀ k ∈ fp, w.heap.size ≤ k ∧ k ∉ fw ∧ k ≠ g) ∧ g ∉ fw ∧ w.heap.size ≤ g ∧ L.length = 8

/-- a step of the device between two writes. -/
theorem Inv.step {w wr w5 w6 : World} {bd bw g : Nat} {L now' : List Sec} {loose' : List Wr} {tl : List Bool} {fp fp6 fw : List Nat} (hwas : DRep wr bw L L [] fw) (hbt : Blk wr g 45 (bools tl).toArray) (hK : Keeps w wr [])
    (hN : ∀ k ∈ fp, w.heap.size ≤ k ∧ k ∉ fw ∧ k ≠ g) (hgw : g ∉ fw) (hgl : w.heap.size ≤ g) (hL8 : L.length = 8) (hk5 : Keeps wr w5 []) (hd6 : DRep w6 bd L now' loose' fp6) (hk6 : Keeps w5 w6 fp) (hn6 : ∀ k ∈ fp6, k ∈ fp ∨ w5.heap.size ≤ k)
    (hn8 : now'.length = 8) (hw8 : ∀ x ∈ loose', x.i < 8) :
    DRep w6 bw L L [] fw ∧ Blk w6 g 45 (bools tl).toArray ∧ Keeps w w6 [] ∧ (∀ k ∈ fp6, w.heap.size ≤ k ∧ k ∉ fw ∧ k ≠ g) := by
  have hwl := hwas.lt
  have hgl' := hbt.lt
  have s5 := hk5.size
  have sK := hK.size
  refine ⟨(hwas.nil hk5).keeps hk6 (fun k h1 h2 => (hN k h2).2.1 h1), (hbt.keeps hk5 (by simp)).keeps hk6 (fun h => (hN g h).2.2 rfl), (hK.trans hk5 (by simp)).trans hk6 (fun i hi h => by have := (hN i h).1; omega), fun k hk => ?_⟩
  rcases hn6 k hk with h | h
  · exact hN k h
  · exact ⟨by omega, fun h2 => by have := hwl k h2; omega, by omega⟩

set_option maxHeartbeats 2000000 in
theorem walk (A : Option Addr) (n c : Nat) (ds : List DeedD) (B : Option Addr) (m c2 : Nat) (es : List DeedD) (S : Option Addr) (ms c3 : Nat) (sv : List Bool) (fS : List Nat) (w : World) (hd : DDeeds w A n ds) (he : DDeeds w B m es)
    (hs : Reads w 1 S ms (sv.map Value.bool) fS) (hsn : sv.length = ms) (hsl : ms ≤ maxLen) :
    Calls Try.prog 6 #[.slice A n c, .slice B m c2, .slice S ms c3] w fun e w' => e = .returned (.bool true) ∧ Below w.heap.size w w' := by
  subst hsn
  have H0 := Lib.hid (play_calls 7 (by omega) A n c ds w hd)
  have HE := Lib.hid (And.intro he (And.intro hs hsl))
  clear hd he hs hsl
  go_enter Try.func6, Try.ntmps6
  go_wp2_with fail
  refine H0.out.mono ?_
  rintro e w1 ⟨bd, br, rfl, hF⟩
  have H1 := Lib.hid hF; clear hF H0
  go_wp2_with fail
  refine (dlive_calls w1).mono ?_
  rintro e w2 ⟨rfl, hk2⟩
  obtain ⟨l, loose, fd, fr, hB, hl8, hm, hK, hN⟩ := H1.out.nil hk2
  have H2 := Lib.hid (And.intro hB (And.intro hK (And.intro hm (And.intro hl8 hN)))); clear hB hK hk2 hN H1 hl8 hm
  go_wp2_with fail
  refine (sync_ok bd l _ loose fd w2 H2.out.1.d H2.out.1.small (by have := H2.out.2.2.1; omega) H2.out.1.wi).mono ?_
  rintro e w3 ⟨fd3, rfl, hd3, hk3, hn3⟩
  have hK3 : Keeps w w3 [] := H2.out.2.1.trans hk3 (fun i hi h => by have := H2.out.2.2.2.2 i (by simp [h]); omega)
  have hN3 : ∀ k ∈ fd3, w.heap.size ≤ k := fun k hk => by
    rcases hn3 k hk with h | h
    · exact H2.out.2.2.2.2 k (by simp [h])
    · have := H2.out.2.1.size; omega
  obtain ⟨L, hL⟩ : ∃ L, L = land l loose := ⟨_, rfl⟩
  rw [← hL] at hd3
  have hL8 : L.length = 8 := by rw [hL, land_length]; exact H2.out.2.2.2.1
  have H3 := Lib.hid (And.intro hd3 (And.intro hK3 (And.intro hN3 hL8))); clear hd3 hk3 hn3 hK3 hN3 hL hL8
  go_wp2_with fail
  refine (fork_ok bd L L [] fd3 w3 H3.out.1 (by have := H3.out.2.2.2; omega) (by have := H3.out.2.2.2; omega) (by simp)).mono ?_
  rintro e w4 ⟨bw, fw, rfl, hw4, hk4, hn4⟩
  have hI : Inv w bd bw w4.heap.size L sv fw 0 (w4.alloc (.cells #[.bool false, .bool false, .bool false, .bool false, .bool false, .bool false, .bool false, .bool false] 45)) := by
    have hlw := hw4.lt
    have hd4 := H3.out.1.nil hk4
    have hld := hd4.lt
    have hl3 := H3.out.1.lt
    have s4 := hk4.size
    have s3 := H3.out.2.1.size
    refine ⟨L, [], fd3, List.replicate 8 false, hd4.nil ((Keeps.refl w4 []).alloc _), H3.out.2.2.2, by simp, rfl, hw4.nil ((Keeps.refl w4 []).alloc _), Blk.new w4 _ _, Touched.nil, (H3.out.2.1.trans hk4 (by simp)).alloc _, fun k hk => ⟨H3.out.2.2.1 k hk, fun h => ?_, fun h => ?_⟩, fun h => ?_, by omega, H3.out.2.2.2⟩
    · have := hn4 k h; have := hl3 k hk; omega
    · have := hld k hk; omega
    · have := hlw _ h; omega
  have HI := Lib.hid hI; clear hI hw4 hk4 hn4
  go_wp2_with fail
  go_loopw [13, 12] (fun i v wr => ∃ k j : Nat, k ≤ m ∧ k ≤ 40 ∧ j ≤ k ∧ i = .int .i64 k ∧ v = .int .i64 j ∧ Inv w bd bw w4.heap.size L sv fw j wr) (fun i _ _ => m - (intOf i).toNat)
  case atStart => exact ⟨0, 0, by omega, by omega, by omega, rfl, rfl, HI.out⟩
  case round =>
    obtain ⟨k, j, hk, hk40, hj, rfl, rfl, hI⟩ := hrel
    have HJ := Lib.hid (And.intro hI (And.intro hk (And.intro hk40 hj))); clear hI hk hk40 hj
    by_cases hgo : k < m ∧ (k : Int) < 40
    · obtain ⟨hlt, h40⟩ := hgo
      obtain ⟨now, loose1, fp, tl, hd, hn8, hw8, hlj, hwas, hbt, htl, hK, hN, hgw, hgl, hL8⟩ := HJ.out.1
      obtain ⟨b, o, d, rfl, hb, -, a0, a1, a2, -⟩ := HE.out.1.at_ hlt
      have c1 := (hK.cell (p := ⟨b, o + k * 4 + 1, none⟩) hb (by simp)).trans a1
      have c2 := (hK.cell (p := ⟨b, o + k * 4 + 2, none⟩) hb (by simp)).trans a2
      have hbfp : b ∉ fp := fun h => by have := (hN b h).1; omega
      have g1 : (0 : Int) ≤ (k : Int) := by omega
      have g2 : (k : Int) < (m : Int) := by omega
      have HV := Lib.hid (And.intro hd (And.intro hwas (And.intro hbt (And.intro htl (And.intro hK (And.intro hN (And.intro hgw (And.intro hgl (And.intro hn8 (And.intro hw8 (And.intro hlj (And.intro hL8 (And.intro a1 a2)))))))))))))
      clear hd hwas hbt htl hK hN hgw hgl hn8 hw8 hlj hL8 a0 a1 a2
      have hl40 : loose1.length ≤ 40 := by have := HV.out.2.2.2.2.2.2.2.2.2.2.1; have := HJ.out.2; omega
      by_cases hin : 0 ≤ d.i ∧ d.i < 8
      · obtain ⟨q, hq⟩ := Int.eq_ofNat_of_zero_le hin.1
        have hq8 : q < 8 := by omega
        have y1 : (0 : Int) ≤ (q : Int) := by omega
        have y2 : (q : Int) < 8 := by omega
        rw [hq] at c1
        go_upto_region 11 with (fail)
        go_region_held3 (fun w' => w'.cell? ⟨b, o + k * 4 + 1, none⟩ = some (.int .i64 (q : Int)) ∧ w'.cell? ⟨b, o + k * 4 + 2, none⟩ = some (.int .u8 d.c)) (go_keep)
          (first
            | (go_at_call 12
               refine (sector_calls d.c wr.drew).mono ?_
               rintro e w5 ⟨rfl, K5⟩
               have d1 : w5.cell? ⟨b, o + k * 4 + 1, none⟩ = some (.int .i64 (q : Int)) := ((HV.out.2.2.2.2.1.drew.trans K5 (by simp)).cell (p := ⟨b, o + k * 4 + 1, none⟩) hb (by simp)).trans (by rw [← hq]; exact HV.out.2.2.2.2.2.2.2.2.2.2.2.2.1)
               have d2 : w5.cell? ⟨b, o + k * 4 + 2, none⟩ = some (.int .u8 d.c) := ((HV.out.2.2.2.2.1.drew.trans K5 (by simp)).cell (p := ⟨b, o + k * 4 + 2, none⟩) hb (by simp)).trans HV.out.2.2.2.2.2.2.2.2.2.2.2.2.2)
            | (go_at_call 11
               refine (write_ok bd L now loose1 fp w5 q (Sec.all d.c) ((HV.out.1.nil (Keeps.refl wr []).drew).nil K5) (by have := HV.out.2.2.2.2.2.2.2.2.1; omega) (by have := HV.out.2.2.2.2.2.2.2.2.1; omega) (by omega)).mono ?_
               rintro e w6 ⟨fp6, rfl, hd6, hk6, hn6⟩
               have K6 : Keeps w w6 [] := (HV.out.2.2.2.2.1.drew.trans K5 (by simp)).trans hk6 (fun i hi h => by have := (HV.out.2.2.2.2.2.1 i h).1; omega)
               have d3 : w6.cell? ⟨b, o + k * 4 + 1, none⟩ = some (.int .i64 (q : Int)) := (K6.cell (p := ⟨b, o + k * 4 + 1, none⟩) hb (by simp)).trans (by rw [← hq]; exact HV.out.2.2.2.2.2.2.2.2.2.2.2.2.1)
               have d4 : w6.cell? ⟨b, o + k * 4 + 2, none⟩ = some (.int .u8 d.c) := (K6.cell (p := ⟨b, o + k * 4 + 2, none⟩) hb (by simp)).trans HV.out.2.2.2.2.2.2.2.2.2.2.2.2.2))
        all_goals
          obtain ⟨hd, hwas, hbt, htl, hK, hN, hgw, hgl, hn8, hw8, hlj, hL8, -, -⟩ := HV.out
          obtain ⟨q1, q2, q3, q4⟩ := Inv.step hwas hbt hK hN hgw hgl hL8 (((Keeps.refl wr []).drew).trans K5 (by simp)) hd6 hk6 hn6 (by simp [hn8]) (fun x hx => by
            rcases List.mem_append.1 hx with h | h
            · exact hw8 x h
            · simp at h; subst h; exact hq8)
          have hq9 : q < tl.length := by rw [htl.1]; exact hq8
          have ct : w6.cell? ⟨w4.heap.size, q, none⟩ = some (.bool tl[q]) := by rw [q2.cell]; simp [bools, hq9]
          have ft := q2.frozen q
          have hS6 := HE.out.2.1.keeps q3 (by simp)
          have HY := Lib.hid (And.intro hd6 (And.intro q1 (And.intro q2 (And.intro q3 (And.intro q4 (And.intro htl (And.intro hgw (And.intro hgl (And.intro hw8 hn8)))))))))
          have hj0 : (0 : Int) ≤ (j : Int) := by omega
          clear hd hwas hbt htl hK hN hgw hgl hn8 hw8 hL8 hd6 q1 q2 q3 q4 hk6 hn6 K5 K6
          cases hsj : sv[j]? with
          | none =>
            have g3 : (sv.length : Int) ≤ (j : Int) := by have := List.getElem?_eq_none_iff.1 hsj; omega
            have HS := Lib.hid hsj
            clear hsj hS6
            go_wp2_with fail
            go_roundw
            case rel =>
              obtain ⟨hd6, q1, q2, q3, q4, htl, hgw, hgl, hw8, hn8⟩ := HY.out
              refine ⟨k + 1, j + 1, by omega, by omega, by have := HJ.out.2.2.2; omega, by go_num, by go_num, now.set q (Sec.all d.c), loose1 ++ [⟨q, Sec.all d.c⟩], fp6, tl, hd6, by simp [hn8], fun x hx => ?_, by simp [hlj], q1, q2, ?_, q3, q4, hgw, hgl, H3.out.2.2.2⟩
              · rcases List.mem_append.1 hx with h | h
                · exact hw8 x h
                · simp at h; subst h; exact hq8
              · rw [surv_snoc_none _ _ _ (by rw [hlj, HS.out]; simp)]
                exact htl
            case measure => simp [intOf]; omega
          | some s =>
            have hjs := (List.getElem?_eq_some_iff.1 hsj).1
            have g3 : (j : Int) < (sv.length : Int) := by omega
            obtain ⟨z5, o5, u5, rfl, -, -, h5, cs⟩ := hS6.cellAt hjs
            obtain rfl : u5 = .bool s := by
              rw [List.getElem?_map, hsj] at h5
              simpa using h5.symm
            have HS := Lib.hid hsj
            clear hsj hS6 h5
            cases s with
            | false =>
              go_wp2_with fail
              go_roundw
              case rel =>
                obtain ⟨hd6, q1, q2, q3, q4, htl, hgw, hgl, hw8, hn8⟩ := HY.out
                refine ⟨k + 1, j + 1, by omega, by omega, by have := HJ.out.2.2.2; omega, by go_num, by go_num, now.set q (Sec.all d.c), loose1 ++ [⟨q, Sec.all d.c⟩], fp6, tl, hd6, by simp [hn8], fun x hx => ?_, by simp [hlj], q1, q2, ?_, q3, q4, hgw, hgl, H3.out.2.2.2⟩
                · rcases List.mem_append.1 hx with h | h
                  · exact hw8 x h
                  · simp at h; subst h; exact hq8
                · rw [surv_snoc_none _ _ _ (by rw [hlj, HS.out]; simp)]
                  exact htl
              case measure => simp [intOf]; omega
            | true =>
              go_wp2_with fail
              go_roundw
              case rel =>
                obtain ⟨hd6, q1, q2, q3, q4, htl, hgw, hgl, hw8, hn8⟩ := HY.out
                have hkg : Keeps w6 (w6.setCell ⟨w4.heap.size, q, none⟩ (.bool true)) [w4.heap.size] := (Keeps.refl w6 _).setCell (.inl (by simp)) _
                have hb7 : Blk (w6.setCell ⟨w4.heap.size, q, none⟩ (.bool true)) w4.heap.size 45 (bools (tl.set q true)).toArray := by
                  have := q2.set_ q (.bool true)
                  simpa [bools, List.map_set] using this
                refine ⟨k + 1, j + 1, by omega, by omega, by have := HJ.out.2.2.2; omega, by go_num, by go_num, now.set q (Sec.all d.c), loose1 ++ [⟨q, Sec.all d.c⟩], fp6, tl.set q true, hd6.keeps hkg (fun i hi h => (q4 i hi).2.2 (by simpa using h)), by simp [hn8], fun x hx => ?_, by simp [hlj], q1.keeps hkg (fun i hi h => hgw (by simp at h; rw [← h]; exact hi)), hb7, ?_, q3.setCell (.inr hgl) _, q4, hgw, hgl, H3.out.2.2.2⟩
                · rcases List.mem_append.1 hx with h | h
                  · exact hw8 x h
                  · simp at h; subst h; exact hq8
                · rw [surv_snoc_some _ _ _ (by rw [hlj, HS.out])]
                  exact htl.snoc ⟨q, Sec.all d.c⟩ hq8
              case measure => simp [intOf]; omega
      · go_upto_region 11 with (fail)
        go_region_held3 (fun w' => w'.cell? ⟨b, o + k * 4 + 1, none⟩ = some (.int .i64 d.i) ∧ w'.cell? ⟨b, o + k * 4 + 2, none⟩ = some (.int .u8 d.c)) (go_keep)
          (first
            | (go_at_call 12
               refine (sector_calls d.c wr.drew).mono ?_
               rintro e w5 ⟨rfl, K5⟩
               have d1 : w5.cell? ⟨b, o + k * 4 + 1, none⟩ = some (.int .i64 d.i) := ((HV.out.2.2.2.2.1.drew.trans K5 (by simp)).cell (p := ⟨b, o + k * 4 + 1, none⟩) hb (by simp)).trans HV.out.2.2.2.2.2.2.2.2.2.2.2.2.1
               have d2 : w5.cell? ⟨b, o + k * 4 + 2, none⟩ = some (.int .u8 d.c) := ((HV.out.2.2.2.2.1.drew.trans K5 (by simp)).cell (p := ⟨b, o + k * 4 + 2, none⟩) hb (by simp)).trans HV.out.2.2.2.2.2.2.2.2.2.2.2.2.2)
            | (go_at_call 11
               refine (write_range bd L now loose1 fp w5 d.i (Sec.all d.c) ((HV.out.1.nil (Keeps.refl wr []).drew).nil K5) (by have := HV.out.2.2.2.2.2.2.2.2.1; omega) (by have := HV.out.2.2.2.2.2.2.2.2.1; omega)).mono ?_
               rintro e w6 ⟨fp6, rfl, hd6, hk6, hn6⟩
               have K6 : Keeps w w6 [] := (HV.out.2.2.2.2.1.drew.trans K5 (by simp)).trans hk6 (fun i hi h => by have := (HV.out.2.2.2.2.2.1 i h).1; omega)
               have d3 : w6.cell? ⟨b, o + k * 4 + 1, none⟩ = some (.int .i64 d.i) := (K6.cell (p := ⟨b, o + k * 4 + 1, none⟩) hb (by simp)).trans HV.out.2.2.2.2.2.2.2.2.2.2.2.2.1
               have d4 : w6.cell? ⟨b, o + k * 4 + 2, none⟩ = some (.int .u8 d.c) := (K6.cell (p := ⟨b, o + k * 4 + 2, none⟩) hb (by simp)).trans HV.out.2.2.2.2.2.2.2.2.2.2.2.2.2))
        all_goals
          go_wp2_with fail
          go_roundw
          case rel =>
            obtain ⟨hd, hwas, hbt, htl, hK, hN, hgw, hgl, hn8, hw8, hlj, hL8, -, -⟩ := HV.out
            obtain ⟨q1, q2, q3, q4⟩ := Inv.step hwas hbt hK hN hgw hgl hL8 (((Keeps.refl wr []).drew).trans K5 (by simp)) hd6 hk6 hn6 hn8 hw8
            exact ⟨k + 1, j, by omega, by omega, by have := HJ.out.2.2.2; omega, by go_num, rfl, now, loose1, fp6, tl, hd6, hn8, hw8, hlj, q1, q2, htl, q3, q4, hgw, hgl, hL8⟩
          case measure => simp [intOf]; omega
    · obtain ⟨now, loose1, fp, tl, hd, hn8, hw8, rfl, hwas, hbt, htl, hK, hN, hgw, hgl, hL8⟩ := HJ.out.1
      have hl40 : loose1.length ≤ 40 := by have := HJ.out.2; omega
      have HV := Lib.hid (And.intro hd (And.intro hwas (And.intro hbt (And.intro htl (And.intro hK (And.intro hN (And.intro hgw (And.intro hgl (And.intro hn8 (And.intro hw8 hL8))))))))))
      have HC := Lib.hid (crash_ok S c3 sv fS bd L now loose1 fp wr hd (HE.out.2.1.keeps hK (by simp)) HE.out.2.2 (fun i h1 h2 => by have := HE.out.2.1.lt i h1; have := (hN i h2).1; omega) (by omega) (by omega) (fun x hx => by rw [hL8]; exact hw8 x hx))
      clear hd hwas hbt htl hK hN hgw hgl hn8 hw8 hL8
      have REST : True := trivial
      by_cases hlt : k < m
      · have hc40 : ((k : Int) < 40) = False := by simp; omega
        clear hgo
        go_wp2_with fail
        refine (pending_calls bd L now loose1 fp wr HV.out.1).mono ?_
        rintro e w5 ⟨rfl, rfl⟩
        go_wp2_with fail
        refine HC.out.mono ?_
        rintro e w6 ⟨fp6, rfl, hd6, hk6, hn6⟩
        obtain ⟨hd, hwas, hbt, htl, hK, hN, hgw, hgl, hn8, hw8, hL8⟩ := HV.out
        have hwas6 := hwas.keeps hk6 (fun i h1 h2 => (hN i h2).2.1 h1)
        have hbt6 := hbt.keeps hk6 (fun h => (hN _ h).2.2 rfl)
        have K6 : Keeps w w6 [] := hK.trans hk6 (fun i hi h => by have := (hN i h).1; omega)
        have H6 := Lib.hid (And.intro hd6 (And.intro hwas6 (And.intro hbt6 (And.intro K6 (And.intro htl hL8)))))
        clear hd hwas hbt htl hK hN hgw hgl hn8 hw8 hL8 hd6 hk6 hn6 hwas6 hbt6 K6 HC
        go_wp2_with fail
        refine (pending_calls bd _ _ [] fp6 w6 H6.out.1).mono ?_
        rintro e w7 ⟨rfl, rfl⟩
        go_wp2_with fail
        go_loopw [14] (fun i wx => ∃ q : Nat, q ≤ 8 ∧ i = .int .i64 q ∧ Keeps w6 wx []) (fun i _ => 8 - (intOf i).toNat)
        case atStart => exact ⟨0, by omega, rfl, Keeps.refl _ _⟩
        case round =>
          obtain ⟨q, hq, rfl, hKx⟩ := hrel
          by_cases hq8 : q < 8
          · have y1 : (0 : Int) ≤ (q : Int) := by omega
            have y2 : (q : Int) < 8 := by omega
            obtain ⟨s, hs⟩ : ∃ s, L[q]? = some s := ⟨_, List.getElem?_eq_getElem (by rw [H6.out.2.2.2.2.2]; exact hq8)⟩
            obtain ⟨r, hr⟩ : ∃ r, (land L (surv loose1 sv))[q]? = some r := ⟨_, List.getElem?_eq_getElem (by rw [land_length, H6.out.2.2.2.2.2]; exact hq8)⟩
            have htq := H6.out.2.2.2.2.1.2 q hq8
            have HX := Lib.hid (And.intro hKx (And.intro hs (And.intro hr htq)))
            clear hKx hs hr htq
            go_wp2_with fail
            refine (read_ok bw L L [] fw _ q s (H6.out.2.1.nil HX.out.1) HX.out.2.1 (by have := H6.out.2.2.2.2.2; omega)).mono ?_
            rintro e w8 ⟨rfl, hk8⟩
            have HK8 := Lib.hid (HX.out.1.trans hk8 (by simp)); clear hk8
            have hm8 := may_new w8 29
            have hb9 := blk_stored w8 29 s
            have hk9 := keeps_stored HK8.out 29 Sec.zero.cells s.cells HK8.out.size
            have H9 := Lib.hid (And.intro hb9 hk9); clear hb9 hk9
            go_wp2_with fail
            refine (read_ok bd _ _ [] fp6 _ q r (H6.out.1.nil H9.out.2) HX.out.2.2.1 (by rw [land_length]; have := H6.out.2.2.2.2.2; omega)).mono ?_
            rintro e w10 ⟨rfl, hk10⟩
            have hb10 := H9.out.1.keeps hk10 (by simp)
            have hK10 := H9.out.2.trans hk10 (by simp)
            have hm10 := may_new w10 29
            have hb11 := blk_stored w10 29 r
            have hk11 := keeps_stored (Keeps.refl w10 []) 29 Sec.zero.cells r.cells (Nat.le_refl _)
            obtain ⟨r1, r2⟩ := row_of_range (hb10.keeps hk11 (by simp)).whole s.cells_length
            obtain ⟨r3, r4⟩ := row_of_range hb11.whole r.cells_length
            have ct := (H6.out.2.2.1.keeps (hK10.trans hk11 (by simp)) (by simp)).cell q
            have hKK := Lib.hid (hK10.trans hk11 (by simp))
            have hbq : (bools tl).toArray[q]? = some (.bool (decide (∃ x ∈ surv loose1 sv, x.i = q))) := by simp [bools, HX.out.2.2.2]
            rw [hbq] at ct
            clear hbq hb10 hK10 hb11 hk11 hk10
            by_cases hto : ∃ x ∈ surv loose1 sv, x.i = q
            · rw [decide_eq_true hto] at ct
              clear hto
              go_wp2_with fail
              go_roundw
              case rel => exact ⟨q + 1, by omega, by go_num, hKK.out⟩
              case measure => simp [intOf]; omega
            · rw [decide_eq_false hto] at ct
              obtain rfl : s = r := by
                have h9 := land_far (surv loose1 sv) L q (fun x hx h => hto ⟨x, hx, h⟩)
                rw [HX.out.2.2.1, HX.out.2.1] at h9
                exact (Option.some.inj h9).symm
              clear hto
              go_wp2_with fail
              go_roundw
              case rel => exact ⟨q + 1, by omega, by go_num, hKK.out⟩
              case measure => simp [intOf]; omega
          · obtain rfl : q = 8 := by omega
            have HKx := Lib.hid hKx
            clear hKx
            go_wp2_with fail
            go_ret
            exact ⟨rfl, (H6.out.2.2.2.1.trans HKx.out (by simp)).below (Nat.le_refl _) (by simp)⟩
      · clear hgo
        go_wp2_with fail
        refine (pending_calls bd L now loose1 fp wr HV.out.1).mono ?_
        rintro e w5 ⟨rfl, rfl⟩
        go_wp2_with fail
        refine HC.out.mono ?_
        rintro e w6 ⟨fp6, rfl, hd6, hk6, hn6⟩
        obtain ⟨hd, hwas, hbt, htl, hK, hN, hgw, hgl, hn8, hw8, hL8⟩ := HV.out
        have hwas6 := hwas.keeps hk6 (fun i h1 h2 => (hN i h2).2.1 h1)
        have hbt6 := hbt.keeps hk6 (fun h => (hN _ h).2.2 rfl)
        have K6 : Keeps w w6 [] := hK.trans hk6 (fun i hi h => by have := (hN i h).1; omega)
        have H6 := Lib.hid (And.intro hd6 (And.intro hwas6 (And.intro hbt6 (And.intro K6 (And.intro htl hL8)))))
        clear hd hwas hbt htl hK hN hgw hgl hn8 hw8 hL8 hd6 hk6 hn6 hwas6 hbt6 K6 HC
        go_wp2_with fail
        refine (pending_calls bd _ _ [] fp6 w6 H6.out.1).mono ?_
        rintro e w7 ⟨rfl, rfl⟩
        go_wp2_with fail
        go_loopw [14] (fun i wx => ∃ q : Nat, q ≤ 8 ∧ i = .int .i64 q ∧ Keeps w6 wx []) (fun i _ => 8 - (intOf i).toNat)
        case atStart => exact ⟨0, by omega, rfl, Keeps.refl _ _⟩
        case round =>
          obtain ⟨q, hq, rfl, hKx⟩ := hrel
          by_cases hq8 : q < 8
          · have y1 : (0 : Int) ≤ (q : Int) := by omega
            have y2 : (q : Int) < 8 := by omega
            obtain ⟨s, hs⟩ : ∃ s, L[q]? = some s := ⟨_, List.getElem?_eq_getElem (by rw [H6.out.2.2.2.2.2]; exact hq8)⟩
            obtain ⟨r, hr⟩ : ∃ r, (land L (surv loose1 sv))[q]? = some r := ⟨_, List.getElem?_eq_getElem (by rw [land_length, H6.out.2.2.2.2.2]; exact hq8)⟩
            have htq := H6.out.2.2.2.2.1.2 q hq8
            have HX := Lib.hid (And.intro hKx (And.intro hs (And.intro hr htq)))
            clear hKx hs hr htq
            go_wp2_with fail
            refine (read_ok bw L L [] fw _ q s (H6.out.2.1.nil HX.out.1) HX.out.2.1 (by have := H6.out.2.2.2.2.2; omega)).mono ?_
            rintro e w8 ⟨rfl, hk8⟩
            have HK8 := Lib.hid (HX.out.1.trans hk8 (by simp)); clear hk8
            have hm8 := may_new w8 29
            have hb9 := blk_stored w8 29 s
            have hk9 := keeps_stored HK8.out 29 Sec.zero.cells s.cells HK8.out.size
            have H9 := Lib.hid (And.intro hb9 hk9); clear hb9 hk9
            go_wp2_with fail
            refine (read_ok bd _ _ [] fp6 _ q r (H6.out.1.nil H9.out.2) HX.out.2.2.1 (by rw [land_length]; have := H6.out.2.2.2.2.2; omega)).mono ?_
            rintro e w10 ⟨rfl, hk10⟩
            have hb10 := H9.out.1.keeps hk10 (by simp)
            have hK10 := H9.out.2.trans hk10 (by simp)
            have hm10 := may_new w10 29
            have hb11 := blk_stored w10 29 r
            have hk11 := keeps_stored (Keeps.refl w10 []) 29 Sec.zero.cells r.cells (Nat.le_refl _)
            obtain ⟨r1, r2⟩ := row_of_range (hb10.keeps hk11 (by simp)).whole s.cells_length
            obtain ⟨r3, r4⟩ := row_of_range hb11.whole r.cells_length
            have ct := (H6.out.2.2.1.keeps (hK10.trans hk11 (by simp)) (by simp)).cell q
            have hKK := Lib.hid (hK10.trans hk11 (by simp))
            have hbq : (bools tl).toArray[q]? = some (.bool (decide (∃ x ∈ surv loose1 sv, x.i = q))) := by simp [bools, HX.out.2.2.2]
            rw [hbq] at ct
            clear hbq hb10 hK10 hb11 hk11 hk10
            by_cases hto : ∃ x ∈ surv loose1 sv, x.i = q
            · rw [decide_eq_true hto] at ct
              clear hto
              go_wp2_with fail
              go_roundw
              case rel => exact ⟨q + 1, by omega, by go_num, hKK.out⟩
              case measure => simp [intOf]; omega
            · rw [decide_eq_false hto] at ct
              obtain rfl : s = r := by
                have h9 := land_far (surv loose1 sv) L q (fun x hx h => hto ⟨x, hx, h⟩)
                rw [HX.out.2.2.1, HX.out.2.1] at h9
                exact (Option.some.inj h9).symm
              clear hto
              go_wp2_with fail
              go_roundw
              case rel => exact ⟨q + 1, by omega, by go_num, hKK.out⟩
              case measure => simp [intOf]; omega
          · obtain rfl : q = 8 := by omega
            have HKx := Lib.hid hKx
            clear hKx
            go_wp2_with fail
            go_ret
            exact ⟨rfl, (H6.out.2.2.2.1.trans HKx.out (by simp)).below (Nat.le_refl _) (by simp)⟩

/-! ### the row (its frame is printed by gen.py; the walk is above) -/
theorem own : ownKnob Try.prog.godebug = none := by kernel_rfl
theorem laidOut : laidOutB Try.prog = true := by kernel_rfl
set_option maxRecDepth 100000 in
theorem lifted (os : Os) (started : os.Started) (H : Type) (enc : TypeId × Value → H) :
    ReturnsInHanded {} Try.checked os 6 .any (Rows.devLastsSpec.pre6 enc Try.prog Try.f6 Rows.devLastsRow.domain false) (Rows.devLastsSpec.post enc Try.prog Try.f6 false true false false) := by
  refine returnsInHanded_of_change (C := Try.checked) own started (by kernel_rfl) Try.func6
    (ChangeSpec.witness6 (enc := enc) (C := Try.checked) false ⟨#[], #[.slice none 0 0, .slice none 0 0, .slice none 0 0], []⟩ 8 (by kernel_rfl) (by kernel_rfl) (by kernel_rfl) (by kernel_rfl)) ?_
  intro W base args ds gs before hval0 hW hcnd _
  have hval : ∀ (j : Nat) t v, Try.f6.params[j]? = some t → args[j]? = some v → Value.okWide Try.prog W .any base t v := hval0
  have hW' := hW
  obtain ⟨p, q, hA0, hV, rfl, hfz, hnd⟩ := hW
  have hA : DataW.TrodAll enc Try.prog W 0 (fun _ => true) true Try.f6.params.toList args.toList ds p := hA0
  rw [Try.params6] at hA hval
  obtain ⟨v0, vs0, d0, ds0, p0, q0, hargs, rfl, rfl, h0, r0⟩ := trodAll_cons hA
  obtain ⟨v1, vs1, d1, ds1, p1, q1, rfl, rfl, rfl, h1, r1⟩ := trodAll_cons r0
  obtain ⟨v2, vs2, d2, ds2, p2, q2, rfl, rfl, rfl, h2, r2⟩ := trodAll_cons r1
  obtain ⟨rfl, rfl, rfl⟩ := trodAll_nil r2
  obtain rfl : args = #[v0, v1, v2] := by cases args; simp_all
  obtain ⟨rfl, rfl⟩ := trodVars_none hV
  have k0 := h0
  have lt0 : ∀ x ∈ p0, x.block < W.heap.size := by obtain ⟨m, hm⟩ := k0; exact DataW.trod_lt m _ _ _ hm
  obtain ⟨a0, len0, cap0, rfl⟩ := okWide_slice Try.underlying36 (hval 0 36 v0 rfl rfl)
  obtain ⟨fuel0, hf0⟩ := h0
  obtain ⟨x0, w0⟩ := open_ddeeds (by simpa [Value.cells] using hf0)
  have k1 := h1
  have lt1 : ∀ x ∈ p1, x.block < W.heap.size := by obtain ⟨m, hm⟩ := k1; exact DataW.trod_lt m _ _ _ hm
  obtain ⟨a1, len1, cap1, rfl⟩ := okWide_slice Try.underlying36 (hval 1 36 v1 rfl rfl)
  obtain ⟨fuel1, hf1⟩ := h1
  obtain ⟨x1, w1⟩ := open_ddeeds (by simpa [Value.cells] using hf1)
  have k2 := h2
  have lt2 : ∀ x ∈ p2, x.block < W.heap.size := by obtain ⟨m, hm⟩ := k2; exact DataW.trod_lt m _ _ _ hm
  obtain ⟨a2, len2, cap2, rfl⟩ := okWide_slice Try.underlying23 (hval 2 23 v2 rfl rfl)
  obtain ⟨fuel2, hf2⟩ := h2
  obtain ⟨x2, fp2, w2, wn2, wl2⟩ := open_reads_bools (enc := enc) (P := Try.prog) Try.underlying23 Try.underlying4 (by kernel_rfl) (by simpa [Value.cells] using hf2)
  clear hA0 hval0
  refine (walk a0 len0 cap0 x0 a1 len1 cap1 x1 a2 len2 cap2 x2 fp2 W w0 w1 w2 wn2 wl2).mono fun e W' ⟨he, bel⟩ => ?_
  subst he
  exact ⟨_, rfl, _, _, _, [], _, [], hW', trodAll_mk1 (shut_bool Try.underlying4 _), (trodAll_cons_mk (Below.trod laidOut (by kernel_rfl) (of_decide_eq_true (by kernel_rfl)) k0 bel lt0) (trodAll_cons_mk (Below.trod laidOut (by kernel_rfl) (of_decide_eq_true (by kernel_rfl)) k1 bel lt1) (trodAll_cons_mk (Below.trod laidOut (by kernel_rfl) (of_decide_eq_true (by kernel_rfl)) k2 bel lt2) trodAll_mk0))), rfl, bel.frame _, fun h => by cases h⟩

theorem over : Rows.devLastsRow.holds Try.pinned (OpenSpec.ofChange Rows.devLastsSpec) :=
  OpenClaim.holds_of_wide 6 Try.f6 rfl rfl rfl rfl rfl rfl rfl ⟨rfl, rfl, rfl, rfl, rfl⟩ rfl rfl rfl rfl rfl (by kernel_rfl) Try.func6 (by kernel_rfl)
    (of_decide_eq_true (by kernel_rfl)) (by unfold Func.isWrapper; first | (rw [if_pos (by decide +kernel)]; kernel_rfl) | (rw [if_neg (by decide +kernel)]; exact ⟨rfl, rfl⟩))
    (fun os started H enc _ => lifted os started H enc)

theorem proved : Rows.DevLastsSaid := over
#print axioms proved
end Go.Proofs.Ytopeipaeefohlaa.vDevLasts
