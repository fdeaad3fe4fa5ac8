/-
  CONTRACTS: the document's device: land, Sync, Crash.
-/
import Derived.Test.YtecjhaohabjkbaaD6
namespace Go.Proofs.Ytecjhaohabjkbaa
open Go.RowKit
set_option linter.unusedVariables false

/-- those of the first k writes that land. -/
def landing (pend : List Wr) (sv : List Bool) (all : Bool) (k : Nat) : List Wr := if all then pend.take k else survTo pend sv k
theorem landing_all (pend : List Wr) (sv : List Bool) (all : Bool) : landing pend sv all pend.length = if all then pend else surv pend sv := by
  unfold landing
  split
  · rw [List.take_length]
  · unfold survTo surv
    rw [List.take_of_length_le (by simp; omega)]
theorem landing_in (pend : List Wr) (sv : List Bool) (k : Nat) (x : Wr) (hx : pend[k]? = some x) (all : Bool) (h : all = true ∨ sv[k]? = some true) : landing pend sv all (k + 1) = landing pend sv all k ++ [x] := by
  unfold landing
  cases all with
  | true =>
    rw [if_pos rfl, if_pos rfl, List.take_add_one, hx]
    rfl
  | false =>
    rw [if_neg (by simp), if_neg (by simp), survTo_succ pend sv k x true hx (by simpa using h)]
    rfl
theorem landing_out (pend : List Wr) (sv : List Bool) (k : Nat) (h : sv[k]? ≠ some true) : landing pend sv false (k + 1) = landing pend sv false k := by
  unfold landing
  rw [if_neg (by simp), if_neg (by simp)]
  cases hx : pend[k]? with
  | none =>
    have := List.getElem?_eq_none_iff.1 hx
    unfold survTo
    rw [List.take_of_length_le (by simp; omega), List.take_of_length_le (by simp; omega)]
  | some x =>
    cases hs : sv[k]? with
    | none =>
      have := List.getElem?_eq_none_iff.1 hs
      unfold survTo
      rw [List.take_of_length_le (by simp; omega), List.take_of_length_le (by simp; omega)]
    | some s =>
      cases s with
      | true => exact absurd hs h
      | false => rw [survTo_succ pend sv k x false hx hs]; simp

/-- between two rounds. -/
def LandInv (w : World) (b : Nat) (vL vP : Value) (l : List Sec) (pend : List Wr) (sv : List Bool) (all : Bool) (fP : List Nat) (v6 : Value) (f6 : List Nat) (k : Nat) (wr : World) : Prop :=
  Own wr 62 64 v6 l.length (secs (land l (landing pend sv all k))) f6 ∧ Keeps w wr []

set_option maxHeartbeats 2000000 in set_option maxRecDepth 100000 in
theorem rland_calls (S : Option Addr) (cS : Nat) (sv : List Bool) (fS : List Nat) (all : Bool) (b : Nat) (l : List Sec) (pend : List Wr) (fp : List Nat) (w : World) (hd : RRep w b l pend fp) (hS : Reads w 1 S sv.length (bools sv) fS)
    (hll : l.length ≤ 4096) (hlen : pend.length ≤ 100000) (hin : ∀ x ∈ pend, x.i < l.length) :
    Calls Try.prog 85 #[.pointer (some ⟨b, 0, none⟩), .slice S sv.length cS, .bool all] w fun e w' => ∃ v, RStep w fp v b (land l (if all then pend else surv pend sv)) [] e w' := by
  obtain ⟨vL, vP, fL, fP, hb, hL, hP, h1, h2, h3, rfl⟩ := hd
  obtain ⟨i0, hi, hz0, hz1, hz2⟩ := info_parts info_rsec
  obtain ⟨A, cL, rfl, hc, fr, hrL, hfrL⟩ := hL.form
  have c0 : w.cell? ⟨b, 0, none⟩ = some (.slice A l.length cL) := hb.cell 0
  have hbl : b < w.heap.size := hb.lt
  have H := Lib.hid (And.intro hb (And.intro hP (And.intro hS (And.intro h1 (And.intro h2 (And.intro hrL hin))))))
  clear hb hL hP hS h1 h2 h3 hrL hfrL hin
  go_enter Try.func85, Try.ntmps85
  go_wp2_with (at_builtin; refine wpList_append_mine _ rfl (.tmp 8) (.tmp 12) _ _ rfl 62 i0 _ 64 64 Try.underlying105 hi hz0 hz1 hz2 rfl _ 0 [] [] rfl (Own.bare _ _ _ _) _ l.length (secs l) rfl ?src ?c1 ?c2 ?next)
  case src => exact (H.out.2.2.2.2.2.1.alloc _).src Try.underlying105 (secs_one l) cL
  case c1 => unfold maxLen; omega
  case c2 => omega
  case next =>
    intro v6 w1 f6 hown hkeep hf6
    have hk1 : Keeps w w1 [] := ((Keeps.refl w []).alloc _).trans hkeep (by simp)
    have hf6' : ∀ k ∈ f6, w.heap.size ≤ k := fun k hk => by
      have := hf6 k hk
      omega
    obtain ⟨A6, n6, rfl, -, -⟩ := hown.form
    have H1 := Lib.hid (And.intro hown (And.intro hk1 hf6'))
    clear hown hkeep hf6 hf6' hk1
    go_wp2_with fail
    go_loopw [7] (fun v wr => ∃ k : Nat, k ≤ pend.length ∧ v = .int .i64 k ∧ LandInv w b (.slice A l.length cL) vP l pend sv all fP (.slice A6 l.length n6) f6 k wr) (fun v _ => pend.length - (intOf v).toNat)
    case atStart =>
      refine ⟨0, by omega, rfl, ?_, H1.out.2.1⟩
      have : landing pend sv all 0 = [] := by unfold landing; split <;> rfl
      rw [this]
      simpa [land] using H1.out.1
    case round =>
      obtain ⟨k, hk, rfl, hO, hK⟩ := hrel
      have hbk := H.out.1.keeps hK (by simp)
      have hPk := H.out.2.1.keeps hK (by simp)
      obtain ⟨AP, cP, rfl, hcP, -⟩ := hPk.form
      have c1 : wr.cell? ⟨b, 1, none⟩ = some (.slice AP pend.length cP) := hbk.cell 1
      by_cases hlt : k < pend.length
      · obtain ⟨x, hx⟩ : ∃ x, pend[k]? = some x := ⟨_, List.getElem?_eq_getElem hlt⟩
        have hxi : x.i < l.length := H.out.2.2.2.2.2.2 x (List.mem_of_getElem? hx)
        obtain ⟨g2, c2, hA, hfP2, -, hr2, -⟩ := hPk.range Wr.cells 65 Wr.cells_length hx
        simp only [Value.slice.injEq] at hA
        obtain ⟨rfl, -, rfl⟩ := hA
        have q1 : (0 : Int) ≤ (k : Int) := by omega
        have q2 : (k : Int) < (pend.length : Int) := by omega
        have y1 : (0 : Int) ≤ (x.i : Int) := by omega
        have y2 : (x.i : Int) < (l.length : Int) := by omega
        have hSk := H.out.2.2.1.keeps hK (by simp)
        -- what the round does where the write lands
        have LANDS : (all = true ∨ sv[k]? = some true) → ∃ g6, A6 = some ⟨g6, 0, none⟩ ∧ f6 = [g6] ∧ wr.there g6 (x.i * 64) 64 ∧ LandInv w b (.slice A l.length cL) (.slice (some ⟨g2, 0, none⟩) pend.length cP) l pend sv all fP (.slice A6 l.length n6) f6 (k + 1) (wr.drew.setCells g6 (x.i * 64) x.s.cells) := fun hall => by
          obtain ⟨y, hy⟩ : ∃ y, (land l (landing pend sv all k))[x.i]? = some y := ⟨_, List.getElem?_eq_getElem (by rw [land_length]; exact hxi)⟩
          have hO' : Own wr 62 64 (.slice A6 l.length n6) (land l (landing pend sv all k)).length ((land l (landing pend sv all k)).flatMap Sec.cells) f6 := by rw [land_length]; exact hO
          obtain ⟨g6, c6, hA6, hf6, -, -, ht6⟩ := hO'.range Sec.cells 64 Sec.cells_length hy
          simp only [Value.slice.injEq] at hA6
          refine ⟨g6, hA6.1, hf6, ht6, ⟨?_, ?_⟩⟩
          · have := (hO'.keeps ((Keeps.refl wr []).drew) (by simp)).setRange Sec.cells 64 Sec.cells_length (i := x.i) (by rw [land_length]; exact hxi) x.s hf6
            rw [← land_snoc, ← landing_in pend sv k x hx all hall, land_length] at this
            exact this
          · exact hK.drew.setCells (.inr (by have := H1.out.2.2 g6 (by rw [hf6]; simp); exact this)) _ _
        by_cases hall : all = true ∨ sv[k]? = some true
        · obtain ⟨g6, rfl, rfl, ht6, hnext⟩ := LANDS hall
          have hNX := Lib.hid hnext
          have hg2 : g2 < w.heap.size := H.out.2.1.lt g2 (by rw [hfP2]; simp)
          have hg6 : w.heap.size ≤ g6 := H1.out.2.2 g6 (by simp)
          have n1 : b ≠ g6 := by omega
          have n2 : g2 ≠ g6 := by omega
          have ci : wr.cell? ⟨g2, k * 65, none⟩ = some (.int .i64 x.i) := by simpa using hr2 0 _ rfl
          have hrs : wr.rangeAt g2 (k * 65 + 1) x.s.cells := fun j u hu => by
            have := hr2 (j + 1) u (by simpa [Wr.cells] using hu)
            rwa [show k * 65 + (j + 1) = k * 65 + 1 + j by omega] at this
          have hu := Try.underlying62
          have hs64 : (Try.prog.info? 62).map (·.size) = some x.s.cells.length := by rw [size_rsec, x.s.cells_length]
          have hl64 := x.s.cells_length
          have hone := x.s.one
          clear hO hK hbk hPk LANDS hnext hr2 hx hcP
          cases all with
          | true =>
            clear hSk hall
            go_wp2_with fail
            go_region_held3 (fun w' => w'.cell? ⟨b, 1, none⟩ = some (.slice (some ⟨g2, 0, none⟩) pend.length cP) ∧ w'.cell? ⟨g2, k * 65, none⟩ = some (.int .i64 x.i) ∧ w'.rangeAt g2 (k * 65 + 1) x.s.cells ∧ w'.there g6 (x.i * 64) 64) (first | (go_keep; done) | (go_split_ands; and_intros <;> (repeat' (first
    | with_reducible assumption
    | with_reducible apply range_drew | with_reducible apply there_drew | with_reducible apply World.rangeAt_alloc | with_reducible apply World.there_alloc | with_reducible apply World.there_setCells
    | (with_reducible refine range_setCells_ne ?_ _ _ _ (by first | assumption | omega))
    | (with_reducible refine range_ofDrew ?_; with_reducible assumption) | (with_reducible refine there_ofDrew ?_; with_reducible assumption)
    | (rw [cell_setCells_ne _ _ _ _ (by first | assumption | omega)])
    | (rw [World.frozen?_setCells])
    | (simp [World.frozen?_alloc_past, World.cell?_alloc_some, World.cell?_setCell_far, *]; done))))) (fail)
            go_wp2_with fail
            go_roundw
            case rel => exact ⟨k + 1, by omega, by go_num, hNX.out⟩
            case measure => simp [intOf]; omega
          | false =>
            have hsk : sv[k]? = some true := by simpa using hall
            have hks := (List.getElem?_eq_some_iff.1 hsk).1
            have g3 : (k : Int) < (sv.length : Int) := by omega
            obtain ⟨q3, o3, u3, rfl, -, -, h3, cs⟩ := hSk.cellAt hks
            obtain rfl : u3 = .bool true := by
              rw [bools, List.getElem?_map, hsk] at h3
              simpa using h3.symm
            clear hSk hall hsk h3
            go_wp2_with fail
            go_region_held3 (fun w' => w'.cell? ⟨b, 1, none⟩ = some (.slice (some ⟨g2, 0, none⟩) pend.length cP) ∧ w'.cell? ⟨g2, k * 65, none⟩ = some (.int .i64 x.i) ∧ w'.rangeAt g2 (k * 65 + 1) x.s.cells ∧ w'.there g6 (x.i * 64) 64) (first | (go_keep; done) | (go_split_ands; and_intros <;> (repeat' (first
    | with_reducible assumption
    | with_reducible apply range_drew | with_reducible apply there_drew | with_reducible apply World.rangeAt_alloc | with_reducible apply World.there_alloc | with_reducible apply World.there_setCells
    | (with_reducible refine range_setCells_ne ?_ _ _ _ (by first | assumption | omega))
    | (with_reducible refine range_ofDrew ?_; with_reducible assumption) | (with_reducible refine there_ofDrew ?_; with_reducible assumption)
    | (rw [cell_setCells_ne _ _ _ _ (by first | assumption | omega)])
    | (rw [World.frozen?_setCells])
    | (simp [World.frozen?_alloc_past, World.cell?_alloc_some, World.cell?_setCell_far, *]; done))))) (fail)
            go_wp2_with fail
            go_roundw
            case rel => exact ⟨k + 1, by omega, by go_num, hNX.out⟩
            case measure => simp [intOf]; omega
        · obtain rfl : all = false := by cases all <;> simp_all
          have hno : sv[k]? ≠ some true := fun h => hall (.inr h)
          have hnext := landing_out pend sv k hno
          have HH := Lib.hid (And.intro hO (And.intro hK hnext))
          clear hO hK hbk hPk LANDS hnext hr2 hx hcP hall
          cases hsk : sv[k]? with
          | none =>
            have g3 : (sv.length : Int) ≤ (k : Int) := by have := List.getElem?_eq_none_iff.1 hsk; omega
            clear hSk hsk hno
            go_wp2_with fail
            go_roundw
            case rel =>
              refine ⟨k + 1, by omega, by go_num, ?_, HH.out.2.1⟩
              rw [HH.out.2.2]
              exact HH.out.1
            case measure => simp [intOf]; omega
          | some s =>
            obtain rfl : s = false := by cases s with
              | true => exact absurd hsk hno
              | false => rfl
            have hks := (List.getElem?_eq_some_iff.1 hsk).1
            have g3 : (k : Int) < (sv.length : Int) := by omega
            obtain ⟨q3, o3, u3, rfl, -, -, h3, cs⟩ := hSk.cellAt hks
            obtain rfl : u3 = .bool false := by
              rw [bools, List.getElem?_map, hsk] at h3
              simpa using h3.symm
            clear hSk hsk h3 hno
            go_wp2_with fail
            go_roundw
            case rel =>
              refine ⟨k + 1, by omega, by go_num, ?_, HH.out.2.1⟩
              rw [HH.out.2.2]
              exact HH.out.1
            case measure => simp [intOf]; omega
      · obtain rfl : k = pend.length := by omega
        have f0 := hbk.frozen 0
        have f1 := hbk.frozen 1
        have c0k : wr.cell? ⟨b, 0, none⟩ = some (.slice A l.length cL) := hbk.cell 0
        have HH := Lib.hid (And.intro hO (And.intro hK hbk))
        clear hO hK hbk hPk
        cases all
        all_goals
          go_wp2_with fail
          go_end0
          obtain ⟨hO, hK, hbk⟩ := HH.out
          rw [landing_all] at hO
          simp only [Bool.false_eq_true, if_false, if_true] at hO
          have hb6 : b ∉ f6 := fun h => by have := H1.out.2.2 b h; omega
          refine ⟨_, b :: (f6 ++ []), rfl, ⟨_, _, f6, [], (hbk.set_ 0 _).set_ 1 _, ?_, Own.bare _ _ _ _, hb6, by simp, by simp, rfl⟩, ?_, ?_⟩
          · rw [land_length]
            exact (hO.set (p := ⟨b, 0, none⟩) hb6 _).set (p := ⟨b, 1, none⟩) hb6 _
          · exact ((hK.mono (by simp)).setCell (.inl (by simp)) _).setCell (.inl (by simp)) _
          · intro j hj
            simp only [List.append_nil, List.mem_cons] at hj ⊢
            rcases hj with h | h
            · simp [h]
            · exact .inr (H1.out.2.2 j h)

end Go.Proofs.Ytecjhaohabjkbaa
