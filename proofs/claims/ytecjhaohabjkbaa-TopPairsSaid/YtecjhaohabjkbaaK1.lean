/-
  PLAIN LAWS: pairs in order, as a map's datum; as bytes. No program.
-/
import Derived.Test.YtecjhaohabjkbaaPL
import Derived.Maps.Views
import Derived.Maps.OwnSet
import Derived.Sort.KeysCollected
import Derived.WideShapes
import Derived.WideAt
namespace Go.Proofs.Ytecjhaohabjkbaa
open Go.RowKit
set_option linter.unusedVariables false

abbrev PL := List (List UInt8 × List UInt8)
def entP (p : List UInt8 × List UInt8) : Lit × DataW Unit := (.string p.1, .lit (.string p.2))
def KD (ps : PL) : DataW Unit := .map (ps.map entP)
def insP (x : List UInt8 × List UInt8) : PL → PL
  | [] => [x]
  | y :: r => if bytesBefore x.1 y.1 then x :: y :: r else y :: insP x r
def putP (ps : PL) (k v : List UInt8) : PL := insP (k, v) (ps.filter fun p => !(p.1 == k))
theorem insert_KD (x : List UInt8 × List UInt8) : ∀ ps : PL, DataW.insert (entP x) (ps.map entP) = (insP x ps).map entP
  | [] => rfl
  | y :: r => by
    simp only [List.map_cons, DataW.insert, insP]
    show (if bytesBefore x.1 y.1 = true then _ else _) = _
    split
    · rfl
    · rw [insert_KD x r]; rfl
theorem KD_put (ps : PL) (k v : List UInt8) : (KD ps).put (.string k) (.lit (.string v)) = KD (putP ps k v) := by
  unfold KD putP DataW.put
  simp only
  rw [← insert_KD, List.filter_map]
  rfl
theorem KD_size (ps : PL) : Maps.size (KD ps) = ps.length := by simp [KD, Maps.size]
theorem KD_has (ps : PL) (k : List UInt8) : Maps.has (KD ps) (.string k) = ps.any (fun p => p.1 == k) := by
  unfold KD
  rw [Maps.has_eq, List.any_map]
  rfl
theorem KD_keys (ps : PL) : strKeys (KD ps) = ps.map (·.1) := by
  unfold KD strKeys
  simp only [List.map_map]
  rfl
def Sorted (ps : PL) : Prop := ps.Pairwise fun p q => bytesBefore p.1 q.1 = true
theorem sorted_of_rising : ∀ ps : PL, DataW.rising (ps.map entP) = true → Sorted ps
  | [], _ => List.Pairwise.nil
  | [_], _ => List.pairwise_singleton _ _
  | a :: b :: r, h => by
    have h' : (bytesBefore a.1 b.1 && DataW.rising ((b :: r).map entP)) = true := h
    rw [Bool.and_eq_true] at h'
    have ih := sorted_of_rising (b :: r) h'.2
    refine List.pairwise_cons.2 ⟨fun q hq => ?_, ih⟩
    rcases List.mem_cons.1 hq with rfl | hq
    · exact h'.1
    · exact WideShapes.bytes_trans _ _ _ h'.1 ((List.pairwise_cons.1 ih).1 q hq)
theorem before_ne {a b : List UInt8} (h : bytesBefore a b = true) : a ≠ b := by
  rintro rfl
  rw [WideAt.bytes_irrefl] at h
  cases h
theorem before_lt : ∀ {a b : List UInt8}, bytesBefore a b = true → a < b
  | [], [], h => by cases h
  | [], _ :: _, _ => List.nil_lt_cons _ _
  | _ :: _, [], h => by cases h
  | x :: a, y :: b, h => by
    rw [List.cons_lt_cons_iff]
    have h' : (decide (x < y) || (x == y && bytesBefore a b)) = true := h
    rw [Bool.or_eq_true, Bool.and_eq_true, decide_eq_true_eq, beq_iff_eq] at h'
    rcases h' with h' | ⟨h1, h2⟩
    · exact .inl h'
    · exact .inr ⟨h1, before_lt h2⟩
theorem KD_at (ps : PL) (hs : Sorted ps) (p : List UInt8 × List UInt8) (hp : p ∈ ps) (z : DataW Unit) : (KD ps).atKey (.string p.1) z = .lit (.string p.2) := by
  unfold KD DataW.atKey
  simp only
  have : (ps.map entP).find? (fun q => q.1.sameKey (.string p.1)) = some (entP p) := by
    induction ps with
    | nil => cases hp
    | cons a r ih =>
      obtain ⟨h1, h2⟩ := List.pairwise_cons.1 hs
      rw [List.map_cons, List.find?_cons]
      rcases List.mem_cons.1 hp with rfl | hp
      · have : ((entP p).1.sameKey (.string p.1)) = true := by simp [entP, Lit.sameKey]
        rw [this]
      · have : ((entP a).1.sameKey (.string p.1)) = false := by
          have := before_ne (h1 p hp)
          simp [entP, Lit.sameKey, this]
        rw [this]
        exact ih h2 hp
  rw [this]
  rfl
theorem putP_end (ps : PL) (k v : List UInt8) (h : ∀ p ∈ ps, bytesBefore p.1 k = true) : putP ps k v = ps ++ [(k, v)] := by
  unfold putP
  have hf : (ps.filter fun p => !(p.1 == k)) = ps := List.filter_eq_self.2 fun p hp => by simp [before_ne (h p hp)]
  rw [hf]
  clear hf
  induction ps with
  | nil => rfl
  | cons a r ih =>
    have h1 := h a (List.mem_cons_self ..)
    have h2 : bytesBefore k a.1 = false := by
      cases hc : bytesBefore k a.1 with
      | false => rfl
      | true => exact absurd (WideShapes.bytes_trans _ _ _ h1 hc) (by rw [WideAt.bytes_irrefl]; decide)
    simp only [insP, h2, Bool.false_eq_true, if_false, List.cons_append]
    rw [ih fun p hp => h p (List.mem_cons_of_mem _ hp)]
theorem mem_insP (x : List UInt8 × List UInt8) : ∀ (ps : PL) (p), p ∈ insP x ps → p = x ∨ p ∈ ps
  | [], p, h => by simpa [insP] using h
  | y :: r, p, h => by
    unfold insP at h
    split at h
    · rcases List.mem_cons.1 h with h | h
      · exact .inl h
      · exact .inr h
    · rcases List.mem_cons.1 h with h | h
      · exact .inr (by rw [h]; exact List.mem_cons_self ..)
      · rcases mem_insP x r p h with h | h
        · exact .inl h
        · exact .inr (List.mem_cons_of_mem _ h)
theorem mem_putP {ps : PL} {k v : List UInt8} {p : List UInt8 × List UInt8} (h : p ∈ putP ps k v) : p = (k, v) ∨ p ∈ ps := by
  rcases mem_insP _ _ _ h with h | h
  · exact .inl h
  · exact .inr (List.mem_filter.1 h).1
theorem insP_length (x : List UInt8 × List UInt8) : ∀ ps : PL, (insP x ps).length = ps.length + 1
  | [] => rfl
  | y :: r => by
    unfold insP
    split
    · rfl
    · simp [insP_length x r]
theorem putP_length (ps : PL) (k v : List UInt8) : (putP ps k v).length ≤ ps.length + 1 := by
  unfold putP
  rw [insP_length]
  have := List.length_filter_le (fun p : List UInt8 × List UInt8 => !(p.1 == k)) ps
  omega
theorem sort_keys (ps : PL) (hs : Sorted ps) (ss : List (List UInt8)) (h : ss.Perm (ps.map (·.1))) : ss.mergeSort (fun x y => decide (x ≤ y)) = ps.map (·.1) := by
  have tr : ∀ a b c : List UInt8, leB a b = true → leB b c = true → leB a c = true := fun a b c h1 h2 => by
    simp only [leB, decide_eq_true_eq] at *
    exact List.le_trans h1 h2
  have to : ∀ a b : List UInt8, (leB a b || leB b a) = true := fun a b => by
    simp only [leB, Bool.or_eq_true, decide_eq_true_eq]
    exact List.le_total a b
  refine List.Perm.eq_of_pairwise (le := fun a b => leB a b = true) (fun a b _ _ h1 h2 => ?_) (List.pairwise_mergeSort tr to ss) ?_ ((List.mergeSort_perm ss leB).trans h)
  · simp only [leB, decide_eq_true_eq] at h1 h2
    exact List.le_antisymm h1 h2
  · refine List.pairwise_map.2 (hs.imp fun {p q} hpq => ?_)
    simp only [leB, decide_eq_true_eq]
    exact List.le_of_lt (before_lt hpq)

/-! ## as bytes -/
def nums (x : List UInt8) : List Int := x.map fun b => (b.toNat : Int)
theorem nums_length (x : List UInt8) : (nums x).length = x.length := by simp [nums]
theorem nums_wf (x : List UInt8) : Wf8 (nums x) := fun z hz => by
  obtain ⟨b, _, rfl⟩ := List.mem_map.1 hz
  have := b.toNat_lt
  omega
def encP (p : List UInt8 × List UInt8) : List Int := ((p.1.length : Int) :: nums p.1) ++ ((p.2.length / 256 : Nat) : Int) :: ((p.2.length % 256 : Nat) : Int) :: nums p.2
def encAll (ps : PL) : List Int := ps.flatMap encP
theorem encP_length (p : List UInt8 × List UInt8) : (encP p).length = 3 + p.1.length + p.2.length := by
  simp [encP, nums_length]
  omega
theorem encAll_snoc (ps : PL) (p : List UInt8 × List UInt8) : encAll (ps ++ [p]) = encAll ps ++ encP p := by simp [encAll]
theorem encAll_cons (p : List UInt8 × List UInt8) (ps : PL) : encAll (p :: ps) = encP p ++ encAll ps := by simp [encAll]
/-- small keys and values. -/
def Small (ps : PL) : Prop := ∀ p ∈ ps, 0 < p.1.length ∧ p.1.length ≤ 64 ∧ p.2.length ≤ 60
theorem Small.put {ps : PL} (h : Small ps) {k v : List UInt8} (h0 : 0 < k.length) (h1 : k.length ≤ 64) (h2 : v.length ≤ 60) : Small (putP ps k v) := fun p hp => by
  rcases mem_putP hp with rfl | hp
  · exact ⟨h0, h1, h2⟩
  · exact h p hp
theorem encAll_length : ∀ (ps : PL), Small ps → (encAll ps).length ≤ 127 * ps.length
  | [], _ => by simp [encAll]
  | p :: r, h => by
    rw [encAll_cons, List.length_append, encP_length, List.length_cons]
    have h1 := h p (List.mem_cons_self ..)
    have := encAll_length r fun q hq => h q (List.mem_cons_of_mem _ hq)
    omega
theorem encAll_wf (ps : PL) (h : Small ps) : Wf8 (encAll ps) := fun z hz => by
  obtain ⟨p, hp, hz⟩ := List.mem_flatMap.1 hz
  have h1 := h p hp
  simp only [encP, List.mem_append, List.mem_cons] at hz
  rcases hz with (rfl | hz) | rfl | rfl | hz
  · omega
  · exact nums_wf _ z hz
  · omega
  · omega
  · exact nums_wf _ z hz

end Go.Proofs.Ytecjhaohabjkbaa
