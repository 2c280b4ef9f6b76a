/- Layer 12, plain: the groups of some keys, sorted, each once. -/
import Derived.Test.YthenjpenfemmbaaDrA
import Derived.Lib.SlicesCompact
namespace Go.Proofs.Ythenjpenfemmbaa
open Go.RowKit

/-- two rising lists with the same members are one -/
theorem rise_eq : ∀ l m : List Int, l.Pairwise (· < ·) → m.Pairwise (· < ·) → (∀ x, x ∈ l ↔ x ∈ m) → l = m := by
  intro l
  induction l with
  | nil =>
    intro m _ _ h
    cases m with
    | nil => rfl
    | cons y r => exact absurd ((h y).2 (by simp)) (by simp)
  | cons x l ih =>
    intro m h1 h2 h
    cases m with
    | nil => exact absurd ((h x).1 (by simp)) (by simp)
    | cons y r =>
      obtain ⟨a1, a2⟩ := List.pairwise_cons.1 h1
      obtain ⟨b1, b2⟩ := List.pairwise_cons.1 h2
      have hxy : x = y := by
        have e1 := (h x).1 (by simp)
        have e2 := (h y).2 (by simp)
        rcases List.mem_cons.1 e1 with e | e
        · exact e
        · rcases List.mem_cons.1 e2 with e' | e'
          · exact e'.symm
          · have := b1 x e
            have := a1 y e'
            omega
      subst hxy
      rw [ih r a2 b2 (fun z => ?_)]
      have hz := h z
      simp only [List.mem_cons] at hz
      constructor
      · intro hm
        rcases hz.1 (.inr hm) with e | e
        · have := a1 z hm
          omega
        · exact e
      · intro hm
        rcases hz.2 (.inr hm) with e | e
        · have := b1 z hm
          omega
        · exact e
theorem compact_eq (zs : List Int) : Lib.compact zs = ((List.range zs.length).filter (Lib.keeps zs.toArray)).map (zs.toArray[·]!) := rfl
theorem keeps_iff (zs : List Int) (j : Nat) (hj : j < zs.length) : Lib.keeps zs.toArray j = true ↔ (j = 0 ∨ zs[j]! ≠ zs[j - 1]!) := by
  unfold Lib.keeps
  rcases j with _ | j
  · simp
  · simp
theorem compact_mem (zs : List Int) (x : Int) : x ∈ Lib.compact zs ↔ x ∈ zs := by
  rw [compact_eq]
  simp only [List.mem_map, List.mem_filter, List.mem_range]
  constructor
  · rintro ⟨j, ⟨hj, _⟩, rfl⟩
    simp [hj]
  · intro hx
    have hlt := List.idxOf_lt_length_of_mem hx
    have hat : zs[zs.idxOf x]! = x := by
      rw [getElem!_pos zs _ hlt]
      exact List.getElem_idxOf hlt
    refine ⟨zs.idxOf x, ⟨hlt, ?_⟩, by simpa using hat⟩
    rw [keeps_iff zs _ hlt]
    rcases Nat.eq_zero_or_pos (zs.idxOf x) with h0 | h0
    · exact .inl h0
    · refine .inr ?_
      rw [hat]
      intro h
      have hlt' : zs.idxOf x - 1 < zs.length := by omega
      rw [getElem!_pos zs _ hlt'] at h
      have := List.not_of_lt_findIdx (p := (· == x)) (xs := zs) (i := zs.idxOf x - 1) (show zs.idxOf x - 1 < zs.idxOf x by omega)
      simp at this
      exact this h.symm
theorem compact_rise (zs : List Int) (h : zs.Pairwise (· ≤ ·)) : (Lib.compact zs).Pairwise (· < ·) := by
  rw [compact_eq, List.pairwise_map]
  have hr : (List.range zs.length).Pairwise (fun i j => i < j ∧ i < zs.length ∧ j < zs.length) := by
    rw [List.pairwise_iff_getElem]
    intro i j hi hj hij
    simp at hi hj ⊢
    omega
  refine (List.Pairwise.filter _ hr).imp_of_mem ?_
  intro i j hi hj ⟨hij, hil, hjl⟩
  have hk := (keeps_iff zs j hjl).1 (List.mem_filter.1 hj).2
  have hle : ∀ a b (ha : a < zs.length) (hb : b < zs.length), a ≤ b → zs[a] ≤ zs[b] := by
    intro a b ha hb hab
    by_cases e : a = b
    · subst e; exact Int.le_refl _
    · exact List.pairwise_iff_getElem.1 h a b ha hb (by omega)
  have h1 := hle i (j - 1) hil (by omega) (by omega)
  have h2 := hle (j - 1) j (by omega) hjl (by omega)
  rcases hk with rfl | hk
  · omega
  · rw [getElem!_pos zs _ hjl, getElem!_pos zs _ (show j - 1 < zs.length by omega)] at hk
    have e1 : zs.toArray[i]! = zs[i] := by simp [hil]
    have e2 : zs.toArray[j]! = zs[j] := by simp [hjl]
    rw [e1, e2]
    omega
def srt (M : List Int) : List Int := M.mergeSort (fun x y => decide (x ≤ y))
theorem srt_perm (M : List Int) : (srt M).Perm M := List.mergeSort_perm _ _
theorem srt_len (M : List Int) : (srt M).length = M.length := (srt_perm M).length_eq
theorem srt_nil : srt [] = [] := by simp [srt]
theorem srt_sorted (M : List Int) : (srt M).Pairwise (· ≤ ·) := by
  have h := List.pairwise_mergeSort (le := fun x y : Int => decide (x ≤ y)) (fun a b c h1 h2 => by simp at h1 h2 ⊢; omega) (fun a b => by simp; omega) M
  exact h.imp (fun h => by simpa using h)
/-- the groups that there are among some numbers from 0 to 7 -/
def few8 (S : List Int) : List Int := ((List.range 8).filter fun g : Nat => decide ((g : Int) ∈ S)).map fun g : Nat => (g : Int)
theorem few8_mem (S : List Int) (hS : ∀ x ∈ S, 0 ≤ x ∧ x < 8) (x : Int) : x ∈ few8 S ↔ x ∈ S := by
  unfold few8
  simp only [List.mem_map, List.mem_filter, List.mem_range, decide_eq_true_eq]
  constructor
  · rintro ⟨g, ⟨_, h⟩, rfl⟩
    exact h
  · intro h
    obtain ⟨h0, h8⟩ := hS x h
    exact ⟨x.toNat, ⟨by omega, by rw [show ((x.toNat : Nat) : Int) = x by omega]; exact h⟩, by omega⟩
theorem few8_rise (S : List Int) : (few8 S).Pairwise (· < ·) := by
  unfold few8
  rw [List.pairwise_map]
  refine List.Pairwise.filter _ ?_
  rw [List.pairwise_iff_getElem]
  intro i j hi hj hij
  simp
  omega
theorem few8_eq (S : List Int) (hS : ∀ x ∈ S, 0 ≤ x ∧ x < 8) : Lib.compact (srt S) = few8 S :=
  rise_eq _ _ (compact_rise _ (srt_sorted S)) (few8_rise S) (fun x => by rw [compact_mem, (srt_perm S).mem_iff, few8_mem S hS])
/-- the groups of some keys -/
def grps (L K : List ByteArray) : List Int := K.map (grp L)
def goodK (K : List ByteArray) : Bool := K.all keyB
theorem grps_bd {L K : List ByteArray} (hf : L.length < 8) (hg : goodK K = true) : ∀ x ∈ grps L K, 0 ≤ x ∧ x < 8 := by
  intro x hx
  obtain ⟨s, hs, rfl⟩ := List.mem_map.1 hx
  have hk : keyB s = true := List.all_eq_true.1 hg s hs
  have := cntE_le L s
  unfold grp
  rw [hk, if_pos rfl]
  omega
def ofE (K : List ByteArray) : Int := if goodK K then 0 else 120
def ofL (L K : List ByteArray) : List Int := if goodK K then few8 (grps L K) else []
theorem good_take {K : List ByteArray} {k : Nat} (h : k < K.length) : goodK (K.take (k + 1)) = (goodK (K.take k) && keyB (gx K k)) := by
  unfold goodK gx
  rw [List.take_succ_eq_append_getElem h, List.all_append, List.getD_eq_getElem?_getD, List.getElem?_eq_getElem h]
  simp
theorem good_bad {K : List ByteArray} {k : Nat} (h : k < K.length) (hb : keyB (gx K k) = false) : goodK K = false := by
  unfold goodK
  rw [List.all_eq_false]
  refine ⟨K[k], List.getElem_mem h, ?_⟩
  unfold gx at hb
  rw [List.getD_eq_getElem?_getD, List.getElem?_eq_getElem h] at hb
  simp at hb
  simp [hb]
theorem grps_take {L K : List ByteArray} {k : Nat} (h : k < K.length) : grps L (K.take (k + 1)) = grps L (K.take k) ++ [grp L (gx K k)] := by
  unfold grps gx
  rw [List.take_succ_eq_append_getElem h, List.map_append, List.getD_eq_getElem?_getD, List.getElem?_eq_getElem h]
  rfl
end Go.Proofs.Ythenjpenfemmbaa
