/- Layer 7, plain: what a majority has reached. -/
import Derived.WalkKit
namespace Go.Proofs.Ytfoojhjhinofmaa

def srt (M : List Int) : List Int := M.mergeSort (fun x y => decide (x ≤ y))
theorem srt_perm (M : List Int) : (srt M).Perm M := List.mergeSort_perm _ _
theorem srt_len (M : List Int) : (srt M).length = M.length := (srt_perm M).length_eq
theorem srt_sorted (M : List Int) : (srt M).Pairwise (· ≤ ·) := by
  have h := List.pairwise_mergeSort (le := fun x y : Int => decide (x ≤ y)) (fun a b c h1 h2 => by simp at h1 h2 ⊢; omega) (fun a b => by simp; omega) M
  exact h.imp (fun h => by simpa using h)
/-- how many stand at y or above -/
def cnt (M : List Int) (y : Int) : Nat := M.countP (fun u => decide (y ≤ u))
/-- how many stand above y -/
def cntG (M : List Int) (y : Int) : Nat := M.countP (fun u => decide (y < u))
theorem cnt_le (M : List Int) (y : Int) : cnt M y ≤ M.length := List.countP_le_length
theorem cntG_le (M : List Int) (y : Int) : cntG M y ≤ M.length := List.countP_le_length
theorem cnt_srt (M : List Int) (y : Int) : cnt (srt M) y = cnt M y := (srt_perm M).countP_eq _
theorem cntG_srt (M : List Int) (y : Int) : cntG (srt M) y = cntG M y := (srt_perm M).countP_eq _

section
variable {l : List Int} (hs : l.Pairwise (· ≤ ·))
include hs
theorem sorted_le {i j : Nat} (hi : i < l.length) (hj : j < l.length) (h : i ≤ j) : l[i] ≤ l[j] := by
  by_cases e : i = j
  · subst e; exact Int.le_refl _
  · exact List.pairwise_iff_getElem.1 hs i j hi hj (by omega)
theorem cnt_at {i : Nat} (hi : i < l.length) : l.length - i ≤ cnt l l[i] := by
  have h1 : cnt l l[i] = cnt (l.take i) l[i] + cnt (l.drop i) l[i] := by
    unfold cnt
    rw [← List.countP_append, List.take_append_drop]
  have h2 : cnt (l.drop i) l[i] = (l.drop i).length := by
    unfold cnt
    rw [List.countP_eq_length]
    intro u hu
    obtain ⟨j, hj, rfl⟩ := List.mem_iff_getElem.1 hu
    rw [List.getElem_drop]
    rw [List.length_drop] at hj
    exact decide_eq_true (sorted_le hs hi (by omega) (by omega))
  rw [h1, h2, List.length_drop]
  omega
theorem cnt_above {i : Nat} (hi : i < l.length) {y : Int} (hy : l[i] < y) : cnt l y ≤ l.length - i - 1 := by
  have h1 : cnt l y = cnt (l.take (i + 1)) y + cnt (l.drop (i + 1)) y := by
    unfold cnt
    rw [← List.countP_append, List.take_append_drop]
  have h2 : cnt (l.take (i + 1)) y = 0 := by
    unfold cnt
    rw [List.countP_eq_zero]
    intro u hu
    obtain ⟨j, hj, rfl⟩ := List.mem_iff_getElem.1 hu
    rw [List.length_take] at hj
    rw [List.getElem_take]
    have := sorted_le hs (i := j) (j := i) (by omega) hi (by omega)
    simp
    omega
  have h3 := cnt_le (l.drop (i + 1)) y
  rw [List.length_drop] at h3
  omega
theorem cntG_at {i : Nat} (hi : i < l.length) : cntG l l[i] ≤ l.length - i - 1 := by
  have h1 : cntG l l[i] = cntG (l.take (i + 1)) l[i] + cntG (l.drop (i + 1)) l[i] := by
    unfold cntG
    rw [← List.countP_append, List.take_append_drop]
  have h2 : cntG (l.take (i + 1)) l[i] = 0 := by
    unfold cntG
    rw [List.countP_eq_zero]
    intro u hu
    obtain ⟨j, hj, rfl⟩ := List.mem_iff_getElem.1 hu
    rw [List.length_take] at hj
    rw [List.getElem_take]
    have := sorted_le hs (i := j) (j := i) (by omega) hi (by omega)
    simp
    omega
  have h3 := cntG_le (l.drop (i + 1)) l[i]
  rw [List.length_drop] at h3
  omega
end
/-- what a majority has reached -/
def idxOf (M : List Int) : Int := (srt M).getD (M.length - M.length / 2 - 1) 0
theorem idx_at {M : List Int} (h : 0 < M.length) : ∃ hi : M.length - M.length / 2 - 1 < (srt M).length, idxOf M = (srt M)[M.length - M.length / 2 - 1] := by
  have hi : M.length - M.length / 2 - 1 < (srt M).length := by rw [srt_len]; omega
  refine ⟨hi, ?_⟩
  unfold idxOf
  rw [List.getD_eq_getElem?_getD, List.getElem?_eq_getElem hi]
  rfl
theorem idx_mem {M : List Int} (h : 0 < M.length) : idxOf M ∈ M := by
  obtain ⟨hi, e⟩ := idx_at h
  rw [e]
  exact (srt_perm M).mem_iff.1 (List.getElem_mem hi)
theorem idx_reach {M : List Int} (h : 0 < M.length) : M.length / 2 < cnt M (idxOf M) := by
  obtain ⟨hi, e⟩ := idx_at h
  have := cnt_at (srt_sorted M) hi
  rw [e, ← cnt_srt]
  have hl := srt_len M
  omega
theorem idx_top {M : List Int} (h : 0 < M.length) {y : Int} (hy : M.length / 2 < cnt M y) : y ≤ idxOf M := by
  obtain ⟨hi, e⟩ := idx_at h
  rw [e]
  rcases (show (srt M)[M.length - M.length / 2 - 1] < y ∨ y ≤ (srt M)[M.length - M.length / 2 - 1] by omega) with h1 | h1
  · have := cnt_above (srt_sorted M) hi h1
    rw [cnt_srt] at this
    have hl := srt_len M
    omega
  · exact h1
theorem idx_above {M : List Int} (h : 0 < M.length) : cntG M (idxOf M) ≤ M.length / 2 := by
  obtain ⟨hi, e⟩ := idx_at h
  have := cntG_at (srt_sorted M) hi
  rw [e, ← cntG_srt]
  have hl := srt_len M
  omega

/-! ### the reference's way -/
def bestStep (M : List Int) (s : Int × Bool) (v : Int) : Int × Bool := if M.length / 2 < cnt M v ∧ (s.2 = false ∨ s.1 < v) then (v, true) else s
def bestOf (M : List Int) : Int := (M.foldl (bestStep M) (0, false)).1
theorem best_inv (M : List Int) : ∀ (r : List Int) (s : Int × Bool), (∀ v ∈ r, v ∈ M) → (s.2 = true → M.length / 2 < cnt M s.1) →
    ((r.foldl (bestStep M) s).2 = true → M.length / 2 < cnt M (r.foldl (bestStep M) s).1) ∧ (s.2 = true → (r.foldl (bestStep M) s).2 = true ∧ s.1 ≤ (r.foldl (bestStep M) s).1) ∧
    (∀ v ∈ r, M.length / 2 < cnt M v → (r.foldl (bestStep M) s).2 = true ∧ v ≤ (r.foldl (bestStep M) s).1) := by
  intro r
  induction r with
  | nil => intro s _ hs; exact ⟨hs, fun h => ⟨h, Int.le_refl _⟩, fun v hv => by cases hv⟩
  | cons x r ih =>
    intro s hm hs
    rw [List.foldl_cons]
    by_cases hc : M.length / 2 < cnt M x ∧ (s.2 = false ∨ s.1 < x)
    · have e : bestStep M s x = (x, true) := by unfold bestStep; rw [if_pos hc]
      rw [e]
      obtain ⟨i1, i2, i3⟩ := ih (x, true) (fun v hv => hm v (List.mem_cons_of_mem _ hv)) (fun _ => hc.1)
      obtain ⟨i4, i5⟩ := i2 rfl
      simp only at i5
      refine ⟨i1, fun h => ⟨i4, ?_⟩, fun v hv hq => ?_⟩
      · rcases hc.2 with h2 | h2
        · rw [h2] at h; cases h
        · omega
      · rcases List.mem_cons.1 hv with rfl | hv
        · exact ⟨i4, i5⟩
        · exact i3 v hv hq
    · have e : bestStep M s x = s := by unfold bestStep; rw [if_neg hc]
      rw [e]
      obtain ⟨i1, i2, i3⟩ := ih s (fun v hv => hm v (List.mem_cons_of_mem _ hv)) hs
      refine ⟨i1, i2, fun v hv hq => ?_⟩
      rcases List.mem_cons.1 hv with rfl | hv
      · have hs2 : s.2 = true ∧ v ≤ s.1 := by
          refine ⟨?_, ?_⟩
          · cases h : s.2 with
            | true => rfl
            | false => exact absurd ⟨hq, .inl h⟩ hc
          · rcases (show s.1 < v ∨ v ≤ s.1 by omega) with h | h
            · exact absurd ⟨hq, .inr h⟩ hc
            · exact h
        obtain ⟨i4, i5⟩ := i2 hs2.1
        exact ⟨i4, by omega⟩
      · exact i3 v hv hq
theorem best_idx {M : List Int} (h : 0 < M.length) : bestOf M = idxOf M := by
  obtain ⟨i1, _, i3⟩ := best_inv M M (0, false) (fun _ h => h) (fun h => by cases h)
  obtain ⟨h1, h2⟩ := i3 _ (idx_mem h) (idx_reach h)
  have h3 := idx_top h (i1 h1)
  unfold bestOf
  omega
theorem best_nil : bestOf [] = 0 := rfl
theorem cnt_set (y : Int) : ∀ (M : List Int) (k : Nat) (v : Int), (∀ hk : k < M.length, M[k] ≤ v) → cnt M y ≤ cnt (M.set k v) y := by
  intro M
  induction M with
  | nil => intro k v _; simp
  | cons x r ih =>
    intro k v h
    rcases k with _ | k
    · have h0 : x ≤ v := h (by simp)
      unfold cnt
      rw [List.set_cons_zero, List.countP_cons, List.countP_cons]
      by_cases hx : y ≤ x
      · have hv : y ≤ v := by omega
        simp [hx, hv]
      · simp [hx]
    · have := ih k v (fun hk => by have := h (by simp; omega); simpa using this)
      unfold cnt at this ⊢
      rw [List.set_cons_succ, List.countP_cons, List.countP_cons]
      omega
/-- with a number raised it is not lower -/
theorem idx_raise {M : List Int} {k : Nat} {v : Int} (h : 0 < M.length) (hv : ∀ hk : k < M.length, M[k] ≤ v) : idxOf M ≤ idxOf (M.set k v) := by
  refine idx_top (by rw [List.length_set]; exact h) ?_
  rw [List.length_set]
  exact Nat.lt_of_lt_of_le (idx_reach h) (cnt_set _ M k v hv)
theorem cnt_snoc (M : List Int) (y v : Int) : cnt (M ++ [v]) y = cnt M y + (if y ≤ v then 1 else 0) := by
  unfold cnt
  rw [List.countP_append, List.countP_singleton]
  by_cases h : y ≤ v <;> simp [h]
theorem cntG_snoc (M : List Int) (y v : Int) : cntG (M ++ [v]) y = cntG M y + (if y < v then 1 else 0) := by
  unfold cntG
  rw [List.countP_append, List.countP_singleton]
  by_cases h : y < v <;> simp [h]
end Go.Proofs.Ytfoojhjhinofmaa
