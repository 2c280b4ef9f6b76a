/- Terms rise, in plain words. -/
import Derived.Test.YtdcnfdhhflmdcaaEntW
namespace Go.Proofs.Ytdcnfdhhflmdcaa
set_option linter.unusedSimpArgs false
set_option linter.unusedVariables false

def endT : Int → List Ent → Int
  | t, [] => t
  | _, e :: r => endT e.term r
theorem rise_app : ∀ (t : Int) (l r : List Ent), riseB t (l ++ r) = (riseB t l && riseB (endT t l) r)
  | t, [], r => by simp [riseB, endT]
  | t, e :: l, r => by
    show (numB e.term && decide (t ≤ e.term) && riseB e.term (l ++ r)) = (numB e.term && decide (t ≤ e.term) && riseB e.term l && riseB (endT e.term l) r)
    rw [rise_app e.term l r]
    simp only [Bool.and_assoc]
theorem end_app : ∀ (t : Int) (l r : List Ent), endT t (l ++ r) = endT (endT t l) r
  | t, [], r => rfl
  | t, e :: l, r => end_app e.term l r
theorem end_take : ∀ (t : Int) (l : List Ent) (k : Nat), k < l.length → endT t (l.take (k + 1)) = (l.getD k ent0).term
  | t, e :: l, 0, _ => by simp [endT]
  | t, e :: l, k + 1, h => by
    rw [List.take_succ_cons]
    show endT e.term (l.take (k + 1)) = _
    rw [end_take e.term l k (by simpa using h)]
    rfl
/-- the term at an index that is there is that of the last one up to there -/
theorem termV_end {b t : Int} {l : List Ent} {k : Nat} (h : k ≤ l.length) : termV b t l (b + k) = endT t (l.take k) := by
  unfold termV
  rw [if_neg (by omega)]
  rcases k with _ | k
  · rw [if_pos (by omega)]; simp [endT]
  · rw [if_neg (by omega), if_neg (by omega), end_take t l k h, show (b + ((k + 1 : Nat) : Int) - b - 1).toNat = k by omega]
theorem lastT_end (b t : Int) (l : List Ent) : lastT b t l = endT t l := by
  unfold lastT
  rw [termV_end (Nat.le_refl _), List.take_length]
theorem rise_end : ∀ {t : Int} {l : List Ent}, riseB t l = true → t ≤ endT t l
  | t, [], _ => Int.le_refl _
  | t, e :: l, h => by
    simp only [riseB, Bool.and_eq_true, decide_eq_true_eq] at h
    have := rise_end h.2
    show t ≤ endT e.term l
    omega
theorem rise_drop {t : Int} {l : List Ent} (h : riseB t l = true) (k : Nat) : riseB (endT t (l.take k)) (l.drop k) = true := by
  rw [← List.take_append_drop k l, rise_app, Bool.and_eq_true] at h
  exact h.2
theorem rise_take {t : Int} {l : List Ent} (h : riseB t l = true) (k : Nat) : riseB t (l.take k) = true := by
  rw [← List.take_append_drop k l, rise_app, Bool.and_eq_true] at h
  exact h.1
theorem rise_append {b t : Int} {l : List Ent} {e : Ent} (h : riseB t l = true) : riseB t (appL b t l e) = true := by
  unfold appL
  split
  · rename_i he
    rw [rise_app, h, Bool.true_and]
    unfold appE at he
    by_cases h1 : numB e.term = false
    · rw [if_pos h1] at he; omega
    · rw [if_neg h1] at he
      by_cases h2 : e.term < lastT b t l
      · rw [if_pos h2] at he; omega
      · rw [lastT_end] at h2
        simp only [riseB, Bool.and_true, Bool.and_eq_true, decide_eq_true_eq]
        exact ⟨by simpa using h1, by omega⟩
  · exact h
theorem rise_compact {b t : Int} {l : List Ent} {i : Int} (h : riseB t l = true) : riseB (compT b t l i) (compL b l i) = true := by
  unfold compT compL
  split
  · rename_i he
    obtain ⟨h1, h2⟩ := termE_zero.1 he
    obtain ⟨k, hk⟩ := Int.eq_ofNat_of_zero_le (show 0 ≤ i - b by omega)
    obtain rfl : i = b + k := by omega
    rw [termV_end (by omega), show (b + (k : Int) - b).toNat = k by omega]
    exact rise_drop h k
  · exact h
/-- what agrees has the terms that are there -/
theorem conf_end {b t : Int} {l : List Ent} : ∀ (p : List Ent) (J : Nat) (T : Int), J ≤ l.length → endT t (l.take J) = T →
    J + conf b t l (b + J + 1) p ≤ l.length ∧ endT t (l.take (J + conf b t l (b + J + 1) p)) = endT T (p.take (conf b t l (b + J + 1) p))
  | [], J, T, hJ, hT => by simpa [conf, endT] using ⟨hJ, hT⟩
  | e :: r, J, T, hJ, hT => by
    unfold conf
    split
    · rename_i hc
      obtain ⟨hc1, hc2⟩ := hc
      have hJ1 : J + 1 ≤ l.length := by have := (termE_zero.1 hc1).2; omega
      rw [show b + (J : Int) + 1 = b + ((J + 1 : Nat) : Int) by omega, termV_end hJ1] at hc2
      have := conf_end (b := b) r (J + 1) e.term hJ1 hc2
      rw [show b + ((J + 1 : Nat) : Int) + 1 = b + (J : Int) + 1 + 1 by omega] at this
      refine ⟨by omega, ?_⟩
      rw [List.take_succ_cons, show J + (conf b t l (b + (J : Int) + 1 + 1) r + 1) = J + 1 + conf b t l (b + (J : Int) + 1 + 1) r by omega, this.2]
      rfl
    · simpa [endT] using ⟨hJ, hT⟩
theorem rise_tail {x b t : Int} {l : List Ent} {prev term : Int} {p : List Ent} (h : riseB t l = true) (hp : riseB term p = true) : riseB t (tailR x b t l prev term p).2 = true := by
  unfold tailR
  split
  · exact h
  · rename_i hc
    obtain ⟨h1, h2⟩ := Classical.not_not.1 hc
    obtain ⟨h3, h4⟩ := termE_zero.1 h1
    obtain ⟨J, hJ⟩ := Int.eq_ofNat_of_zero_le (show 0 ≤ prev - b by omega)
    obtain rfl : prev = b + J := by omega
    rw [termV_end (by omega)] at h2
    split
    · exact h
    · split
      · exact h
      · obtain ⟨h5, h6⟩ := conf_end (b := b) p J term (by omega) h2
        show riseB t (l.take _ ++ p.drop _) = true
        generalize conf b t l (b + (J : Int) + 1) p = k at *
        rw [show (b + (J : Int) + (k : Int) - b).toNat = J + k by omega, rise_app, rise_take h, Bool.true_and, h6]
        exact rise_drop hp k
theorem rise_try {b t : Int} {l : List Ent} {prev term : Int} {p : List Ent} (h : riseB t l = true) : riseB t (tryR b t l prev term p).2 = true := by
  unfold tryR
  split
  · exact h
  · rename_i hok
    have hp : riseB term p = true := by
      unfold tryOk at hok
      simp only [Bool.not_eq_false, Bool.and_eq_true] at hok
      exact hok.1.2
    split
    · split
      · exact h
      · split
        · exact h
        · rename_i hle hlt
          refine rise_tail h ?_
          generalize hk : (b - prev).toNat = k at *
          have hkl : k < p.length := by omega
          have h1 := rise_drop hp k
          rw [List.drop_eq_getElem_cons hkl] at h1 ⊢
          have hg : p.getD k ent0 = p[k] := by rw [List.getD_eq_getElem?_getD, List.getElem?_eq_getElem hkl, Option.getD_some]
          rw [hg] at hlt
          simp only [riseB, Bool.and_eq_true, decide_eq_true_eq] at h1 ⊢
          exact ⟨⟨h1.1.1, by omega⟩, h1.2⟩
    · exact rise_tail h hp
end Go.Proofs.Ytdcnfdhhflmdcaa
