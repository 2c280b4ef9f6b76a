/- What is let go of changes nothing of the rest, in plain words. -/
import Derived.Test.YtdcnfdhhflmdcaaRrA
import Derived.Test.YtdcnfdhhflmdcaaRsA
namespace Go.Proofs.Ytdcnfdhhflmdcaa
set_option linter.unusedSimpArgs false
set_option linter.unusedVariables false

theorem termE_drop {b : Int} {l : List Ent} {p : Nat} {i : Int} (hp : p ≤ l.length) (hi : b + p ≤ i) : termE (b + p) (l.drop p) i = termE b l i := by
  unfold termE
  rw [List.length_drop]
  by_cases h1 : i = b + p
  · rw [if_neg (by omega), if_pos h1, if_neg (by omega)]
    by_cases h2 : i = b
    · rw [if_pos h2]
    · rw [if_neg h2, if_neg (by omega)]
  · rw [if_neg (by omega), if_neg h1, if_neg (show ¬ i < b by omega), if_neg (show ¬ i = b by omega)]
    by_cases h2 : b + l.length < i
    · rw [if_pos (by omega), if_pos h2]
    · rw [if_neg (by omega), if_neg h2]
theorem termV_drop {b t : Int} {l : List Ent} {p : Nat} {i : Int} (hp : p ≤ l.length) (hi : b + p ≤ i) : termV (b + p) (termV b t l (b + p)) (l.drop p) i = termV b t l i := by
  by_cases h1 : i = b + p
  · subst h1
    generalize hv : termV b t l (b + p) = v
    unfold termV
    rw [if_neg (by omega), if_pos rfl]
  · generalize termV b t l (b + p) = v
    unfold termV
    rw [List.length_drop, if_neg (by omega), if_neg h1, if_neg (show ¬ i < b by omega), if_neg (show ¬ i = b by omega)]
    by_cases h2 : b + l.length < i
    · rw [if_pos (by omega), if_pos h2]
    · rw [if_neg (by omega), if_neg h2]
      rw [List.getD_eq_getElem?_getD, List.getD_eq_getElem?_getD, List.getElem?_drop, show p + (i - (b + p) - 1).toNat = (i - b - 1).toNat by omega]
theorem conf_drop {b t : Int} {l : List Ent} {p : Nat} (hp : p ≤ l.length) : ∀ (r : List Ent) (i : Int), b + p ≤ i → conf (b + p) (termV b t l (b + p)) (l.drop p) i r = conf b t l i r
  | [], _, _ => rfl
  | e :: r, i, hi => by
    unfold conf
    rw [termE_drop hp hi, termV_drop hp hi, conf_drop hp r (i + 1) (by omega)]
/-- Try of a compacted log -/
theorem try_base {L p : List Ent} {p0 prev : Nat} {U : Int} (h0 : p0 ≤ prev) (h1 : prev ≤ L.length) (hsm : prev + p.length ≤ 512) :
    tryR p0 (termV 0 0 L p0) (L.drop p0) prev U p = ((tryR 0 0 L prev U p).1, (tryR 0 0 L prev U p).2.drop p0) ∧ p0 ≤ (tryR 0 0 L prev U p).2.length := by
  have hp0 : p0 ≤ L.length := by omega
  have e0 : (0 : Int) + (p0 : Int) = (p0 : Int) := by omega
  unfold tryR
  by_cases hok : tryOk prev U p = false
  · rw [if_pos hok, if_pos hok]
    exact ⟨rfl, hp0⟩
  · rw [if_neg hok, if_neg hok, if_neg (by omega), if_neg (by omega)]
    have hE := termE_drop (b := 0) (l := L) (i := (prev : Int)) hp0 (by omega)
    have hV := termV_drop (b := 0) (t := 0) (l := L) (i := (prev : Int)) hp0 (by omega)
    have hC := conf_drop (b := 0) (t := 0) hp0 p ((prev : Int) + 1) (by omega)
    rw [e0] at hE hV hC
    unfold tailR
    rw [hE, hV, hC]
    by_cases hc : ¬ (termE 0 L (prev : Int) = 0 ∧ termV 0 0 L (prev : Int) = U)
    · rw [if_pos hc, if_pos hc]
      exact ⟨rfl, hp0⟩
    · rw [if_neg hc, if_neg hc]
      obtain ⟨hc1, hc2⟩ := Classical.not_not.1 hc
      have hce := (conf_end (b := 0) (t := 0) p prev U h1 (by rw [← termV_end (b := 0) h1, Int.zero_add]; exact hc2)).1
      rw [Int.zero_add] at hce
      have hcl := conf_le 0 0 L p ((prev : Int) + 1)
      generalize conf 0 0 L ((prev : Int) + 1) p = k at *
      by_cases hk : k = p.length
      · rw [if_pos hk, if_pos hk]
        exact ⟨rfl, hp0⟩
      · rw [if_neg hk, if_neg hk, if_neg (by omega), if_neg (by omega)]
        have e1 : ((prev : Int) + (k : Int) - (p0 : Int)).toNat = prev + k - p0 := by omega
        have e2 : ((prev : Int) + (k : Int) - 0).toNat = prev + k := by omega
        refine ⟨?_, ?_⟩
        · show (_, (L.drop p0).take _ ++ p.drop k) = (_, (L.take _ ++ p.drop k).drop p0)
          rw [e1, e2, List.drop_append_of_le_length (by rw [List.length_take]; omega), List.drop_take]
        · show p0 ≤ (L.take _ ++ p.drop k).length
          rw [e2, List.length_append, List.length_take]
          omega
/-- an index's term is a count, and a number where there is an entry -/
theorem rise_num : ∀ {t : Int} {l : List Ent} {e : Ent}, riseB t l = true → e ∈ l → numB e.term = true
  | t, x :: l, e, h, he => by
    simp only [riseB, Bool.and_eq_true] at h
    rcases List.mem_cons.1 he with rfl | h1
    · exact h.1.1
    · exact rise_num h.2 h1
theorem termV_num {L : List Ent} {p : Nat} (h : riseB 0 L = true) (hp : p ≤ L.length) (h0 : 0 < p) : numB (termV 0 0 L p) = true := by
  have := termV_end (b := 0) (t := 0) hp
  rw [Int.zero_add] at this
  rw [this]
  obtain ⟨q, rfl⟩ : ∃ q, p = q + 1 := ⟨p - 1, by omega⟩
  rw [end_take 0 L q (by omega), List.getD_eq_getElem?_getD, List.getElem?_eq_getElem (by omega), Option.getD_some]
  exact rise_num h (List.getElem_mem _)
theorem resE_zero {L : List Ent} {p : Nat} (h : riseB 0 L = true) (hp : p ≤ L.length) (hL : L.length ≤ 512) : resE p (termV 0 0 L p) (L.drop p) = 0 := by
  have hr := rise_drop h p
  have hv := termV_end (b := 0) (t := 0) hp
  rw [Int.zero_add] at hv
  rw [← hv] at hr
  have hc : cntB (termV 0 0 L p) = true ∧ ((((p : Int) == 0) == (termV 0 0 L p == 0)) = true) := by
    rcases Nat.eq_zero_or_pos p with rfl | h0
    · have e : termV 0 0 L ((0 : Nat) : Int) = 0 := by unfold termV; rw [if_neg (by omega), if_pos (by omega)]
      rw [e]
      exact ⟨by decide, by decide⟩
    · have hn := termV_num h hp h0
      unfold numB at hn
      have hn := of_decide_eq_true hn
      refine ⟨by unfold cntB; exact decide_eq_true (by omega), ?_⟩
      rw [beq_eq_false_iff_ne.2 (show (p : Int) ≠ 0 by omega), beq_eq_false_iff_ne.2 (show termV 0 0 L p ≠ 0 by omega)]
      rfl
  have hok : resOk p (termV 0 0 L p) (L.drop p) = true := by
    unfold resOk
    rw [hc.1, hc.2, hr, show cntB (p : Int) = true by unfold cntB; exact decide_eq_true (by omega), decide_eq_true (by rw [List.length_drop]; omega)]
    rfl
  unfold resE
  rw [if_neg (by rw [hok]; decide), if_neg (by rw [List.length_drop]; omega)]
end Go.Proofs.Ytdcnfdhhflmdcaa
