/- Layer 12, plain: the shares of all groups, taken together. -/
import Derived.Test.YthenjpenfemmbaaDtB
namespace Go.Proofs.Ythenjpenfemmbaa
open Go.RowKit
set_option linter.unusedVariables false

def inG (L : List ByteArray) (g : Int) (x : Wrt) : Bool := grp L x.key == g
theorem shr_nat (L : List ByteArray) (g : Nat) (l : List Wrt) : shr L g l = l.filter (inG L g) := by
  rw [shr_pos (by omega)]
  unfold keepW
  apply List.filter_congr
  intro x _
  simp [oth, inG, bne]
theorem grp_good {L : List ByteArray} {s : ByteArray} (h : keyB s = true) : 0 ≤ grp L s ∧ grp L s ≤ L.length := by
  have := cntE_le L s
  unfold grp
  rw [h, if_pos rfl]
  omega
theorem grp_bad {L : List ByteArray} {s : ByteArray} (h : keyB s = false) : grp L s = -1 := by
  unfold grp
  rw [h]
  rfl
theorem shr_over (L : List ByteArray) (l : List Wrt) : shr L ((L.length : Int) + 1) l = [] := by
  have := shr_nat L (L.length + 1) l
  rw [show ((L.length + 1 : Nat) : Int) = (L.length : Int) + 1 by omega] at this
  rw [this, List.filter_eq_nil_iff]
  intro x _
  unfold inG
  cases hk : keyB x.key with
  | true => have := grp_good (L := L) hk; simp; omega
  | false => rw [grp_bad hk]; simp; omega
theorem shr_under (L : List ByteArray) (l : List Wrt) : shr L (-1) l = [] := shr_neg (by omega) l
/-- the good keys -/
def gdK (l : List Wrt) : List ByteArray := (l.filter fun x => keyB x.key).map (·.key)
theorem gdK_on {l : List Wrt} {k : Nat} (h : k < l.length) : gdK (l.take (k + 1)) = gdK (l.take k) ++ (if keyB (gw l k).key then [(gw l k).key] else []) := by
  unfold gdK
  rw [take_onW h, List.filter_append, List.map_append]
  cases hk : keyB (gw l k).key <;> simp [hk]
theorem gdK_len (l : List Wrt) : (gdK l).length ≤ l.length := by
  unfold gdK
  rw [List.length_map]
  exact List.length_filter_le _ _
theorem gdK_good (l : List Wrt) : goodK (gdK l) = true := by
  unfold goodK gdK
  rw [List.all_eq_true]
  intro s hs
  obtain ⟨x, hx, rfl⟩ := List.mem_map.1 hs
  exact (List.mem_filter.1 hx).2
/-- the shares of the groups below g, counted -/
def allB (L : List ByteArray) (l : List Wrt) (g : Nat) : Nat := (l.filter fun x => keyB x.key && decide (grp L x.key < g)).length
theorem allB_zero (L : List ByteArray) (l : List Wrt) : allB L l 0 = 0 := by
  unfold allB
  rw [List.length_eq_zero_iff, List.filter_eq_nil_iff]
  intro x _
  cases hk : keyB x.key with
  | true => have := grp_good (L := L) hk; simp; omega
  | false => simp
theorem allB_on (L : List ByteArray) (l : List Wrt) (g : Nat) : allB L l (g + 1) = allB L l g + (shr L g l).length := by
  rw [shr_nat]
  unfold allB
  induction l with
  | nil => rfl
  | cons x r ih =>
    simp only [List.filter_cons]
    cases hk : keyB x.key with
    | false =>
      have h1 : inG L g x = false := by unfold inG; rw [grp_bad hk, beq_eq_false_iff_ne]; omega
      simp only [h1, Bool.false_and]
      simpa using ih
    | true =>
      have h0 := grp_good (L := L) hk
      by_cases h1 : grp L x.key < g
      · have h2 : inG L g x = false := by unfold inG; simp; omega
        have h3 : decide (grp L x.key < ((g + 1 : Nat) : Int)) = true := decide_eq_true (by omega)
        have h4 : decide (grp L x.key < (g : Int)) = true := decide_eq_true h1
        simp only [h2, h3, h4, Bool.true_and]
        simp at ih ⊢
        omega
      · by_cases h5 : grp L x.key = g
        · have h2 : inG L g x = true := by unfold inG; simp; omega
          have h3 : decide (grp L x.key < ((g + 1 : Nat) : Int)) = true := decide_eq_true (by omega)
          have h4 : decide (grp L x.key < (g : Int)) = false := decide_eq_false h1
          simp only [h2, h3, h4, Bool.true_and]
          simp at ih ⊢
          omega
        · have h2 : inG L g x = false := by unfold inG; simp; omega
          have h3 : decide (grp L x.key < ((g + 1 : Nat) : Int)) = false := decide_eq_false (by omega)
          have h4 : decide (grp L x.key < (g : Int)) = false := decide_eq_false h1
          simp only [h2, h3, h4, Bool.true_and]
          simpa using ih
theorem allB_le (L : List ByteArray) (l : List Wrt) (g : Nat) : allB L l g ≤ l.length := List.length_filter_le _ _
theorem allB_end (L : List ByteArray) (l : List Wrt) : allB L l (L.length + 1) = (gdK l).length := by
  unfold allB gdK
  rw [List.length_map]
  congr 1
  apply List.filter_congr
  intro x _
  cases hk : keyB x.key with
  | true => have := grp_good (L := L) hk; simp; omega
  | false => simp
theorem mem_grps (L : List ByteArray) (l : List Wrt) (g : Nat) : ((g : Int) ∈ grps L (gdK l)) ↔ 0 < (shr L g l).length := by
  rw [shr_nat, List.length_pos_iff_exists_mem]
  unfold grps gdK
  simp only [List.mem_map, List.mem_filter]
  constructor
  · rintro ⟨s, ⟨x, ⟨hx, hk⟩, rfl⟩, h⟩
    exact ⟨x, hx, by unfold inG; rw [h]; simp⟩
  · rintro ⟨x, hx, h⟩
    have h1 : grp L x.key = g := by simpa [inG] using h
    refine ⟨x.key, ⟨x, ⟨hx, ?_⟩, rfl⟩, h1⟩
    cases hk : keyB x.key with
    | true => rfl
    | false => rw [grp_bad hk] at h1; omega
theorem fewK_le (S : List Int) {g h : Nat} (hgh : g ≤ h) : ∃ r, fewK S h = fewK S g ++ r := by
  induction h with
  | zero => exact ⟨[], by rw [show g = 0 by omega]; simp⟩
  | succ h ih =>
    by_cases e : g = h + 1
    · exact ⟨[], by rw [e]; simp⟩
    · obtain ⟨r, hr⟩ := ih (by omega)
      exact ⟨r ++ _, by rw [fewK_on, hr, List.append_assoc]⟩
theorem few_at {S : List Int} {g : Nat} (hg : g < 8) (h : (g : Int) ∈ S) : (fewK S g).length < (fewK S 8).length ∧ gm (fewK S 8) (fewK S g).length = g := by
  obtain ⟨r, hr⟩ := fewK_le S (show g + 1 ≤ 8 by omega)
  rw [fewK_on S g, if_pos (decide_eq_true h), List.append_assoc] at hr
  rw [hr]
  refine ⟨by simp, ?_⟩
  unfold gm
  simp
theorem few_end {L : List ByteArray} (hf : L.length < 8) (l : List Wrt) : ofL L (gdK l) = fewK (grps L (gdK l)) 8 ∧ (fewK (grps L (gdK l)) (L.length + 1)).length = (fewK (grps L (gdK l)) 8).length := by
  refine ⟨by unfold ofL; rw [gdK_good, if_pos rfl]; rfl, ?_⟩
  have key : ∀ h, L.length + 1 ≤ h → fewK (grps L (gdK l)) h = fewK (grps L (gdK l)) (L.length + 1) := by
    intro h
    induction h with
    | zero => intro h; omega
    | succ h ih =>
      intro hh
      by_cases e : L.length + 1 = h + 1
      · rw [e]
      · rw [fewK_on, ih (by omega)]
        have hno : ¬ ((h : Int) ∈ grps L (gdK l)) := by
          intro hm
          obtain ⟨s, hs, he⟩ := List.mem_map.1 hm
          have hk := List.all_eq_true.1 (gdK_good l) s hs
          have := grp_good (L := L) hk
          omega
        rw [if_neg (by simpa using hno), List.append_nil]
  rw [key 8 (by omega)]
theorem few_step (L : List ByteArray) (l : List Wrt) (g : Nat) : (fewK (grps L (gdK l)) (g + 1)).length = (fewK (grps L (gdK l)) g).length + (if 0 < (shr L g l).length then 1 else 0) := by
  rw [fewK_on]
  by_cases h : 0 < (shr L g l).length
  · rw [if_pos h, if_pos (decide_eq_true ((mem_grps L l g).2 h))]; simp
  · rw [if_neg h, if_neg (by simpa using fun hm => h ((mem_grps L l g).1 hm))]; simp
theorem ofL_len' (L K : List ByteArray) : (ofL L K).length ≤ 8 := by
  unfold ofL
  split
  · exact fewK_len (grps L K) 8
  · simp
/-- how far the search has come -/
def At (L : List ByteArray) (g : Int) (l S : List Wrt) (i k : Nat) : Prop := (l.drop k).filter (inG L g) = S.drop i
theorem at_start {L : List ByteArray} {g : Nat} {l : List Wrt} : At L g l (shr L g l) 0 0 := by unfold At; rw [shr_nat]; simp
theorem at_more {L : List ByteArray} {g : Int} {l S : List Wrt} {i k : Nat} (h : At L g l S i k) (hi : i < S.length) (hk : k ≤ l.length) :
    k < l.length ∧ grp L (gw S i).key = g ∧ (gw l k ≠ gw S i → At L g l S i (k + 1)) ∧ (gw l k = gw S i → At L g l S (i + 1) (k + 1)) := by
  unfold At at h ⊢
  have hkl : k < l.length := by
    rcases Nat.lt_or_ge k l.length with h1 | h1
    · exact h1
    · rw [List.drop_of_length_le h1] at h
      have := congrArg List.length h
      simp at this
      omega
  have hm : gw S i ∈ (l.drop k).filter (inG L g) := by
    rw [h, List.drop_eq_getElem_cons hi, gw_at hi]
    exact List.mem_cons_self
  have hin := (List.mem_filter.1 hm).2
  rw [List.drop_eq_getElem_cons hkl, List.drop_eq_getElem_cons hi, List.filter_cons, ← gw_at hkl, ← gw_at hi] at h
  refine ⟨hkl, by simpa [inG] using hin, fun hne => ?_, fun he => ?_⟩
  · cases hg : inG L g (gw l k) with
    | true =>
      rw [hg, if_pos rfl] at h
      exact absurd (List.cons.inj h).1 hne
    | false =>
      rw [hg] at h
      simp only [Bool.false_eq_true, if_false] at h
      rw [h, List.drop_eq_getElem_cons hi, gw_at hi]
  · rw [he, hin, if_pos rfl] at h
    exact (List.cons.inj h).2
theorem toList_eq_iff (a b : ByteArray) : (a.toList == b.toList) = true ↔ a = b := by rw [eq_toList]; simp
theorem neW_false {x y : Wrt} (h : neW x y = false) : x = y := by
  unfold neW at h
  simp only [Bool.not_eq_false', Bool.and_eq_true] at h
  obtain ⟨⟨h1, h2⟩, h3⟩ := h
  have e1 := (toList_eq_iff _ _).1 h1
  have e2 := (toList_eq_iff _ _).1 h2
  have e3 : x.del = y.del := by simpa using h3
  cases x; cases y
  simp at e1 e2 e3
  simp [e1, e2, e3]
theorem neW_true {x y : Wrt} (h : neW x y = true) : x ≠ y := by
  rintro rfl
  rw [neW_self] at h
  cases h
end Go.Proofs.Ythenjpenfemmbaa
