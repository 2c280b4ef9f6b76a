/- RlogMatch in plain words: logs match. -/
import Derived.Test.YtdcnfdhhflmdcaaEntW
namespace Go.Proofs.Ytdcnfdhhflmdcaa
set_option linter.unusedSimpArgs false
set_option linter.unusedVariables false

def gt (l : List Ent) (i : Nat) : Int := (l.getD i ent0).term
/-- where two logs have the same term, they have the same entries up to there -/
def Mt (l r : List Ent) : Prop := ∀ k, k < l.length → k < r.length → gt l k = gt r k → l.take (k + 1) = r.take (k + 1)
structure Inv (T : Int) (lead : Nat) (L : Nat → List Ent) : Prop where
  le : ∀ a, a < 3 → ∀ k, k < (L a).length → gt (L a) k ≤ T
  mt : ∀ a b, a < 3 → b < 3 → Mt (L a) (L b)
  top : ∀ a, a < 3 → ∀ k, k < (L a).length → gt (L a) k = T → k < (L lead).length ∧ (L a).take (k + 1) = (L lead).take (k + 1)
theorem gt_app_lt {l r : List Ent} {k : Nat} (h : k < l.length) : gt (l ++ r) k = gt l k := by
  unfold gt
  rw [List.getD_eq_getElem?_getD, List.getD_eq_getElem?_getD, List.getElem?_append_left h]
theorem gt_take {l : List Ent} {k n : Nat} (h : k < n) : gt (l.take n) k = gt l k := by
  unfold gt
  rw [List.getD_eq_getElem?_getD, List.getD_eq_getElem?_getD, List.getElem?_take, if_pos h]
theorem Mt.symm {l r : List Ent} (h : Mt l r) : Mt r l := fun k h1 h2 h3 => (h k h2 h1 h3.symm).symm
theorem Mt.refl (l : List Ent) : Mt l l := fun _ _ _ _ => rfl
theorem Mt.take {l r : List Ent} (h : Mt l r) (n : Nat) : Mt (l.take n) r := fun k h1 h2 h3 => by
  rw [List.length_take] at h1
  rw [gt_take (by omega)] at h3
  rw [List.take_take, Nat.min_eq_left (by omega)]
  exact h k (by omega) h2 h3
def upd {α : Type} (f : Nat → α) (i : Nat) (x : α) : Nat → α := fun j => if j = i then x else f j
theorem upd_same {α : Type} (f : Nat → α) (i : Nat) (x : α) : upd f i x i = x := if_pos rfl
theorem upd_other {α : Type} (f : Nat → α) {i j : Nat} (x : α) (h : j ≠ i) : upd f i x j = f j := if_neg h
theorem Inv.next {T : Int} {lead : Nat} {L : Nat → List Ent} (h : Inv T lead L) (a : Nat) : Inv (T + 1) a L :=
  ⟨fun b hb k hk => by have := h.le b hb k hk; omega, h.mt, fun b hb k hk he => by have := h.le b hb k hk; omega⟩
theorem Inv.start (a : Nat) : Inv 0 a (fun _ => []) := ⟨fun _ _ k hk => by simp at hk, fun _ _ _ _ _ k hk => by simp at hk, fun _ _ k hk => by simp at hk⟩
theorem Inv.same {T : Int} {lead : Nat} {L : Nat → List Ent} (h : Inv T lead L) (a : Nat) : Inv T lead (upd L a (L a)) := by
  have : upd L a (L a) = L := by funext j; unfold upd; split <;> simp_all
  rw [this]; exact h
theorem Inv.app {T : Int} {lead : Nat} {L : Nat → List Ent} (hl : lead < 3) (h : Inv T lead L) (e : Ent) (he : e.term = T) : Inv T lead (upd L lead (L lead ++ [e])) := by
  have hlen : (L lead ++ [e]).length = (L lead).length + 1 := by simp
  have hge : gt (L lead ++ [e]) (L lead).length = T := by unfold gt; rw [List.getD_eq_getElem?_getD, List.getElem?_append_right (Nat.le_refl _)]; simp [he]
  have tk : ∀ k, k < (L lead).length → (L lead ++ [e]).take (k + 1) = (L lead).take (k + 1) := fun k hk => List.take_append_of_le_length (by omega)
  -- another log against the leader's new one
  have key : ∀ b, b < 3 → ∀ k, k < (L b).length → k < (L lead ++ [e]).length → gt (L b) k = gt (L lead ++ [e]) k → (L b).take (k + 1) = (L lead ++ [e]).take (k + 1) := fun b hb k h1 h2 h3 => by
    rw [hlen] at h2
    rcases Nat.lt_or_ge k (L lead).length with hk | hk
    · rw [gt_app_lt hk] at h3
      rw [tk k hk]
      exact h.mt b lead hb hl k h1 hk h3
    · obtain rfl : k = (L lead).length := by omega
      rw [hge] at h3
      have := (h.top b hb _ h1 h3).1
      omega
  refine ⟨fun a ha k hk => ?_, fun a b ha hb => ?_, fun a ha k hk hT => ?_⟩
  · by_cases hal : a = lead
    · subst hal
      rw [upd_same] at hk ⊢
      rw [hlen] at hk
      rcases Nat.lt_or_ge k (L a).length with h1 | h1
      · rw [gt_app_lt h1]; exact h.le a ha k h1
      · obtain rfl : k = (L a).length := by omega
        rw [hge]; omega
    · rw [upd_other _ _ hal] at hk ⊢
      exact h.le a ha k hk
  · by_cases hal : a = lead
    · subst hal
      rw [upd_same]
      by_cases hbl : b = a
      · subst hbl; rw [upd_same]; exact Mt.refl _
      · rw [upd_other _ _ hbl]
        exact Mt.symm (fun k h1 h2 h3 => key b hb k h1 h2 h3)
    · rw [upd_other _ _ hal]
      by_cases hbl : b = lead
      · subst hbl; rw [upd_same]; exact fun k h1 h2 h3 => key a ha k h1 h2 h3
      · rw [upd_other _ _ hbl]; exact h.mt a b ha hb
  · rw [upd_same, hlen]
    by_cases hal : a = lead
    · subst hal
      rw [upd_same] at hk ⊢
      rw [hlen] at hk
      exact ⟨hk, rfl⟩
    · rw [upd_other _ _ hal] at hk hT ⊢
      obtain ⟨h1, h2⟩ := h.top a ha k hk hT
      exact ⟨by omega, by rw [tk k h1]; exact h2⟩
/-- a log becomes a piece of the leader's -/
theorem Inv.pre {T : Int} {lead : Nat} {L : Nat → List Ent} (hl : lead < 3) (h : Inv T lead L) (a : Nat) (ha : a < 3) (hal : a ≠ lead) (n : Nat) : Inv T lead (upd L a ((L lead).take n)) := by
  refine ⟨fun b hb k hk => ?_, fun b c hb hc => ?_, fun b hb k hk hT => ?_⟩
  · by_cases hba : b = a
    · subst hba
      rw [upd_same] at hk ⊢
      rw [List.length_take] at hk
      rw [gt_take (by omega)]
      exact h.le lead hl k (by omega)
    · rw [upd_other _ _ hba] at hk ⊢
      exact h.le b hb k hk
  · by_cases hba : b = a
    · subst hba
      rw [upd_same]
      by_cases hca : c = b
      · subst hca; rw [upd_same]; exact Mt.refl _
      · rw [upd_other _ _ hca]; exact (h.mt lead c hl hc).take n
    · rw [upd_other _ _ hba]
      by_cases hca : c = a
      · subst hca; rw [upd_same]; exact ((h.mt lead b hl hb).take n).symm
      · rw [upd_other _ _ hca]; exact h.mt b c hb hc
  · rw [upd_other _ _ (Ne.symm hal)]
    by_cases hba : b = a
    · subst hba
      rw [upd_same] at hk hT ⊢
      rw [List.length_take] at hk
      exact ⟨by omega, by rw [List.take_take, Nat.min_eq_left (by omega)]⟩
    · rw [upd_other _ _ hba] at hk hT ⊢
      exact h.top b hb k hk hT
/-! ### Try of a piece of the leader's log -/
theorem termV0 {l : List Ent} {i : Nat} (h : i < l.length) : termV 0 0 l ((i : Int) + 1) = gt l i := by
  unfold termV gt
  rw [if_neg (by omega), if_neg (by omega), if_neg (by omega), show ((i : Int) + 1 - 0 - 1).toNat = i by omega]
theorem termV00 (l : List Ent) : termV 0 0 l 0 = 0 := by unfold termV; rw [if_neg (by omega), if_pos rfl]
theorem take_of_term {l r : List Ent} (h : Mt l r) {n : Nat} (h1 : n ≤ l.length) (h2 : n ≤ r.length) (he : termV 0 0 l n = termV 0 0 r n) : l.take n = r.take n := by
  rcases n with _ | n
  · simp
  · rw [show ((n + 1 : Nat) : Int) = (n : Int) + 1 by omega, termV0 (by omega), termV0 (by omega)] at he
    exact h n (by omega) (by omega) he
/-- as far as the terms agree, the entries do -/
theorem conf_pre {l r : List Ent} (h : Mt l r) : ∀ (m n : Nat), n ≤ l.length → n ≤ r.length → l.take n = r.take n →
    n + conf 0 0 l ((n : Int) + 1) ((r.drop n).take m) ≤ l.length ∧ l.take (n + conf 0 0 l ((n : Int) + 1) ((r.drop n).take m)) = r.take (n + conf 0 0 l ((n : Int) + 1) ((r.drop n).take m)) := by
  intro m
  induction m with
  | zero => intro n h1 h2 he; simpa [conf] using ⟨h1, he⟩
  | succ m ih =>
    intro n h1 h2 he
    rcases Nat.lt_or_ge n r.length with hr | hr
    · rw [List.drop_eq_getElem_cons hr, List.take_succ_cons]
      unfold conf
      split
      · rename_i hc
        obtain ⟨hc1, hc2⟩ := hc
        have hnl : n < l.length := by have := (termE_zero.1 hc1).2; omega
        rw [termV0 hnl] at hc2
        have hgr : gt r n = (r[n]).term := by unfold gt; rw [List.getD_eq_getElem?_getD, List.getElem?_eq_getElem hr, Option.getD_some]
        have := ih (n + 1) (by omega) (by omega) (h n hnl hr (by rw [hc2, hgr]))
        rw [show ((n + 1 : Nat) : Int) + 1 = (n : Int) + 1 + 1 by omega] at this
        rw [show n + (conf 0 0 l ((n : Int) + 1 + 1) (List.take m (List.drop (n + 1) r)) + 1) = n + 1 + conf 0 0 l ((n : Int) + 1 + 1) (List.take m (List.drop (n + 1) r)) by omega]
        exact this
      · simpa using ⟨h1, he⟩
    · rw [List.drop_of_length_le hr]
      simpa [conf] using ⟨h1, he⟩
theorem try_match {l r : List Ent} (h : Mt l r) {prev m : Nat} (hp : prev ≤ r.length) : ∃ n, (tryR 0 0 l prev (termV 0 0 r prev) ((r.drop prev).take m)).2 = l ∨ (tryR 0 0 l prev (termV 0 0 r prev) ((r.drop prev).take m)).2 = r.take n := by
  unfold tryR
  split
  · exact ⟨0, .inl rfl⟩
  · rw [if_neg (by omega)]
    unfold tailR
    split
    · exact ⟨0, .inl rfl⟩
    · rename_i hc
      have hc := Classical.not_not.1 hc
      have hpl : prev ≤ l.length := by have := (termE_zero.1 hc.1).2; omega
      have het := take_of_term h hpl hp hc.2
      obtain ⟨hk1, hk2⟩ := conf_pre h m prev hpl hp het
      split
      · exact ⟨0, .inl rfl⟩
      · split
        · exact ⟨0, .inl rfl⟩
        · generalize hk : conf 0 0 l ((prev : Int) + 1) ((r.drop prev).take m) = k at *
          refine ⟨prev + m, .inr ?_⟩
          show l.take ((prev : Int) + k - 0).toNat ++ List.drop k ((r.drop prev).take m) = _
          rw [show ((prev : Int) + k - 0).toNat = prev + k by omega, hk2, List.drop_take, List.drop_drop]
          have hkm : k ≤ m := by
            have := conf_le 0 0 l ((r.drop prev).take m) ((prev : Int) + 1)
            rw [hk, List.length_take] at this
            omega
          rw [show prev + m = (prev + k) + (m - k) by omega]
          simp only [List.take_add, List.append_assoc, List.drop_drop]
end Go.Proofs.Ytdcnfdhhflmdcaa
