/- Locks, Restore, plain: both say yes to the same tables; what is let in is as a table must be. -/
import Derived.Test.YtpidpdbjjdkhoaaGreatGyF
import Derived.Test.YtpidpdbjjdkhoaaGreatLlD
import Derived.Test.YtpidpdbjjdkhoaaGreatGzF
namespace Go.Proofs.YtpidpdbjjdkhoaaGreat
open Go.RowKit
set_option linter.unusedSimpArgs false
set_option linter.unusedVariables false

theorem nb_iff {α : Type} {R : RowT α} {l : List α} {p : Nat → α → Bool} : nb R l p = true ↔ ∀ j, j < l.length → p j (gr R l j) = false := by
  unfold nb
  rw [List.all_eq_true]
  constructor
  · intro h j hj
    have := h j (List.mem_range.2 hj)
    simpa using this
  · intro h j hj
    rw [h j (List.mem_range.1 hj)]; rfl
theorem nb_congr {α : Type} {R : RowT α} {l : List α} {p p' : Nat → α → Bool} (h : ∀ j, j < l.length → p j (gr R l j) = p' j (gr R l j)) : nb R l p = nb R l p' := by
  rw [Bool.eq_iff_iff, nb_iff, nb_iff]
  exact ⟨fun h1 j hj => by rw [← h j hj]; exact h1 j hj, fun h1 j hj => by rw [h j hj]; exact h1 j hj⟩
theorem nb_mem {α : Type} {R : RowT α} {l : List α} {p : α → Bool} : nb R l (fun _ => p) = true ↔ ∀ x ∈ l, p x = false := by
  rw [nb_iff]
  constructor
  · intro h x hx
    obtain ⟨j, hj, rfl⟩ := List.mem_iff_getElem.1 hx
    have := h j hj
    rw [gr_at hj] at this
    exact this
  · intro h j hj
    exact h _ (gr_mem hj)
/-- the lists by themselves -/
theorem lists_ord (q : Tb) : listsB q = ordB q := by
  have L1 : ∀ l : List Lk, (!(l.any badL) && riseB lkR ah l) = nb lkR l (ordQ l) := fun l => by
    rw [Bool.eq_iff_iff, nb_iff, Bool.and_eq_true, Bool.not_eq_true', List.any_eq_false]
    constructor
    · rintro ⟨h1, h2⟩ j hj
      have h3 := h1 _ (gr_mem (R := lkR) hj)
      unfold badL at h3
      unfold ordQ
      cases j with
      | zero => simpa using h3
      | succ j =>
        have h4 := List.all_eq_true.1 h2 j (List.mem_range.2 (by omega))
        rw [show j + 1 - 1 = j by omega, h4]
        simpa using h3
    · intro h
      refine ⟨fun x hx => ?_, List.all_eq_true.2 (fun j hj => ?_)⟩
      · obtain ⟨j, hj, rfl⟩ := List.mem_iff_getElem.1 hx
        have h1 := h j hj
        unfold ordQ at h1
        rw [gr_at hj] at h1
        unfold badL
        simp at h1 ⊢
        exact h1.1
      · have hj := List.mem_range.1 hj
        have h1 := h (j + 1) (by omega)
        unfold ordQ at h1
        rw [show j + 1 - 1 = j by omega] at h1
        simp at h1
        exact h1.2
  have L2 : ∀ l : List Idn, (!(l.any badI) && riseB idR ol l) = nb idR l (risQ l) := fun l => by
    have hb : ∀ x : Idn, badI x = !idOk x := fun x => by
      unfold badI idE
      cases h : idOk x <;> simp
    rw [Bool.eq_iff_iff, nb_iff, Bool.and_eq_true, Bool.not_eq_true', List.any_eq_false]
    constructor
    · rintro ⟨h1, h2⟩ j hj
      have h3 := h1 _ (gr_mem (R := idR) hj)
      rw [hb] at h3
      unfold risQ
      cases j with
      | zero => simpa using h3
      | succ j =>
        have h4 := List.all_eq_true.1 h2 j (List.mem_range.2 (by omega))
        rw [show j + 1 - 1 = j by omega, h4]
        simpa using h3
    · intro h
      refine ⟨fun x hx => ?_, List.all_eq_true.2 (fun j hj => ?_)⟩
      · obtain ⟨j, hj, rfl⟩ := List.mem_iff_getElem.1 hx
        have h1 := h j hj
        unfold risQ at h1
        rw [gr_at hj] at h1
        rw [hb]
        simp at h1 ⊢
        exact h1.1
      · have hj := List.mem_range.1 hj
        have h1 := h (j + 1) (by omega)
        unfold risQ at h1
        rw [show j + 1 - 1 = j by omega] at h1
        simp at h1
        exact h1.2
  unfold listsB ordB
  rw [← L1, ← L1, ← L2, ← L2]
  cases q.held.any badL <;> cases q.wait.any badL <;> cases q.prep.any badI <;> cases q.hurt.any badI <;> cases riseB lkR ah q.held <;> cases riseB lkR ah q.wait <;> cases riseB idR ol q.prep <;> cases riseB idR ol q.hurt <;> rfl
theorem wants_wt (q : Tb) (i : Idn) : (wantsL q i).isSome = hasI (wt q q.wait.length) i := by
  rw [Bool.eq_iff_iff, hasI_iff]
  unfold wantsL wt
  rw [List.take_length, List.find?_isSome]
  simp only [List.mem_map, decide_eq_true_eq]
theorem known_has (q : Tb) (i : Idn) : knownB q i = hasB q (wt q q.wait.length) i := by
  unfold knownB hasB
  rw [wants_wt, Bool.or_comm]
theorem mode_012 {q : Tb} (hg : Good q) (id : Idn) (key : ByteArray) : modeI q id key = 0 ∨ modeI q id key = 1 ∨ modeI q id key = 2 := by
  by_cases h : modeI q id key = 0
  · exact .inl h
  · obtain ⟨y, hy, _, _, hm⟩ := mode_some h
    rw [← hm]
    exact .inr (sound_mode (hg.hs y hy))
theorem fits_good {q : Tb} (hg : Good q) : fitsB q = ((nb lkR q.held (g1 q) && (nb lkR q.wait (g2 q) && nb edR (edges q) (g5 q))) && markB q) := by
  have E1 : nb lkR q.held (f1 q) = nb lkR q.held (g1 q) := nb_congr (fun j hj => (any_confR hg.hs (hg.hs _ (gr_mem hj))).symm)
  have E2 : nb lkR q.wait (f2 q) = nb lkR q.wait (g2 q) := nb_congr (fun j hj => by
    have hs := hg.ws _ (gr_mem (R := lkR) hj)
    have hm : mayR q (gr lkR q.wait j) = freeB q (gr lkR q.wait j) := may_free hg hs
    unfold f2 g2
    rw [hm]
    rcases mode_012 hg (gr lkR q.wait j).id (gr lkR q.wait j).key with h | h | h <;> rcases sound_mode hs with h' | h' <;> rw [h, h'] <;> cases hasI (wt q j) (gr lkR q.wait j).id <;> cases freeB q (gr lkR q.wait j) <;> rfl)
  have E3 : nb idR q.prep (f3 q) = nb idR q.prep (m1 q) := nb_congr (fun j hj => by
    unfold f3 m1
    rw [known_has, wants_wt]
    cases hasI (wt q q.wait.length) (gr idR q.prep j) <;> cases hasB q (wt q q.wait.length) (gr idR q.prep j) <;> cases hasI q.hurt (gr idR q.prep j) <;> rfl)
  have E4 : nb idR q.hurt (f4 q) = nb idR q.hurt (m2 q) := nb_congr (fun j hj => by
    unfold f4 m2
    rw [known_has])
  have E5 : nb edR (edges q) (f5 q) = nb edR (edges q) (g5 q) := nb_congr (fun j hj => by
    unfold f5 g5 rightB
    cases ol (gr edR (edges q) j).h (gr edR (edges q) j).w <;> cases hasI q.prep (gr edR (edges q) j).h <;> cases hasI q.hurt (gr edR (edges q) j).h <;> rfl)
  unfold fitsB markB
  rw [E1, E2, E3, E4, E5]
  cases nb lkR q.held (g1 q) <;> cases nb lkR q.wait (g2 q) <;> cases nb idR q.prep (m1 q) <;> cases nb idR q.hurt (m2 q) <;> cases nb edR (edges q) (g5 q) <;> rfl
/-- both say yes to the same tables -/
theorem both_say (q : Tb) : (listsB q && fitsB q) = (goodB q && markB q) := by
  unfold goodB
  rw [lists_ord]
  cases h : ordB q with
  | false => rfl
  | true => rw [fits_good (good_ord h)]; rfl
/-- what is let in is as a table must be -/
theorem inv_of {q : Tb} (h : (listsB q && fitsB q) = true) : Inv q := by
  rw [Bool.and_eq_true] at h
  obtain ⟨hl, hf⟩ := h
  rw [lists_ord] at hl
  have hg := good_ord hl
  unfold fitsB at hf
  simp only [Bool.and_eq_true] at hf
  obtain ⟨F1, F2, F3, F4, F5⟩ := hf
  have a1 := nb_mem.1 F1
  have a3 := nb_mem.1 F3
  have a4 := nb_mem.1 F4
  have a5 := nb_mem.1 F5
  have w2 : ∀ j (hj : j < q.wait.length), f2 q j q.wait[j] = false := fun j hj => by
    have := nb_iff.1 F2 j hj
    rw [gr_at hj] at this
    exact this
  have hnw : ∀ i, hasI (wt q q.wait.length) i = false → ∀ w ∈ q.wait, w.id ≠ i := fun i h w hw e => by
    rw [hasI_no] at h
    exact h (by unfold wt; rw [List.take_length]; exact List.mem_map.2 ⟨w, hw, e⟩)
  have hkn : ∀ i, hasB q (wt q q.wait.length) i = true → ∃ x, (x ∈ q.held ∨ x ∈ q.wait) ∧ x.id = i := fun i h => by
    unfold hasB at h
    rw [Bool.or_eq_true, hasI_iff, List.any_eq_true] at h
    rcases h with h | ⟨y, hy, h⟩
    · unfold wt at h
      rw [List.take_length] at h
      obtain ⟨w, hw, rfl⟩ := List.mem_map.1 h
      exact ⟨w, .inr hw, rfl⟩
    · exact ⟨y, .inl hy, eqI_iff.1 h⟩
  have one : ∀ i j (hi : i < q.wait.length) (hj : j < q.wait.length), i < j → q.wait[i].id ≠ q.wait[j].id := fun i j hi hj hij e => by
    have h := w2 j hj
    unfold f2 at h
    rw [Bool.or_eq_false_iff] at h
    have h1 := h.1
    rw [hasI_no] at h1
    apply h1
    unfold wt
    exact List.mem_map.2 ⟨q.wait[i], List.mem_take_iff_getElem.2 ⟨i, by omega, rfl⟩, e⟩
  refine ⟨⟨hg, ?_, ?_, ?_, ?_, ?_, ?_, ?_⟩, ?_⟩
  · intro a ha b hb
    have h := a1 b hb
    unfold f1 at h
    rw [List.any_eq_false] at h
    have := h a ha
    simpa using this
  · intro a ha b hb e
    obtain ⟨i, hi, rfl⟩ := List.mem_iff_getElem.1 ha
    obtain ⟨j, hj, rfl⟩ := List.mem_iff_getElem.1 hb
    rcases Nat.lt_trichotomy i j with h | h | h
    · exact absurd e (one i j hi hj h)
    · subst h; rfl
    · exact absurd e.symm (one j i hj hi h)
  · intro w hw x hx hc
    have he : (⟨w.key, w.id, x.id⟩ : Edg) ∈ edges q := by
      unfold edges
      exact List.mem_flatMap.2 ⟨w, hw, List.mem_map.2 ⟨x, List.mem_filter.2 ⟨hx, hc⟩, rfl⟩⟩
    have h := a5 _ he
    unfold f5 at h
    simp only [Bool.and_eq_false_iff, Bool.not_eq_false'] at h
    rcases h with h | h | h
    · exact .inl h
    · exact .inr (.inl (hasI_iff.1 h))
    · exact .inr (.inr (hasI_iff.1 h))
  · intro w hw hp
    have h := a3 _ hp
    unfold f3 at h
    rw [Bool.or_eq_false_iff] at h
    exact hnw _ h.1 w hw rfl
  · intro i hi hu
    have h := a3 _ hi
    unfold f3 at h
    rw [Bool.or_eq_false_iff, Bool.or_eq_false_iff] at h
    exact hasI_no.1 h.2.2 hu
  · intro i hi
    rcases hi with hi | hi
    · have h := a3 _ hi
      unfold f3 at h
      rw [Bool.or_eq_false_iff, Bool.or_eq_false_iff] at h
      exact hkn i (by simpa using h.2.1)
    · have h := a4 _ hi
      unfold f4 at h
      exact hkn i (by simpa using h)
  · intro w hw x hx hk hid
    obtain ⟨j, hj, rfl⟩ := List.mem_iff_getElem.1 hw
    have h := w2 j hj
    unfold f2 at h
    have hm := mode_of hg.sh hx
    rw [hk, hid] at hm
    rw [hm] at h
    simp only [Bool.or_eq_false_iff, Bool.and_eq_false_iff, beq_eq_false_iff_ne] at h
    have h3 := sound_mode (hg.hs x hx)
    have h4 := sound_mode (hg.ws _ (List.getElem_mem hj))
    omega
  · intro w hw
    obtain ⟨j, hj, rfl⟩ := List.mem_iff_getElem.1 hw
    have h := w2 j hj
    unfold f2 at h
    simp only [Bool.or_eq_false_iff] at h
    exact h.2.2.2
end Go.Proofs.YtpidpdbjjdkhoaaGreat
