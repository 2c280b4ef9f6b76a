/- Locks, plain: who is wounded, lock by lock; the refusals one by one. -/
import Derived.Test.YtpidpdbjjdkhoaaGreatLkB
namespace Go.Proofs.YtpidpdbjjdkhoaaGreat
def vk (t : Tb) (x : Lk) (k : Nat) : List Idn := ((t.held.take k).filter (victim t x)).map (·.id)
theorem vk_all (t : Tb) (x : Lk) : vk t x t.held.length = victims t x := by unfold vk victims; rw [List.take_length]
theorem vk_0 (t : Tb) (x : Lk) : vk t x 0 = [] := by simp [vk]
theorem vk_on {t : Tb} {x l : Lk} {k : Nat} (h : t.held[k]? = some l) : vk t x (k + 1) = vk t x k ++ if victim t x l then [l.id] else [] := by
  unfold vk
  obtain ⟨hk, he⟩ := List.getElem?_eq_some_iff.1 h
  rw [List.take_succ_eq_append_getElem hk, he, List.filter_append, List.map_append]
  cases hv : victim t x l <;> simp [hv]
theorem ah_ol {a b : Lk} (h : ah a b = true) (hk : a.key = b.key) : ol a.id b.id = true := by
  unfold ah at h
  rw [hk, bl_self] at h
  simpa using h
theorem victim_conf {t : Tb} {x l : Lk} (h : victim t x l = true) : l.key = x.key := by
  unfold victim at h
  rw [Bool.and_eq_true, Bool.and_eq_true, Bool.and_eq_true] at h
  exact (conf_iff.1 h.1.1.1).1
theorem srt_vk {t : Tb} (hs : Srt ah t.held) (x : Lk) (k : Nat) : Srt ol (vk t x k) := by
  unfold vk Srt
  rw [List.pairwise_map]
  have h1 : List.Pairwise (fun a b => ah a b = true) ((t.held.take k).filter (victim t x)) := List.Pairwise.filter _ (List.Pairwise.sublist (List.take_sublist k t.held) hs)
  refine h1.imp_of_mem fun {a b} ha hb h => ?_
  exact ah_ol h ((victim_conf (List.mem_filter.1 ha).2).trans (victim_conf (List.mem_filter.1 hb).2).symm)
theorem vk_lt {t : Tb} (hs : Srt ah t.held) {x l : Lk} {k : Nat} (h : t.held[k]? = some l) (hc : conf l x = true) : ∀ i ∈ vk t x k, ol i l.id = true := by
  intro i hi
  unfold vk at hi
  obtain ⟨y, hy, rfl⟩ := List.mem_map.1 hi
  obtain ⟨hy, hv⟩ := List.mem_filter.1 hy
  obtain ⟨j, hj, rfl⟩ := List.mem_iff_getElem.1 hy
  obtain ⟨hk, rfl⟩ := List.getElem?_eq_some_iff.1 h
  rw [List.length_take] at hj
  rw [List.getElem_take] at hv ⊢
  have h1 : ah t.held[j] t.held[k] = true := List.pairwise_iff_getElem.1 hs j k (by omega) hk (by omega)
  exact ah_ol h1 ((victim_conf hv).trans (conf_iff.1 hc).1.symm)
theorem ins_end {i : Idn} : ∀ {L : List Idn}, (∀ y ∈ L, ol y i = true) → ins ol i L = L ++ [i]
  | [], _ => rfl
  | y :: L, h => by
    have h1 := h y (List.mem_cons_self ..)
    have h2 := ins_end (i := i) (L := L) (fun z hz => h z (List.mem_cons_of_mem _ hz))
    unfold ins
    simp [h1, h2]
theorem hurt_same {t : Tb} (hs : Srt ah t.held) {x l : Lk} {k : Nat} (h : t.held[k]? = some l) (hc : conf l x = true) : hasI (addAll t.hurt (vk t x k)) l.id = hasI t.hurt l.id := by
  rw [Bool.eq_iff_iff, hasI_iff, hasI_iff, mem_addAll]
  refine ⟨fun h1 => h1.resolve_right fun hm => ?_, .inl⟩
  have := vk_lt hs h hc _ hm
  rw [ol_ord.irr] at this
  cases this
theorem addAll_on (l v : List Idn) (i : Idn) : addAll l (v ++ [i]) = ins ol i (addAll l v) := by unfold addAll; rw [List.foldl_append]; rfl
theorem addAll_len : ∀ (v l : List Idn), (addAll l v).length ≤ l.length + v.length
  | [], l => by simp [addAll]
  | i :: v, l => by
    have h1 := addAll_len v (ins ol i l)
    have h2 := ins_len (lt := ol) (x := i) l
    show (addAll (ins ol i l) v).length ≤ _
    rw [List.length_cons]
    omega
theorem vk_len (t : Tb) (x : Lk) (k : Nat) : (vk t x k).length ≤ t.held.length := by
  unfold vk
  rw [List.length_map]
  exact Nat.le_trans (List.length_filter_le _ _) (by rw [List.length_take]; omega)
theorem vic_1 {t : Tb} {x l : Lk} (h : conf l x = false) : victim t x l = false := by unfold victim; rw [h]; rfl
theorem vic_2 {t : Tb} {x l : Lk} (h : ol x.id l.id = false) : victim t x l = false := by unfold victim; rw [h]; simp
theorem vic_3 {t : Tb} {x l : Lk} (h : hasI t.prep l.id = true) : victim t x l = false := by unfold victim; rw [h]; simp
theorem vic_4 {t : Tb} {x l : Lk} (h : hasI t.hurt l.id = true) : victim t x l = false := by unfold victim; rw [h]; simp
theorem vic_5 {t : Tb} {x l : Lk} (h1 : conf l x = true) (h2 : ol x.id l.id = true) (h3 : hasI t.prep l.id = false) (h4 : hasI t.hurt l.id = false) : victim t x l = true := by unfold victim; rw [h1, h2, h3, h4]; rfl
/-! ### the refusals -/
section
variable {t : Tb} {x : Lk}
theorem ref_1 (h : soundE x ≠ 0) : refuse t x = some (soundE x) := by unfold refuse; rw [if_pos h]
theorem ref_2 (h : soundE x = 0) (h2 : hasI t.hurt x.id = true) : refuse t x = some 8 := by unfold refuse; rw [if_neg (by rw [h]; simp), if_pos h2]
theorem ref_3 (h : soundE x = 0) (h2 : hasI t.hurt x.id = false) (h3 : x.mode ≤ modeI t x.id x.key) : refuse t x = some 0 := by unfold refuse; rw [if_neg (by rw [h]; simp), if_neg (by rw [h2]; simp), if_pos h3]
theorem ref_4 (h : soundE x = 0) (h2 : hasI t.hurt x.id = false) (h3 : ¬ x.mode ≤ modeI t x.id x.key) {y : Lk} (h4 : wantsL t x.id = some y) (h5 : y.key = x.key) (h6 : x.mode ≤ y.mode) : refuse t x = some 150 := by
  unfold refuse; rw [if_neg (by rw [h]; simp), if_neg (by rw [h2]; simp), if_neg h3, h4]; simp only; rw [if_pos ⟨h5, h6⟩]
theorem ref_5 (h : soundE x = 0) (h2 : hasI t.hurt x.id = false) (h3 : ¬ x.mode ≤ modeI t x.id x.key) {y : Lk} (h4 : wantsL t x.id = some y) (h5 : ¬ (y.key = x.key ∧ x.mode ≤ y.mode)) : refuse t x = some 152 := by
  unfold refuse; rw [if_neg (by rw [h]; simp), if_neg (by rw [h2]; simp), if_neg h3, h4]; simp only; rw [if_neg h5]
theorem ref_6 (h : soundE x = 0) (h2 : hasI t.hurt x.id = false) (h3 : ¬ x.mode ≤ modeI t x.id x.key) (h4 : wantsL t x.id = none) (h5 : hasI t.prep x.id = true) : refuse t x = some 8 := by
  unfold refuse; rw [if_neg (by rw [h]; simp), if_neg (by rw [h2]; simp), if_neg h3, h4]; simp only; rw [if_pos h5]
theorem ref_7 (h : soundE x = 0) (h2 : hasI t.hurt x.id = false) (h3 : ¬ x.mode ≤ modeI t x.id x.key) (h4 : wantsL t x.id = none) (h5 : hasI t.prep x.id = false) (h6 : fullB t x = true) : refuse t x = some 151 := by
  unfold refuse; rw [if_neg (by rw [h]; simp), if_neg (by rw [h2]; simp), if_neg h3, h4]; simp only; rw [if_neg (by rw [h5]; simp), if_pos h6]
theorem ref_8 (h : soundE x = 0) (h2 : hasI t.hurt x.id = false) (h3 : ¬ x.mode ≤ modeI t x.id x.key) (h4 : wantsL t x.id = none) (h5 : hasI t.prep x.id = false) (h6 : fullB t x = false) : refuse t x = none := by
  unfold refuse; rw [if_neg (by rw [h]; simp), if_neg (by rw [h2]; simp), if_neg h3, h4]; simp only; rw [if_neg (by rw [h5]; simp), if_neg (by rw [h6]; simp)]
theorem ask_some {c : Int} (h : refuse t x = some c) : askE t x = c ∧ askT t x = t ∧ askH t x = [] := by
  unfold askE askT askH; rw [h]; exact ⟨rfl, rfl, rfl⟩
theorem ask_yes (h : refuse t x = none) (hf : freeB t x = true) : askE t x = 0 ∧ askT t x = ⟨t.most, ins ah x t.held, t.wait, t.prep, addAll t.hurt (victims t x)⟩ ∧ askH t x = victims t x := by
  unfold askE askT askH; rw [h]; simp [hf]
theorem ask_no (h : refuse t x = none) (hf : freeB t x = false) : askE t x = 150 ∧ askT t x = ⟨t.most, t.held, ins ah x t.wait, t.prep, addAll t.hurt (victims t x)⟩ ∧ askH t x = victims t x := by
  unfold askE askT askH; rw [h]; simp [hf]
theorem free_hurt (u : List Idn) : freeB ⟨t.most, t.held, t.wait, t.prep, u⟩ x = freeB t x := rfl
end
end Go.Proofs.YtpidpdbjjdkhoaaGreat
