/- Locks: the keys of an End, sorted, each once. -/
import Derived.Test.YtpidpdbjjdkhoaaGreatLkU
import Derived.Test.YtpidpdbjjdkhoaaGreatLkC
import Derived.Test.YtpidpdbjjdkhoaaGreatSh
import Derived.Sort.OwnSorted
import Derived.Lib.SlicesCompact
namespace Go.Proofs.YtpidpdbjjdkhoaaGreat
open Go.RowKit Go.Sort
set_option linter.unusedSimpArgs false
set_option linter.unusedVariables false

def bsS (K : List ByteArray) : List (List UInt8) := K.map (·.data.toList)
def unS (l : List (List UInt8)) : List ByteArray := l.map fun x => ⟨x.toArray⟩
theorem un_bs (K : List ByteArray) : unS (bsS K) = K := by
  unfold unS bsS
  rw [List.map_map]
  exact List.map_id'' (fun x => rfl) K
theorem un_len (l : List (List UInt8)) : (unS l).length = l.length := by simp [unS]
theorem bs_len (K : List ByteArray) : (bsS K).length = K.length := by simp [bsS]
theorem rc_un (l : List (List UInt8)) : rc strR (unS l) = l.map encStr := by
  induction l with
  | nil => rfl
  | cons x r ih => show strR.cells ⟨x.toArray⟩ ++ rc strR (unS r) = _; rw [ih]; rfl
theorem rc_bs (K : List ByteArray) : rc strR K = (bsS K).map encStr := by rw [← rc_un, un_bs]
def srtS (K : List ByteArray) : List ByteArray := unS ((bsS K).mergeSort fun x y => decide (x ≤ y))
def cmpctS (K : List ByteArray) : List ByteArray := unS (Lib.compact (bsS K))
theorem srtS_len (K : List ByteArray) : (srtS K).length = K.length := by unfold srtS; rw [un_len, (List.mergeSort_perm _ _).length_eq, bs_len]
theorem srtS_nil : srtS [] = [] := by simp [srtS, bsS, unS]
theorem cmp_eq (zs : List (List UInt8)) : Lib.compact zs = ((List.range zs.length).filter (Lib.keeps zs.toArray)).map (zs.toArray[·]!) := rfl
theorem cmp_len (zs : List (List UInt8)) : (Lib.compact zs).length ≤ zs.length := by
  rw [cmp_eq, List.length_map]
  exact Nat.le_trans (List.length_filter_le _ _) (by simp)
theorem cmpctS_len (K : List ByteArray) : (cmpctS K).length ≤ K.length := by
  unfold cmpctS
  rw [un_len, ← bs_len K]
  exact cmp_len _
set_option maxHeartbeats 1000000 in
theorem sortS_any (A : Option Addr) (c : Nat) (K : List ByteArray) (w : World) (hown : w.ownsRow 0 9 1 (.slice A K.length c) K.length (rc strR K)) (hl : K.length < 4611686018427387904) :
    Calls Tryz.prog 58 #[.slice A K.length c] w fun e w' => e = .returned (.tuple #[]) ∧ w'.ownsRow 0 9 1 (.slice A (srtS K).length c) (srtS K).length (rc strR (srtS K)) ∧ Kept (ob A) w w' := by
  rcases hown.2 with ⟨hv, hx⟩ | ⟨g, cap, cur, hv, hbg, hg, hnc, hcm, hcs, htake⟩
  · injection hv with hA hn hc
    subst hA hc
    obtain rfl : K = [] := List.eq_nil_of_length_eq_zero hn
    refine (Tryz.slices_Sort_string_none none 0 w).mono fun e w' ⟨he, hw⟩ => ?_
    subst hw
    rw [srtS_nil]
    exact ⟨he, hown, Kept.refl _ _⟩
  · injection hv with hA hn hc
    subst hA hc
    have hH : Holds encStr w g 0 (bsS K).toArray := holds_of_block hg (by rw [Nat.mul_one] at htake; rw [bs_len, htake, rc_bs])
    have hgl : g < w.heap.size := by
      rcases Nat.lt_or_ge g w.heap.size with h | h
      · exact h
      · rw [Array.getElem?_eq_none h] at hg; cases hg
    have hc := Tryz.slices_Sort_string g 0 c (bsS K) w hH hgl (by rw [bs_len]; exact hl)
    rw [bs_len] at hc
    refine hc.mono fun e w' ⟨he, n, os, hw⟩ => ?_
    subst hw
    have hrow := ownsRow_sorted (n := n) (os := os) (ss := bsS K) (ts := (bsS K).mergeSort fun x y => decide (x ≤ y)) (List.mergeSort_perm _ _).length_eq hbg hg (by rw [bs_len]; exact hnc) hcm hcs
    rw [bs_len, ← rc_un] at hrow
    rw [srtS_len]
    exact ⟨he, hrow, Kept.of_grown (grownBy_sorted _)⟩
theorem growS_nil (w : World) : grow w #[] = w := by simp [grow]
set_option maxHeartbeats 1000000 in
theorem compactS_any (A : Option Addr) (c : Nat) (K : List ByteArray) (w : World) (hown : w.ownsRow 0 9 1 (.slice A K.length c) K.length (rc strR K)) (hl : K.length < 4611686018427387904) :
    Calls Tryz.prog 59 #[.slice A K.length c] w fun e w' => e = .returned (.slice A (cmpctS K).length c) ∧ w'.ownsRow 0 9 1 (.slice A (cmpctS K).length c) (cmpctS K).length (rc strR (cmpctS K)) ∧ Kept (ob A) w w' := by
  rcases hown.2 with ⟨hv, hx⟩ | ⟨g, cap, cur, hv, hbg, hg, hnc, hcm, hcs, htake⟩
  · injection hv with hA hn hc
    subst hA hc
    obtain rfl : K = [] := List.eq_nil_of_length_eq_zero hn
    refine (Tryz.slices_Compact_string_empty none 0 w).mono fun e w' ⟨he, hw⟩ => ?_
    subst hw
    exact ⟨he, hown, Kept.refl _ _⟩
  · injection hv with hA hn hc
    subst hA hc
    have hH : Holds encStr w g 0 (bsS K).toArray := holds_of_block hg (by rw [Nat.mul_one] at htake; rw [bs_len, htake, rc_bs])
    have hc := Tryz.slices_Compact_string g 0 c (bsS K) w hH (by rw [bs_len]; omega) (by rw [bs_len]; exact hnc)
    rw [bs_len] at hc
    refine hc.mono fun e w' ⟨he, n, hw⟩ => ?_
    have hcl := cmp_len (bsS K)
    rw [bs_len] at hcl
    have hww : w' = grow (putRow encStr (Sort.ahead w n) g 0 (Lib.compact (bsS K) ++ List.replicate (K.length - (Lib.compact (bsS K)).length) []).toArray) #[] := by rw [growS_nil]; exact hw
    subst hww
    have hrow := ownsRow_sorted (w := w) (n := n) (os := #[]) (ss := bsS K) (ts := Lib.compact (bsS K) ++ List.replicate (K.length - (Lib.compact (bsS K)).length) []) (by simp [bs_len]; omega) hbg hg (by rw [bs_len]; exact hnc) hcm hcs
    rw [bs_len] at hrow
    have ht := own_take hrow hcl (by simp)
    rw [Nat.mul_one] at ht
    have e1 : ((Lib.compact (bsS K) ++ List.replicate (K.length - (Lib.compact (bsS K)).length) []).map encStr).take (Lib.compact (bsS K)).length = rc strR (cmpctS K) := by
      unfold cmpctS
      rw [rc_un, List.map_append, List.take_append_of_le_length (by simp), List.take_of_length_le (by simp)]
    rw [e1] at ht
    have e2 : (cmpctS K).length = (Lib.compact (bsS K)).length := un_len _
    rw [e2]
    exact ⟨he, ht, Kept.of_grown (grownBy_sorted _)⟩
/-! ### plain: they are keysOf -/
theorem keepsS_iff (zs : List (List UInt8)) (j : Nat) (hj : j < zs.length) : Lib.keeps zs.toArray j = true ↔ (j = 0 ∨ zs[j]! ≠ zs[j - 1]!) := by
  unfold Lib.keeps
  rcases j with _ | j
  · simp
  · simp
theorem cmp_mem (zs : List (List UInt8)) (x : List UInt8) : x ∈ Lib.compact zs ↔ x ∈ zs := by
  rw [cmp_eq]
  simp only [List.mem_map, List.mem_filter, List.mem_range]
  constructor
  · rintro ⟨j, ⟨hj, _⟩, rfl⟩
    simp [hj]
  · intro hx
    have hlt := List.idxOf_lt_length_of_mem hx
    have hat : zs[zs.idxOf x]! = x := by
      rw [getElem!_pos zs _ hlt]
      exact List.getElem_idxOf hlt
    refine ⟨zs.idxOf x, ⟨hlt, ?_⟩, by simpa using hat⟩
    rw [keepsS_iff zs _ hlt]
    rcases Nat.eq_zero_or_pos (zs.idxOf x) with h0 | h0
    · exact .inl h0
    · refine .inr ?_
      rw [hat]
      intro h
      have hlt' : zs.idxOf x - 1 < zs.length := by omega
      rw [getElem!_pos zs _ hlt'] at h
      have := List.not_of_lt_findIdx (p := (· == x)) (xs := zs) (i := zs.idxOf x - 1) (show zs.idxOf x - 1 < zs.idxOf x by omega)
      simp at this
      exact this h.symm
theorem cmp_rise (zs : List (List UInt8)) (h : zs.Pairwise (· ≤ ·)) : (Lib.compact zs).Pairwise (· < ·) := by
  rw [cmp_eq, List.pairwise_map]
  have hr : (List.range zs.length).Pairwise (fun i j => i < j ∧ i < zs.length ∧ j < zs.length) := by
    rw [List.pairwise_iff_getElem]
    intro i j hi hj hij
    simp at hi hj ⊢
    omega
  refine (List.Pairwise.filter _ hr).imp_of_mem ?_
  intro i j hi hj ⟨hij, hil, hjl⟩
  have hk := (keepsS_iff zs j hjl).1 (List.mem_filter.1 hj).2
  have hle : ∀ a b (ha : a < zs.length) (hb : b < zs.length), a ≤ b → zs[a] ≤ zs[b] := by
    intro a b ha hb hab
    by_cases e : a = b
    · subst e; exact List.le_refl _
    · exact List.pairwise_iff_getElem.1 h a b ha hb (by omega)
  have h1 := hle i (j - 1) hil (by omega) (by omega)
  have h2 := hle (j - 1) j (by omega) hjl (by omega)
  rcases hk with rfl | hk
  · omega
  · rw [getElem!_pos zs _ hjl, getElem!_pos zs _ (show j - 1 < zs.length by omega)] at hk
    have e1 : zs.toArray[i]! = zs[i] := by simp [hil]
    have e2 : zs.toArray[j]! = zs[j] := by simp [hjl]
    rw [e1, e2]
    refine Classical.byContradiction fun hn => ?_
    have h3 : zs[j] ≤ zs[i] := List.not_lt.1 hn
    exact hk (List.le_antisymm (List.le_trans h3 h1) h2)
theorem bl_un (x y : List UInt8) : bl ⟨x.toArray⟩ ⟨y.toArray⟩ = decide (x < y) := by
  unfold bl
  rw [bytesLess_eq, Lib.toList_data, Lib.toList_data]
theorem srt_cs (K : List ByteArray) : Srt bl (cmpctS (srtS K)) := by
  unfold cmpctS srtS Srt
  rw [show bsS (unS ((bsS K).mergeSort fun x y => decide (x ≤ y))) = ((bsS K).mergeSort fun x y => decide (x ≤ y)) by unfold bsS unS; rw [List.map_map]; exact List.map_id'' (fun x => by simp) _]
  have hs := List.pairwise_mergeSort (le := fun x y : List UInt8 => decide (x ≤ y)) (fun a b c h1 h2 => by simp only [decide_eq_true_eq] at *; exact List.le_trans h1 h2) (fun a b => by simp only [Bool.or_eq_true, decide_eq_true_eq]; exact List.le_total a b) (bsS K)
  have hr := cmp_rise _ (hs.imp (fun h => by simpa using h))
  unfold unS
  rw [List.pairwise_map]
  exact hr.imp fun h => by rw [bl_un]; exact decide_eq_true h
theorem mem_un {x : ByteArray} {l : List (List UInt8)} : x ∈ unS l ↔ x.data.toList ∈ l := by
  unfold unS
  rw [List.mem_map]
  constructor
  · rintro ⟨y, hy, rfl⟩; simpa using hy
  · intro h; exact ⟨_, h, rfl⟩
theorem mem_cs {K : List ByteArray} {x : ByteArray} : x ∈ cmpctS (srtS K) ↔ x ∈ K := by
  unfold cmpctS srtS
  rw [mem_un, cmp_mem]
  unfold bsS unS
  rw [List.map_map, List.mem_map]
  constructor
  · rintro ⟨y, hy, he⟩
    have hy2 := (List.mergeSort_perm _ _).mem_iff.1 hy
    obtain ⟨z, hz, rfl⟩ := List.mem_map.1 hy2
    have : z = x := by
      simp at he
      cases z; cases x
      simp_all
    exact this ▸ hz
  · intro h
    exact ⟨x.data.toList, (List.mergeSort_perm _ _).mem_iff.2 (List.mem_map.2 ⟨x, h, rfl⟩), by simp⟩
theorem keys_are (q : Tb) (id : Idn) : cmpctS (srtS (kk id (kk id [] q.held) q.wait)) = keysOf q id := by
  refine srt_ext bl_ord (fun a b h1 h2 => bl_eq h1 h2) (srt_cs _) (by unfold keysOf; exact srt_foldk List.Pairwise.nil) fun x => ?_
  rw [mem_cs, mem_keysOf]
  unfold kk
  simp only [List.nil_append, List.mem_append, List.mem_map, List.mem_filter, eqI_iff]
  constructor
  · rintro (⟨l, ⟨h1, h2⟩, h3⟩ | ⟨l, ⟨h1, h2⟩, h3⟩)
    · exact ⟨l, .inl h1, h2, h3⟩
    · exact ⟨l, .inr h1, h2, h3⟩
  · rintro ⟨l, h1 | h1, h2, h3⟩
    · exact .inl ⟨l, ⟨h1, h2⟩, h3⟩
    · exact .inr ⟨l, ⟨h1, h2⟩, h3⟩
end Go.Proofs.YtpidpdbjjdkhoaaGreat
