/- Layer 7: Index. -/
import Derived.Test.YtfoojhjhinofmaaQiC
import Derived.Test.YtfoojhjhinofmaaQiA
import Derived.Test.YtfoojhjhinofmaaSh
import Derived.Lib.SlKeysI
namespace Go.Proofs.Ytfoojhjhinofmaa
open Go.RowKit Go.Sort
set_option linter.unusedSimpArgs false
set_option linter.unusedVariables false

theorem srt_nil : srt [] = [] := by simp [srt]
theorem idx_nil : idxOf [] = 0 := by simp [idxOf, srt_nil]
/-- a slice of the call's own that reads as M, in new memory -/
def NewInts (w : World) (M : List Int) (e : Ending) (w' : World) : Prop :=
  ∃ A c, e = .returned (.slice A M.length c) ∧ w'.ownsRow 0 3 1 (.slice A M.length c) M.length (ic M) ∧ Below w.heap.size w w' ∧ ∀ k ∈ ob A, w.heap.size ≤ k
theorem ownsRow_down {w : World} {base e size n : Nat} {v : Value} {xs : List Value} (h : w.ownsRow base e size v n xs) : w.ownsRow 0 e size v n xs := by
  refine ⟨h.1, ?_⟩
  rcases h.2 with h2 | ⟨g, cap, cur, hv, _, hh, r⟩
  · exact .inl h2
  · exact .inr ⟨g, cap, cur, hv, Nat.zero_le _, hh, r⟩
theorem own_fresh {w : World} {base e size n c : Nat} {A : Option Addr} {xs : List Value} (h : w.ownsRow base e size (.slice A n c) n xs) : ∀ k ∈ ob A, base ≤ k := by
  intro k hk
  rcases h.2 with ⟨hv, _⟩ | ⟨g, cap, cur, hv, hg, _⟩
  · injection hv with hA
    subst hA
    simp [ob] at hk
  · injection hv with hA
    subst hA
    simp [ob] at hk
    omega
theorem spot_none {w : World} {a : Addr} {v : Value} (h : w.cell? a = some v) : a.spot = none := by
  unfold World.cell? at h
  cases hs : a.spot with
  | none => rfl
  | some s =>
    simp [hs] at h
    split at h <;> simp at h

set_option maxHeartbeats 1000000 in
theorem sort_any (A : Option Addr) (c : Nat) (M : List Int) (w : World) (hown : w.ownsRow 0 3 1 (.slice A M.length c) M.length (ic M)) (hl : M.length < 4611686018427387904) :
    Calls Try.prog 27 #[.slice A M.length c] w fun e w' => e = .returned (.tuple #[]) ∧ w'.ownsRow 0 3 1 (.slice A M.length c) M.length (ic (srt M)) ∧ Kept (ob A) w w' := by
  rcases hown.2 with ⟨hv, hx⟩ | ⟨g, cap, cur, hv, hbg, hg, hnc, hcm, hcs, htake⟩
  · injection hv with hA hn hc
    subst hA hc
    obtain rfl : M = [] := List.eq_nil_of_length_eq_zero hn
    refine (Try.slices_Sort_int_none none 0 w).mono fun e w' ⟨he, hw⟩ => ?_
    subst hw
    rw [srt_nil]
    exact ⟨he, hown, Kept.refl _ _⟩
  · injection hv with hA hn hc
    subst hA hc
    have hH : Holds encZ w g 0 M.toArray := holds_of_block_i hg (by rw [Nat.mul_one] at htake; exact htake)
    have hgl : g < w.heap.size := by
      rcases Nat.lt_or_ge g w.heap.size with h | h
      · exact h
      · rw [Array.getElem?_eq_none h] at hg; cases hg
    refine (Try.slices_Sort_int g 0 c M w hH hgl hl).mono fun e w' ⟨he, n, os, hw⟩ => ?_
    subst hw
    exact ⟨he, ownsRow_sorted_i (ss := M) (srt_len M) hbg hg hnc hcm hcs, Kept.of_grown (grownBy_sorted_i _)⟩
set_option maxHeartbeats 1000000 in
theorem values_any (A : Option Addr) (n c : Nat) (w : World) :
    Calls Try.prog 25 #[.slice A n c] w fun e w' => e = .returned (.func (.func 28) #[] #[.pointer (some ⟨w.heap.size, 0, none⟩)]) ∧ w' = w.alloc (.cells #[.slice A n c] 31) :=
  (callsIn_wide (n := 3)).1 (values_in Fence.wide 3 trivial rfl A n c w)
theorem append_any (b off c n0 Bs : Nat) (M : List Int) (hl : M.length ≤ 1000000) (w : World) (hBs : Bs < w.heap.size) (hc : w.cell? ⟨Bs, 0, none⟩ = some (.slice (some ⟨b, off, none⟩) M.length c)) (hb : b < w.heap.size)
    (hcell : ∀ j, j < M.length → w.cell? ⟨b, off + j, none⟩ = some (.int .i64 (M[j]?.getD 0))) :
    Calls Try.prog 29 #[.slice none 0 0, .func (.func 28) #[] #[.pointer (some ⟨Bs, 0, none⟩)]] w (NewInts w M) := by
  refine ((callsIn_wide (n := 3)).1 (append_in Fence.wide 3 trivial trivial rfl (by omega) Bs _ M (by omega) w hBs hc (.inr ⟨b, off, c, rfl, hb, hcell⟩))).mono fun e w' ⟨v, he, hown, hnil, hbel⟩ => ?_
  obtain ⟨A1, c1, rfl⟩ := slice_of_own hown
  exact ⟨A1, c1, he, ownsRow_down hown, hbel, own_fresh hown⟩
set_option maxHeartbeats 1000000 in
theorem collect_any (b off c n0 Bs : Nat) (M : List Int) (hl : M.length ≤ 1000000) (w : World) (hBs : Bs < w.heap.size) (hc : w.cell? ⟨Bs, 0, none⟩ = some (.slice (some ⟨b, off, none⟩) M.length c)) (hb : b < w.heap.size)
    (hcell : ∀ j, j < M.length → w.cell? ⟨b, off + j, none⟩ = some (.int .i64 (M[j]?.getD 0))) :
    Calls Try.prog 26 #[.func (.func 28) #[] #[.pointer (some ⟨Bs, 0, none⟩)]] w (NewInts w M) := by
  have H := Lib.hid (append_any b off c n0 Bs M hl w hBs hc hb hcell)
  clear hcell hc
  go_enter Try.func26, Try.ntmps26
  go_wp2_with fail
  refine H.out.mono ?_
  rintro e w1 ⟨A1, c1, rfl, hown, hbel, hf⟩
  go_wp2
  go_ret
  exact ⟨A1, c1, rfl, hown, hbel, hf⟩
set_option maxHeartbeats 1000000 in
theorem sorted_any (b off c n0 Bs : Nat) (M : List Int) (hl : M.length ≤ 1000000) (w : World) (hBs : Bs < w.heap.size) (hc : w.cell? ⟨Bs, 0, none⟩ = some (.slice (some ⟨b, off, none⟩) M.length c)) (hb : b < w.heap.size)
    (hcell : ∀ j, j < M.length → w.cell? ⟨b, off + j, none⟩ = some (.int .i64 (M[j]?.getD 0))) :
    Calls Try.prog 24 #[.func (.func 28) #[] #[.pointer (some ⟨Bs, 0, none⟩)]] w (NewInts w (srt M)) := by
  have H := Lib.hid (collect_any b off c n0 Bs M hl w hBs hc hb hcell)
  have HL := Lib.hid (srt_len M)
  clear hcell hc
  go_enter Try.func24, Try.ntmps24
  go_wp2_with fail
  refine H.out.mono ?_
  rintro e w1 ⟨A1, c1, rfl, hown, hbel, hf⟩
  go_wp2_with fail
  refine (sort_any A1 c1 M w1 hown (by omega)).mono ?_
  rintro e w2 ⟨rfl, hown2, hk2⟩
  go_wp2
  go_ret
  refine ⟨A1, c1, by rw [HL.out]; rfl, by rw [HL.out]; exact hown2, hbel.trans (hk2.below hbel.size hf), hf⟩
set_option maxHeartbeats 2000000 in
theorem index_any (A : Option Addr) (c B : Nat) (M : List Int) (w : World) (hr : Reads w B 1 A M.length (ic M)) (hB : B ≤ w.heap.size) (hl : M.length ≤ 1000000) :
    Calls Try.prog 16 #[.slice A M.length c] w fun e w' => e = .returned (.int .i64 (idxOf M)) ∧ Below w.heap.size w w' := by
  by_cases h0 : M.length = 0
  · obtain rfl : M = [] := List.eq_nil_of_length_eq_zero h0
    clear h0
    go_enter Try.func16, Try.ntmps16
    go_wp2
    go_ret
    exact ⟨by rw [idx_nil]; rfl, Below.refl _ _⟩
  · have hz : ((M.length : Int) == 0) = false := beq_eq_false_iff_ne.2 (by omega)
    have h1 : 1 ≤ M.length := by omega
    obtain ⟨ad, rfl, hab, hcell0⟩ := hr.numb (k := 0) (by omega)
    have hsp : ad.spot = none := by
      have := spot_none hcell0
      simpa [Addr.add] using this
    obtain ⟨b, off, sp⟩ := ad
    simp only at hsp
    subst hsp
    have hcells : ∀ j, j < M.length → w.cell? ⟨b, off + j, none⟩ = some (.int .i64 (M[j]?.getD 0)) := by
      intro j hj
      obtain ⟨ad', e', _, h⟩ := hr.numb hj
      cases e'
      rw [Addr.add_lit] at h
      exact h
    have hbw : b < w.heap.size := Nat.lt_of_lt_of_le hab hB
    have hb1 : Below w.heap.size w (w.alloc (.cells #[.slice (some ⟨b, off, none⟩) M.length c] 31)) := (Below.refl _ _).alloc (Nat.le_refl _) _
    have HS := Lib.hid (sorted_any b off c 0 w.heap.size M hl (w.alloc (.cells #[.slice (some ⟨b, off, none⟩) M.length c] 31)) (by simp) ((Blk.new w 31 _).cell 0) (by simp; omega) (fun j hj => (hb1.cell (p := ⟨b, off + j, none⟩) hbw).trans (hcells j hj)))
    have HL := Lib.hid (srt_len M)
    clear hcells hcell0 hr
    go_enter Try.func16, Try.ntmps16
    go_wp2_with fail
    refine (values_any (some ⟨b, off, none⟩) M.length c w).mono ?_
    rintro e w1 ⟨rfl, rfl⟩
    go_wp2_with fail
    refine HS.out.mono ?_
    clear HS
    rintro e w2 ⟨A2, c2, rfl, hown, hbel, hf⟩
    rw [HL.out] at hown ⊢
    have hi : M.length - M.length / 2 - 1 < (srt M).length := by rw [HL.out]; omega
    have hr2 : Reads w2 w2.heap.size 1 A2 M.length (ic (srt M)) := Reads.of_own hown
    obtain ⟨ad2, rfl, _, hc2⟩ := hr2.numb hi
    have hidx : Hid (gm (srt M) (M.length - M.length / 2 - 1) = idxOf M) := Lib.hid rfl
    have hbe := hb1.trans (hbel.mono hb1.size)
    clear hown hbel hf hr2 hi hb1
    go_wp2
    go_ret
    exact ⟨by rw [← hidx.out]; rfl, hbe⟩
end Go.Proofs.Ytfoojhjhinofmaa
