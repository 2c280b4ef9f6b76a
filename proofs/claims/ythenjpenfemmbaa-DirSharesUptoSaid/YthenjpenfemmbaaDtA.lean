/- Layer 12: Of. -/
import Derived.Test.YthenjpenfemmbaaDtM
import Derived.Test.YthenjpenfemmbaaDsE
import Derived.Test.YthenjpenfemmbaaSh
import Derived.Lib.SlKeysI
namespace Go.Proofs.Ythenjpenfemmbaa
open Go.RowKit Go.Sort
set_option linter.unusedSimpArgs false
set_option linter.unusedVariables false

theorem Try.info3 : (Try.prog.info? 3).map (fun i => (i.zero, i.size, i.bytes)) = some (some (.int .i64 0), 1, 8) := by kernel_rfl
/-- the cells of numbers -/
def ic (M : List Int) : List Value := M.map (Value.int .i64)
theorem ic_len (M : List Int) : (ic M).length = M.length := by simp [ic]
theorem ic_one (M : List Int) : ∀ u ∈ ic M, u.oneCell' = true := by
  intro u hu
  obtain ⟨b, _, rfl⟩ := List.mem_map.1 hu
  rfl
def gm (M : List Int) (i : Nat) : Int := M.getD i 0
theorem gm_at {M : List Int} {i : Nat} (h : i < M.length) : gm M i = M[i] := by
  unfold gm
  rw [List.getD_eq_getElem?_getD, List.getElem?_eq_getElem h]
  rfl
theorem ic_at {M : List Int} {i : Nat} (h : i < M.length) : (ic M)[i]? = some (.int .i64 (gm M i)) := by
  unfold ic
  rw [List.getElem?_map, List.getElem?_eq_getElem h, gm_at h]
  rfl
theorem Reads.numb {w : World} {B n : Nat} {A : Option Addr} {M : List Int} (h : Reads w B 1 A n (ic M)) {k : Nat} (hk : k < M.length) : ∃ ad, A = some ad ∧ ad.block < B ∧ w.cell? (ad.add k) = some (.int .i64 (gm M k)) := by
  have hn := h.1
  rw [ic_len] at hn
  obtain ⟨ad, u, hA, hb, hu, hc⟩ := h.at_ (k := k) (by omega)
  rw [ic_at hk] at hu
  cases hu
  exact ⟨ad, hA, hb, hc⟩
theorem ic_snoc (M : List Int) (x : Int) : ic M ++ [Value.int .i64 x] = ic (M ++ [x]) := by simp [ic]
/-- the beginning of a row of the call's own -/
theorem own_take {w : World} {e : TypeId} {n c m : Nat} {A : Option Addr} {xs : List Value} (h : w.ownsRow 0 e 1 (.slice A n c) n xs) (hm : m ≤ n) : w.ownsRow 0 e 1 (.slice A m c) m (xs.take m) := by
  refine ⟨by rw [List.length_take, h.1]; omega, ?_⟩
  rcases h.2 with ⟨hv, hx⟩ | ⟨g, cap, cur, hv, hbg, hg, hnc, hcm, hcs, htake⟩
  · injection hv with hA hn hc
    subst hA hc
    obtain rfl : m = 0 := by omega
    exact .inl ⟨rfl, rfl⟩
  · injection hv with hA hn hc
    subst hA hc
    refine .inr ⟨g, c, cur, rfl, hbg, hg, by omega, hcm, hcs, ?_⟩
    rw [← htake, Nat.mul_one, Nat.mul_one, List.take_take, Nat.min_eq_left hm]
set_option maxHeartbeats 1000000 in
theorem sort_any (A : Option Addr) (c : Nat) (M : List Int) (w : World) (hown : w.ownsRow 0 3 1 (.slice A M.length c) M.length (ic M)) (hl : M.length < 4611686018427387904) :
    Calls Try.prog 31 #[.slice A M.length c] w fun e w' => e = .returned (.tuple #[]) ∧ w'.ownsRow 0 3 1 (.slice A M.length c) M.length (ic (srt M)) ∧ Kept (ob A) w w' := by
  rcases hown.2 with ⟨hv, hx⟩ | ⟨g, cap, cur, hv, hbg, hg, hnc, hcm, hcs, htake⟩
  · injection hv with hA hn hc
    subst hA hc
    obtain rfl : M = [] := List.eq_nil_of_length_eq_zero hn
    refine (Try.slices_Sort_int_none none 0 w).mono fun e w' ⟨he, hw⟩ => ?_
    subst hw
    rw [srt_nil]
    exact ⟨he, hown, Kept.refl _ _⟩
  · injection hv with hA hn hc
    subst hA hc
    have hH : Holds encZ w g 0 M.toArray := holds_of_block_i hg (by rw [Nat.mul_one] at htake; exact htake)
    have hgl : g < w.heap.size := by
      rcases Nat.lt_or_ge g w.heap.size with h | h
      · exact h
      · rw [Array.getElem?_eq_none h] at hg; cases hg
    refine (Try.slices_Sort_int g 0 c M w hH hgl hl).mono fun e w' ⟨he, n, os, hw⟩ => ?_
    subst hw
    exact ⟨he, ownsRow_sorted_i (ss := M) (srt_len M) hbg hg hnc hcm hcs, Kept.of_grown (grownBy_sorted_i _)⟩
theorem grow_nil (w : World) : grow w #[] = w := by simp [grow]
theorem compact_len (zs : List Int) : (Lib.compact zs).length ≤ zs.length := by
  rw [compact_eq, List.length_map]
  exact Nat.le_trans (List.length_filter_le _ _) (by simp)
theorem compact_nil : Lib.compact ([] : List Int) = [] := rfl
def CompEnds (A : Option Addr) (c : Nat) (M : List Int) (w : World) (e : Ending) (w' : World) : Prop :=
  e = .returned (.slice A (Lib.compact M).length c) ∧ w'.ownsRow 0 3 1 (.slice A (Lib.compact M).length c) (Lib.compact M).length (ic (Lib.compact M)) ∧ Kept (ob A) w w'
set_option maxHeartbeats 1000000 in
theorem compact_any (A : Option Addr) (c : Nat) (M : List Int) (w : World) (hown : w.ownsRow 0 3 1 (.slice A M.length c) M.length (ic M)) (hl : M.length < 4611686018427387904) :
    Calls Try.prog 32 #[.slice A M.length c] w (CompEnds A c M w) := by
  rcases hown.2 with ⟨hv, hx⟩ | ⟨g, cap, cur, hv, hbg, hg, hnc, hcm, hcs, htake⟩
  · injection hv with hA hn hc
    subst hA hc
    obtain rfl : M = [] := List.eq_nil_of_length_eq_zero hn
    refine (Try.slices_Compact_int_empty none 0 w).mono fun e w' ⟨he, hw⟩ => ?_
    subst hw
    exact ⟨he, hown, Kept.refl _ _⟩
  · injection hv with hA hn hc
    subst hA hc
    have hH : Holds encZ w g 0 M.toArray := holds_of_block_i hg (by rw [Nat.mul_one] at htake; exact htake)
    refine (Try.slices_Compact_int g 0 c M w hH (by omega) hnc).mono fun e w' ⟨he, n, hw⟩ => ?_
    have hcl := compact_len M
    have hww : w' = grow (putRow encZ (Sort.ahead w n) g 0 (Lib.compact M ++ List.replicate (M.length - (Lib.compact M).length) 0).toArray) #[] := by rw [grow_nil]; exact hw
    subst hww
    have hrow := ownsRow_sorted_i (w := w) (n := n) (os := #[]) (ss := M) (ts := Lib.compact M ++ List.replicate (M.length - (Lib.compact M).length) 0) (by simp; omega) hbg hg hnc hcm hcs
    have ht := own_take hrow hcl
    refine ⟨he, ?_, Kept.of_grown (grownBy_sorted_i _)⟩
    have : (List.map encZ (Lib.compact M ++ List.replicate (M.length - (Lib.compact M).length) 0)).take (Lib.compact M).length = ic (Lib.compact M) := by
      rw [List.map_append, List.take_append_of_le_length (by simp), List.take_of_length_le (by simp)]
      rfl
    rw [this] at ht
    exact ht

/-- Of's answer: a new row of numbers, and what is wrong -/
def OfEnds (L K : List ByteArray) (w : World) (e : Ending) (w' : World) : Prop :=
  ∃ A c, e = .returned (.tuple #[.slice A (ofL L K).length c, .int .i64 (ofE K)]) ∧ w'.ownsRow 0 3 1 (.slice A (ofL L K).length c) (ofL L K).length (ic (ofL L K)) ∧ Below w.heap.size w w' ∧ ∀ k ∈ ob A, w.heap.size ≤ k
theorem OfEnds.bad {L K : List ByteArray} {w w' : World} (hg : goodK K = false) (hb : Below w.heap.size w w') : OfEnds L K w (.returned (.tuple #[.slice none 0 0, .int .i64 120])) w' := by
  unfold OfEnds ofL ofE
  rw [hg]
  exact ⟨none, 0, rfl, World.ownsRow_nil _ _ _ _, hb, by simp [ob]⟩
def OfRel (L K : List ByteArray) (w : World) (l s i : Value) (wr : World) : Prop :=
  ∃ (k : Nat) (A1 : Option Addr) (c1 : Nat) (M : List Int), i = .int .i64 k ∧ k ≤ K.length ∧ M = grps L (K.take k) ∧ M.length = k ∧ goodK (K.take k) = true ∧ l = .slice A1 M.length c1 ∧ wr.ownsRow 0 3 1 (.slice A1 M.length c1) M.length (ic M) ∧
    Below w.heap.size w wr ∧ (∀ x ∈ ob A1, w.heap.size ≤ x)
set_option maxHeartbeats 4000000 in
set_option maxRecDepth 100000 in
theorem of_any (d : Nat) (A : Option Addr) (c : Nat) (L : List ByteArray) (A2 : Option Addr) (c2 : Nat) (K : List ByteArray) (w : World) (h : IsD w d L A c) (hd : d < w.heap.size) (hR : Rises L) (hr : Reads w w.heap.size 1 A2 K.length (sc K)) (hl : K.length ≤ 1000000) :
    Calls Try.prog 22 #[.pointer (some ⟨d, 0, none⟩), .slice A2 K.length c2] w (OfEnds L K w) := by
  obtain ⟨i0, hi0, hz0, hz1, hz2⟩ := info_parts Try.info3
  go_enter Try.func22, Try.ntmps22
  go_wp2
  go_loopw [6, 8, 11] (OfRel L K w) (fun _ _ i _ => K.length - (intOf i).toNat)
  case atStart => exact ⟨0, none, 0, [], rfl, Nat.zero_le _, by simp [grps], rfl, by simp [goodK], rfl, World.ownsRow_nil _ _ _ _, Below.refl _ _, by simp [ob]⟩
  case round =>
    obtain ⟨k, A1, c1, M, rfl, hk, hM, hMl, hgd, rfl, hown, hb, hf⟩ := hrel
    have HM := Lib.hid hM
    have HG := Lib.hid hgd
    have HL := Lib.hid hMl
    clear hM hgd hMl
    by_cases hlt : k < K.length
    · obtain ⟨ad, rfl, hadB, hcell⟩ := (hr.below hb).text hlt
      cases hky : keyB (gx K k) with
      | false =>
        have HB := Lib.hid (good_bad hlt hky)
        have HK := key_false (gx K k) wr hky
        clear hky
        go_wp2_with (go_at_call 25; refine HK.mono ?_; rintro e w' ⟨rfl, rfl⟩)
        go_ret2
        exact OfEnds.bad HB.out hb
      | true =>
        have HN : Hid (goodK (K.take (k + 1)) = true) := Lib.hid (by rw [good_take hlt, HG.out, hky]; rfl)
        have HS : Hid (grps L (K.take (k + 1)) = M ++ [grp L (gx K k)]) := Lib.hid (by rw [grps_take hlt, HM.out])
        have e3 := Lib.hid (ic_snoc M (grp L (gx K k)))
        have HK := key_true (gx K k) wr hky
        have HGR := Lib.hid (group_any d A c L (gx K k) wr (h.below hb) hR)
        have hMk : M.length ≤ 1000000 := by rw [HL.out]; omega
        clear hky
        go_wp2_with (first
          | (go_at_call 25; refine HK.mono ?_; rintro e w' ⟨rfl, rfl⟩)
          | (go_at_call 12; refine HGR.out.mono ?_; rintro e w' ⟨rfl, rfl⟩)
          | (at_builtin; refine wpList_app rfl (.tmp 18) (.tmp 22) 48 48 rfl 3 i0 _ 1 8 Try.underlying48 hi0 hz0 hz1 hz2 rfl (by omega) A1 M.length c1 (ic M) rfl (hown.alloc _) _ 1 [.int .i64 (grp L (gx K k))] rfl (Src.one1 Try.underlying48 _ _ rfl) (by simp only [maxLen]; omega) (by omega) ?_; intro A3 k3 w3 hown3 hk3 hf3; rw [e3.out] at hown3))
        have hol2 : M.length + 1 = (M ++ [grp L (gx K k)]).length := by simp
        rw [hol2] at hown3 ⊢
        have hbel := hb.trans (hk3.of_alloc.below hb.size hf)
        have HL2 : Hid ((M ++ [grp L (gx K k)]).length = k + 1) := Lib.hid (by simp [HL.out])
        go_roundw
        case rel => exact ⟨k + 1, A3, k3, _, by go_num, by omega, HS.out.symm, HL2.out, HN.out, rfl, hown3, hbel, fun y hy => by
            rcases hf3 y hy with h | h
            · exact hf y h
            · simp at h
              have := hb.size
              omega⟩
        case measure => simp [intOf]; omega
    · have hT : K.take k = K := List.take_of_length_le (by omega)
      rw [hT] at HM HG
      have hMk : M.length ≤ 1000000 := by rw [HL.out]; omega
      have HE := Lib.hid (show ofL L K = Lib.compact (srt M) by unfold ofL; rw [HG.out, if_pos rfl, HM.out]; exact (few8_eq _ (grps_bd hR.few HG.out)).symm)
      have HE2 := Lib.hid (show ofE K = 0 by unfold ofE; rw [HG.out]; rfl)
      have HSL := Lib.hid (srt_len M)
      clear hT
      go_wp2_with fail
      refine (sort_any A1 c1 M wr hown (by omega)).mono ?_
      rintro e w2 ⟨rfl, hown2, hk2⟩
      rw [← HSL.out] at hown2
      have hC := compact_any A1 c1 (srt M) w2 hown2 (by rw [HSL.out]; omega)
      rw [HSL.out] at hC
      go_wp2_with fail
      refine hC.mono ?_
      rintro e w3 ⟨rfl, hown3, hk3⟩
      have hbe := hb.trans (hk2.below hb.size hf)
      have hbf := hbe.trans (hk3.below hbe.size hf)
      go_wp2
      go_ret2
      unfold OfEnds
      rw [HE.out, HE2.out]
      exact ⟨A1, c1, rfl, hown3, hbf, hf⟩
end Go.Proofs.Ythenjpenfemmbaa
