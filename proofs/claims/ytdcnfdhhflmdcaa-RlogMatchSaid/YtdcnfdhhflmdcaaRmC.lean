/- RlogMatch: match. -/
import Derived.Test.YtdcnfdhhflmdcaaLogA
import Derived.Test.YtdcnfdhhflmdcaaRmB
namespace Go.Proofs.Ytdcnfdhhflmdcaa
open Go.RowKit
set_option linter.unusedSimpArgs false
set_option linter.unusedVariables false

theorem slice1 (l : List Ent) : sliceE 0 l 1 = 0 ∧ sliceL 0 l 1 (lastI 0 l) = l := by
  have h : sliceE 0 l 1 = 0 := by unfold sliceE; rw [if_neg (by omega), if_neg (by omega)]
  refine ⟨h, ?_⟩
  unfold sliceL lastI
  rw [if_pos h]
  simp
def MatchRel (n m : Nat) (w0 : World) (i : Value) (wr : World) : Prop := ∃ k q : Nat, i = .int .i64 k ∧ k ≤ n ∧ k ≤ m ∧ wr = w0.drewN q
set_option maxHeartbeats 4000000 in
set_option maxRecDepth 100000 in
theorem match_any (d1 d2 : Nat) (F1 F2 : List Nat) (l r : List Ent) (w : World) (h1 : IsLog 69 w d1 F1 0 0 l) (h2 : IsLog 69 w d2 F2 0 0 r) (hm : Mt l r) :
    Calls Try.prog 14 #[.pointer (some ⟨d1, 0, none⟩), .pointer (some ⟨d2, 0, none⟩)] w fun e w' => e = .returned (.bool true) ∧ Below w.heap.size w w' := by
  have H1 := Lib.hid h1
  have H2 := Lib.hid h2
  have hl1 := h1.few
  have hl2 := h2.few
  have HM := Lib.hid hm
  have HB := Lib.hid (below_drewN (Below.refl w.heap.size w))
  clear h1 h2 hm
  go_enter Try.func14, Try.ntmps14
  go_wp2_with fail
  refine (last_log H1.out).mono ?_
  rintro e w' ⟨rfl, q1, rfl⟩
  go_wp2_with fail
  refine (last_log (H2.out.drewN q1)).mono ?_
  rintro e w' ⟨rfl, q2, rfl⟩
  go_wp2_with fail
  refine (slice_log (H1.out.drewN (q1 + q2)) 1 (lastI 0 l)).mono ?_
  rintro e w1 ⟨A, c, ms, he, hms, hO, hb1⟩
  rw [(slice1 l).1] at he
  rw [(slice1 l).2] at hms
  subst he
  have hbw1 : Below w.heap.size w w1 := (below_drewN (Below.refl _ _) (q1 + q2)).trans hb1
  go_wp2_with fail
  refine (slice_log (H2.out.below hbw1) 1 (lastI 0 r)).mono ?_
  rintro e w2 ⟨A', c', ms', he, hms', hO', hb2⟩
  rw [(slice1 r).1] at he
  rw [(slice1 r).2] at hms'
  subst he
  have hE1 := (hO.ents.below hb2).more hb2.size
  have hE2 := hO'.ents
  have hbw2 : Below w.heap.size w w2 := hbw1.trans (hb2.mono hbw1.size)
  have hL1 : ms.length = l.length := by rw [← hms, es_len]
  have hL2 : ms'.length = r.length := by rw [← hms', es_len]
  have HBW := Lib.hid hbw2
  have HE1 := Lib.hid hE1
  have HE2 := Lib.hid hE2
  have HMS := Lib.hid hms
  have HMS' := Lib.hid hms'
  have hml : ms.length ≤ 512 := by omega
  have hml' : ms'.length ≤ 512 := by omega
  have HL1 := Lib.hid hL1
  have HL2 := Lib.hid hL2
  have HS1 := Lib.hid (H1.out.small (ms := ms) (fun e he => by rw [hms] at he; exact he))
  have hc1 := own_cap hO.row
  have hc2 := own_cap hO'.row
  clear hms hms' hO hO' hb1 hb2 hbw1 hL1 hL2 hE1 hE2 hl1 hl2
  obtain ⟨hc1, -⟩ := hc1
  obtain ⟨hc2, -⟩ := hc2
  go_wp2_with fail
  all_goals
    go_loopw [13] (MatchRel ms.length ms'.length w2) (fun i _ => (intOf i).toNat)
    case atStart => first | exact ⟨ms.length, 0, rfl, Nat.le_refl _, by omega, rfl⟩ | exact ⟨ms'.length, 0, rfl, by omega, Nat.le_refl _, rfl⟩
    case round =>
      obtain ⟨k, q, rfl, hk1, hk2, rfl⟩ := hrel
      rcases k with _ | k
      · go_wp2
        go_ret
        exact ⟨rfl, below_drewN HBW.out _⟩
      · have hkp : (0 : Int) < ((k + 1 : Nat) : Int) := by omega
        have e1 : ((k + 1 : Nat) : Int) - 1 = (k : Int) := by omega
        have hx1 : k < ms.length := by omega
        have hx2 : k < ms'.length := by omega
        obtain ⟨b1, o1, hA1, hb1, hr1⟩ := HE1.out.range hx1
        obtain ⟨b2, o2, hA2, hb2, hr2⟩ := HE2.out.range hx2
        subst hA1
        subst hA2
        have y1 : w2.cell? ⟨b1, o1 + k * 13, none⟩ = some (.int .i64 (gme ms k).e.term) := hr1 0 _ rfl
        have y2 : w2.cell? ⟨b2, o2 + k * 13, none⟩ = some (.int .i64 (gme ms' k).e.term) := hr2 0 _ rfl
        have g1 : gt l k = (gme ms k).e.term := by unfold gt; rw [← HMS.out, List.getD_eq_getElem?_getD, List.getElem?_eq_getElem (by rw [es_len]; exact hx1), Option.getD_some, es_at hx1]
        have g2 : gt r k = (gme ms' k).e.term := by unfold gt; rw [← HMS'.out, List.getD_eq_getElem?_getD, List.getElem?_eq_getElem (by rw [es_len]; exact hx2), Option.getD_some, es_at hx2]
        have HT : Hid ((gme ms k).e.term = (gme ms' k).e.term → es (ms'.take (k + 1)) = es (ms.take (k + 1))) := Lib.hid (fun h => by
          rw [es_take, es_take, HMS.out, HMS'.out]
          exact (HM.out k (by rw [← HL1.out]; exact hx1) (by rw [← HL2.out]; exact hx2) (by rw [g1, g2]; exact h)).symm)
        generalize (gme ms k).e.term = x1 at *
        generalize (gme ms' k).e.term = x2 at *
        have kL : (0 : Int) ≤ (k : Int) := by omega
        have kU1 : (k : Int) < (ms.length : Int) := by omega
        have kU2 : (k : Int) < (ms'.length : Int) := by omega
        clear hr1 hr2 g1 g2
        by_cases hxe : x1 = x2
        · have HT2 := Lib.hid (HT.out hxe)
          have z1 : (x1 == x2) = true := by rw [hxe]; simp
          have hC0 : (0 : Int) ≤ (k : Int) + 1 := by omega
          have hC1 : (k : Int) + 1 ≤ (c : Int) := by omega
          have hC2 : (k : Int) + 1 ≤ (c' : Int) := by omega
          have hC3 : ((k : Int) + 1).toNat = k + 1 := by omega
          have HC : Hid (∀ q, Calls Try.prog 21 #[.slice (some ⟨b1, o1, none⟩) (k + 1) c, .slice (some ⟨b2, o2, none⟩) (k + 1) c'] (w2.drewN q) fun e w' => e = .returned (.bool true) ∧ Below w2.heap.size w2 w') := Lib.hid (fun q => by
            have h1 := Ents.take (k := k + 1) HE1.out hx1
            have h2 := Ents.take (k := k + 1) HE2.out hx2
            have l1 : (ms.take (k + 1)).length = k + 1 := by rw [List.length_take]; omega
            have l2 : (ms'.take (k + 1)).length = k + 1 := by rw [List.length_take]; omega
            have := sameE_yes _ _ c c' _ _ (w2.drewN q) (h1.drewN q) (h2.drewN q) HT2.out (SmallL.of (by omega) (fun x hx => HS1.out x (List.mem_of_mem_take hx)))
            rw [l1, l2] at this
            exact this.mono fun e w' ⟨he, hb⟩ => ⟨he, (below_drewN (Below.refl _ _) q).trans hb⟩)
          clear HT hxe
          go_wp2
          go_quiet (fail)
          go_wp2
          go_region_law ((go_simp; go_at_call 21; refine (HC.out (q + nq + 1)).mono ?_; rintro e w3 ⟨rfl, hb3⟩))
          go_wp2
          go_ret
          exact ⟨rfl, HBW.out.trans (hb3.mono HBW.out.size)⟩
        · have z1 : (x1 == x2) = false := beq_eq_false_iff_ne.2 hxe
          clear HT hxe
          go_wp2
          go_quiet (fail)
          go_wp2
          go_roundw
          case rel => exact ⟨k, _, by go_num, by omega, by omega, rfl⟩
          case measure => simp [intOf]
end Go.Proofs.Ytdcnfdhhflmdcaa
