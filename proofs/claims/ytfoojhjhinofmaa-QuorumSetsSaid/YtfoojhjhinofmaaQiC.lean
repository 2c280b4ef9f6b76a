/- Layer 7: the reference's Index. -/
import Derived.Test.YtfoojhjhinofmaaAid
import Derived.Test.YtfoojhjhinofmaaQiM
import Derived.Deep.QuietTactic
import Derived.BigQuiet
import Derived.Outline
namespace Go.Proofs.Ytfoojhjhinofmaa
open Go.RowKit
set_option linter.unusedSimpArgs false
set_option linter.unusedVariables false

/-- numbers, as cells -/
def ic (M : List Int) : List Value := M.map (Value.int .i64)
theorem ic_len (M : List Int) : (ic M).length = M.length := by simp [ic]
theorem ic_one (M : List Int) : ∀ u ∈ ic M, u.oneCell' = true := by
  intro u hu
  obtain ⟨b, _, rfl⟩ := List.mem_map.1 hu
  rfl
def gm (M : List Int) (i : Nat) : Int := M.getD i 0
theorem gm_at {M : List Int} {i : Nat} (h : i < M.length) : gm M i = M[i] := by
  unfold gm
  rw [List.getD_eq_getElem?_getD, List.getElem?_eq_getElem h]
  rfl
theorem ic_at {M : List Int} {i : Nat} (h : i < M.length) : (ic M)[i]? = some (.int .i64 (gm M i)) := by
  unfold ic
  rw [List.getElem?_map, List.getElem?_eq_getElem h, gm_at h]
  rfl
theorem Reads.numb {w : World} {B n : Nat} {A : Option Addr} {M : List Int} (h : Reads w B 1 A n (ic M)) {k : Nat} (hk : k < M.length) : ∃ ad, A = some ad ∧ ad.block < B ∧ w.cell? (ad.add k) = some (.int .i64 (gm M k)) := by
  have hn := h.1
  rw [ic_len] at hn
  obtain ⟨ad, u, hA, hb, hu, hc⟩ := h.at_ (k := k) (by omega)
  rw [ic_at hk] at hu
  cases hu
  exact ⟨ad, hA, hb, hc⟩
theorem take_on {M : List Int} {k : Nat} (h : k < M.length) : M.take (k + 1) = M.take k ++ [gm M k] := by rw [List.take_succ_eq_append_getElem h, gm_at h]

def BestRel (M : List Int) (w : World) (b s i : Value) (wr : World) : Prop :=
  ∃ (k q : Nat), i = .int .i64 k ∧ k ≤ M.length ∧ b = .int .i64 ((M.take k).foldl (bestStep M) (0, false)).1 ∧ s = .bool ((M.take k).foldl (bestStep M) (0, false)).2 ∧ wr = w.drewN q
def CntRel (M : List Int) (v : Int) (w : World) (c i : Value) (wr : World) : Prop :=
  ∃ (j q : Nat), i = .int .i64 j ∧ j ≤ M.length ∧ c = .int .i64 (cnt (M.take j) v : Nat) ∧ wr = w.drewN q
theorem drewN_drewN (w : World) (a b : Nat) : ∃ q, (w.drewN a).drewN b = w.drewN q := ⟨a + b, by simp⟩
set_option maxHeartbeats 4000000 in
set_option maxRecDepth 100000 in
theorem refIndex_any (A : Option Addr) (c B : Nat) (M : List Int) (w : World) (hr : Reads w B 1 A M.length (ic M)) (hl : M.length ≤ 1000000) :
    Calls Try.prog 17 #[.slice A M.length c] w fun e w' => e = .returned (.int .i64 (bestOf M)) ∧ ∃ q, w' = w.drewN q := by
  go_enter Try.func17, Try.ntmps17
  go_wp2
  go_loopw [3, 4, 5] (BestRel M w) (fun _ _ i _ => M.length - (intOf i).toNat)
  case atStart => exact ⟨0, 0, rfl, Nat.zero_le _, rfl, rfl, rfl⟩
  case round =>
    obtain ⟨k, q, rfl, hk, rfl, rfl, rfl⟩ := hrel
    generalize hs : (M.take k).foldl (bestStep M) (0, false) = s
    by_cases hlt : k < M.length
    · have hnext := Lib.hid (show (M.take (k + 1)).foldl (bestStep M) (0, false) = bestStep M s (gm M k) by rw [take_on hlt, List.foldl_append, hs]; rfl)
      clear hs
      obtain ⟨ad, rfl, _, hcell⟩ := (hr.drewN q).numb hlt
      have kL : (0 : Int) ≤ (k : Int) := by omega
      have kU : (k : Int) < (M.length : Int) := by omega
      obtain ⟨v, hv⟩ : ∃ v, v = gm M k := ⟨_, rfl⟩
      rw [← hv] at hcell hnext
      clear hv
      obtain ⟨wo, hwo⟩ : ∃ wo : World, wo = w.drewN q := ⟨_, rfl⟩
      rw [← hwo] at hcell ⊢
      have hro : Reads wo B 1 (some ad) M.length (ic M) := by rw [hwo]; exact hr.drewN q
      have HWO := Lib.hid hwo
      clear hwo
      go_wp2
      go_loopw [6, 7] (CntRel M v wo) (fun _ i _ => M.length - (intOf i).toNat)
      case atStart => exact ⟨0, 0, rfl, Nat.zero_le _, rfl, rfl⟩
      case round =>
        obtain ⟨j, q2, rfl, hj, rfl, rfl⟩ := hrel
        have hcl : cnt (M.take j) v ≤ M.length := Nat.le_trans (cnt_le _ _) (by rw [List.length_take]; omega)
        by_cases hjt : j < M.length
        · obtain ⟨ad', e', _, hcell2⟩ := hro.numb hjt
          cases e'
          have jL : (0 : Int) ≤ (j : Int) := by omega
          have jU : (j : Int) < (M.length : Int) := by omega
          have hsn := cnt_snoc (M.take j) v (gm M j)
          rw [← take_on hjt] at hsn
          obtain ⟨u, hu⟩ : ∃ u, u = gm M j := ⟨_, rfl⟩
          rw [← hu] at hcell2 hsn
          clear hu
          by_cases hge : v ≤ u
          · rw [if_pos hge] at hsn
            have HS := Lib.hid hsn
            have z1 : decide (v ≤ u) = true := decide_eq_true hge
            clear hsn
            go_wp2
            go_quiet (fail)
            go_wp2
            go_roundw
            case rel => exact ⟨j + 1, _, by go_num, by omega, by rw [HS.out]; go_num, rfl⟩
            case measure => simp [intOf]; omega
          · rw [if_neg hge] at hsn
            have HS := Lib.hid hsn
            have z1 : decide (v ≤ u) = false := decide_eq_false hge
            clear hsn
            go_wp2
            go_quiet (fail)
            go_wp2
            go_roundw
            case rel => exact ⟨j + 1, _, by go_num, by omega, by rw [HS.out]; go_num, rfl⟩
            case measure => simp [intOf]; omega
        · have hT := Lib.hid (show M.take j = M from List.take_of_length_le (by omega))
          have hcell3 : (wo.drewN q2).cell? (ad.add k) = some (.int .i64 v) := hcell
          have hcl2 := cnt_le M v
          rw [hT.out]
          obtain ⟨b, t⟩ := s
          have hw : Hid (∃ q3, wo.drewN q2 = w.drewN q3) := Lib.hid (by rw [HWO.out]; exact drewN_drewN _ _ _)
          obtain ⟨q3, hq3⟩ := hw.out
          have HQ := Lib.hid hq3
          clear hq3 hw hro
          by_cases hc1 : M.length / 2 < cnt M v
          · have z1 : decide ((M.length : Int) / 2 < (cnt M v : Int)) = true := decide_eq_true (by omega)
            have z1' : decide (M.length / 2 < cnt M v) = true := decide_eq_true hc1
            cases t with
            | false =>
              have hst : bestStep M (b, false) v = (v, true) := by unfold bestStep; rw [if_pos ⟨hc1, .inl rfl⟩]
              rw [hst] at hnext
              clear hst
              go_wp2
              go_roundw
              case rel => exact ⟨k + 1, q3, by go_num, by omega, by rw [hnext.out], by rw [hnext.out], HQ.out⟩
              case measure => simp [intOf]; omega
            | true =>
              by_cases hb : b < v
              · have hst : bestStep M (b, true) v = (v, true) := by unfold bestStep; rw [if_pos ⟨hc1, .inr hb⟩]
                have z2 : decide (b < v) = true := decide_eq_true hb
                rw [hst] at hnext
                clear hst
                go_wp2
                go_roundw
                case rel => exact ⟨k + 1, q3, by go_num, by omega, by rw [hnext.out], by rw [hnext.out], HQ.out⟩
                case measure => simp [intOf]; omega
              · have hst : bestStep M (b, true) v = (b, true) := by
                  unfold bestStep
                  rw [if_neg]
                  rintro ⟨_, h | h⟩
                  · cases h
                  · exact hb h
                have z2 : decide (b < v) = false := decide_eq_false hb
                rw [hst] at hnext
                clear hst
                go_wp2
                go_roundw
                case rel => exact ⟨k + 1, q3, by go_num, by omega, by rw [hnext.out], by rw [hnext.out], HQ.out⟩
                case measure => simp [intOf]; omega
          · have hst : bestStep M (b, t) v = (b, t) := by
              unfold bestStep
              rw [if_neg]
              rintro ⟨h, _⟩
              exact hc1 h
            have z1 : decide ((M.length : Int) / 2 < (cnt M v : Int)) = false := decide_eq_false (by omega)
            have z1' : decide (M.length / 2 < cnt M v) = false := decide_eq_false hc1
            rw [hst] at hnext
            clear hst
            go_wp2
            go_roundw
            case rel => exact ⟨k + 1, q3, by go_num, by omega, by rw [hnext.out], by rw [hnext.out], HQ.out⟩
            case measure => simp [intOf]; omega
    · have hT := Lib.hid (show bestOf M = s.1 by unfold bestOf; rw [← hs, List.take_of_length_le (by omega)])
      clear hs
      go_wp2
      go_ret
      exact ⟨by rw [hT.out]; rfl, q, rfl⟩
end Go.Proofs.Ytfoojhjhinofmaa
