/- The readers of layer 1: the reference's Text. -/
import Derived.Test.YtidiohmpmjhbaaaBrF
namespace Go.Proofs.Ytidiohmpmjhbaaa
open Go.RowKit

theorem step_e (R : Rd) (k : Nat) (e : Int) : (R.step k e).e = if e = 0 then R.e else e := by unfold Rd.step; split <;> rfl
theorem text_A (R : Rd) (m : Int) (h : R.uint.2.e ≠ 0) : R.text m = ([], { R.uint.2 with at_ := R.at_ }) := by
  unfold Rd.text
  by_cases he : R.e = 0
  · have e1 : R.uint = ((num R.rest).1, R.step (num R.rest).2.1 (num R.rest).2.2) := by unfold Rd.uint; rw [if_pos he]
    rw [e1] at h ⊢
    rw [if_pos he]
    simp only [step_e] at h ⊢
    by_cases h0 : (num R.rest).2.2 = 0
    · rw [if_pos h0, he] at h
      exact absurd rfl h
    · have h1 : textE m R.rest = (num R.rest).2.2 := by unfold textE; rw [if_pos h0]
      obtain ⟨h2, h3⟩ := text_bad (m := m) (l := R.rest) (by rw [h1]; exact h0)
      rw [h1, h2, h3]
      unfold Rd.step
      rw [if_neg h0]
      simp only [if_neg h0]
  · have e1 : R.uint = (0, R) := by unfold Rd.uint; rw [if_neg he]
    rw [e1, if_neg he]
theorem uint_ok (R : Rd) (h : R.uint.2.e = 0) : R.e = 0 ∧ (num R.rest).2.2 = 0 ∧ R.uint = ((num R.rest).1, { R with at_ := R.at_ + (num R.rest).2.1 }) := by
  by_cases he : R.e = 0
  · have e1 : R.uint = ((num R.rest).1, R.step (num R.rest).2.1 (num R.rest).2.2) := by unfold Rd.uint; rw [if_pos he]
    rw [e1] at h ⊢
    simp only [step_e] at h
    by_cases h0 : (num R.rest).2.2 = 0
    · refine ⟨he, h0, ?_⟩
      unfold Rd.step
      rw [if_pos h0]
    · rw [if_neg h0] at h
      exact absurd h h0
  · have e1 : R.uint = (0, R) := by unfold Rd.uint; rw [if_neg he]
    rw [e1] at h
    exact absurd h he
theorem rest_len (R : Rd) : R.rest.length = R.bs.length - R.at_ := by unfold Rd.rest; simp
theorem text_B (R : Rd) (m : Int) (h : R.uint.2.e = 0) (h2 : max 0 m < R.uint.1) : R.text m = ([], { R.uint.2 with e := 9, at_ := R.at_ }) := by
  obtain ⟨he, h0, e1⟩ := uint_ok R h
  rw [e1] at h2 ⊢
  have h1 : textE m R.rest = 9 := by unfold textE; rw [if_neg (by simp [h0]), if_pos h2]
  obtain ⟨h3, h4⟩ := text_bad (m := m) (l := R.rest) (by rw [h1]; decide)
  unfold Rd.text
  rw [if_pos he, h1, h3, h4]
  rfl
theorem text_C (R : Rd) (m : Int) (h : R.uint.2.e = 0) (h2 : R.uint.1 ≤ max 0 m) (h5 : (R.uint.2.bs.length : Int) - R.uint.2.at_ < R.uint.1) (hle : R.uint.2.at_ ≤ R.uint.2.bs.length) : R.text m = ([], { R.uint.2 with e := 1, at_ := R.at_ }) := by
  obtain ⟨he, h0, e1⟩ := uint_ok R h
  rw [e1] at h2 h5 hle ⊢
  simp only at h2 h5 hle
  have h1 : textE m R.rest = 1 := by unfold textE; rw [if_neg (by simp [h0]), if_neg (by omega), if_pos (by rw [rest_len]; omega)]
  obtain ⟨h3, h4⟩ := text_bad (m := m) (l := R.rest) (by rw [h1]; decide)
  unfold Rd.text
  rw [if_pos he, h1, h3, h4]
  rfl
theorem text_D (R : Rd) (m : Int) (h : R.uint.2.e = 0) (h2 : R.uint.1 ≤ max 0 m) (h5 : (R.uint.1 : Int) ≤ (R.uint.2.bs.length : Int) - R.uint.2.at_) (hle : R.uint.2.at_ ≤ R.uint.2.bs.length) : R.text m = R.uint.2.raw R.uint.1 := by
  obtain ⟨he, h0, e1⟩ := uint_ok R h
  rw [e1] at h2 h5 hle ⊢
  simp only at h2 h5 hle ⊢
  generalize hq : num R.rest = q at *
  obtain ⟨n, k, e⟩ := q
  simp only at *
  have h1 : textE m R.rest = 0 := by unfold textE; rw [hq]; simp only; rw [if_neg (by simp [h0]), if_neg (by omega), if_neg (by rw [rest_len]; omega)]
  have h3 : textK m R.rest = k + n := by unfold textK; rw [if_pos h1, hq]
  have h4 : textS m R.rest = (R.rest.drop k).take n := by unfold textS; rw [if_pos h1, hq]
  have hr : ({ R with at_ := R.at_ + k } : Rd).rest = R.rest.drop k := by unfold Rd.rest; simp
  have h6 : rawE n (R.rest.drop k) = 0 := by
    unfold rawE
    rw [if_neg (by omega), if_neg (by rw [List.length_drop, rest_len]; omega)]
  obtain ⟨h7, h8⟩ := rawS_ok (n := n) (l := R.rest.drop k) h6
  unfold Rd.text Rd.raw
  rw [if_pos he, if_pos he, hr, h1, h3, h4, h6, h7, h8]
  simp [Rd.step, Nat.add_assoc]
theorem IsQ.setAt {w : World} {b c : Nat} {R : Rd} {A : Option Addr} (h : IsQ w b R A c) (k : Nat) (hk : k ≤ R.bs.length) : IsQ (w.setCell ⟨b, 1, none⟩ (.int .i64 k)) b { R with at_ := k } A c := by
  refine ⟨?_, ?_, hk, h.top⟩
  · have := h.blk.set_ 1 (.int .i64 k)
    simpa using this
  · exact own_far h.row (fun g hg he => by subst he; exact own_blk_ne h.row h.blk (by decide) hg) _
theorem uint_bs (R : Rd) : R.uint.2.bs = R.bs := by
  unfold Rd.uint Rd.step
  split
  · simp only; split <;> rfl
  · rfl

set_option maxHeartbeats 4000000 in
set_option maxRecDepth 100000 in
theorem qtext_any (b : Nat) (R : Rd) (A : Option Addr) (c : Nat) (m : Int) (hm1 : -9223372036854775808 ≤ m) (hm2 : m ≤ 9223372036854775807) (w : World) (h : IsQ w b R A c) :
    Calls Try.prog 42 #[.pointer (some ⟨b, 0, none⟩), .int .i64 m] w (QdEnds w b (R.text m).2 A c (.string ⟨(R.text m).1.toArray⟩)) := by
  have c1 := h.blk.cell 1
  simp only [List.getElem?_toArray, List.getElem?_cons_zero, List.getElem?_cons_succ] at c1
  have hat := h.le
  have hbs := uint_bs R
  have hn := uint_lt R
  have HU := Lib.hid (quint_any b R A c w h)
  have HA := Lib.hid (text_A R m)
  have HB := Lib.hid (text_B R m)
  have HC := Lib.hid (text_C R m)
  have HD := Lib.hid (text_D R m)
  generalize R.uint = q at *
  obtain ⟨n, R1⟩ := q
  simp only at HA HB HC HD hn hbs HU
  rw [← hbs] at hat
  clear hbs
  by_cases he : R1.e = 0
  · rcases Int.lt_or_le 0 m with hp | hp
    all_goals
      have hm4 : Hid (max 0 m = if 0 < m then m else 0) := by unfold Hid; split <;> omega
      first | rw [if_pos hp] at hm4 | rw [if_neg (by omega)] at hm4
      have hmd := hm4.out
      by_cases h1 : (n : Int) ≤ max 0 m
      · by_cases h2 : (n : Int) ≤ (R1.bs.length : Int) - R1.at_
        · have HD2 := Lib.hid (fun hle => HD.out he h1 h2 hle)
          rw [hmd] at h1
          clear HA HB HC HD hm4 hmd
          go_enter Try.func42, Try.ntmps42
          go_wp2_with fail
          refine HU.out.mono ?_
          rintro e w1 ⟨rfl, hR, hk⟩
          have y0 := hR.blk.cell 0
          have y1 := hR.blk.cell 1
          have y2 := hR.blk.cell 2
          have g1 := hR.blk.frozen 1
          have g2 := hR.blk.frozen 2
          simp only [List.getElem?_toArray, List.getElem?_cons_zero, List.getElem?_cons_succ] at y0 y1 y2
          rw [he] at y2
          have hle := hR.le
          have htop := hR.top
          go_wp2
          go_quiet (fail)
          go_wp2_with fail
          refine (qraw_any b R1 A c n (by omega) (by omega) _ (hR.drewN _)).mono ?_
          rintro e w2 ⟨A1, k1, rfl, hown, hf, hR2, hk2⟩
          have hcv := run_conv _ _ k1 _ _ w2 (Reads.of_own hown)
          go_wp2
          go_ret
          rw [HD2.out hle]
          exact ⟨rfl, hR2, (hk.drewN _).trans hk2 (fun x hx => .inl hx)⟩
        · have HC2 := Lib.hid (fun hle => HC.out he h1 (by omega) hle)
          rw [hmd] at h1
          clear HA HB HC HD hm4 hmd
          go_enter Try.func42, Try.ntmps42
          go_wp2_with fail
          refine HU.out.mono ?_
          rintro e w1 ⟨rfl, hR, hk⟩
          have y0 := hR.blk.cell 0
          have y1 := hR.blk.cell 1
          have y2 := hR.blk.cell 2
          have g1 := hR.blk.frozen 1
          have g2 := hR.blk.frozen 2
          simp only [List.getElem?_toArray, List.getElem?_cons_zero, List.getElem?_cons_succ] at y0 y1 y2
          rw [he] at y2
          have hle := hR.le
          have htop := hR.top
          first
          | (exfalso; omega)
          | (
            go_wp2
            go_quiet (fail)
            go_wp2
            go_ret
            rw [HC2.out hle]
            exact ⟨rfl, ((hR.drewN _).fail 1).setAt _ hat, ((hk.drewN _).setCell _ (.inl (by simp))).setCell _ (.inl (by simp))⟩)
      · have h2 := HB.out he (by omega)
        rw [h2]
        rw [hmd] at h1
        clear HA HB HC HD hm4 hmd h2
        go_enter Try.func42, Try.ntmps42
        go_wp2_with fail
        refine HU.out.mono ?_
        rintro e w1 ⟨rfl, hR, hk⟩
        have y0 := hR.blk.cell 0
        have y1 := hR.blk.cell 1
        have y2 := hR.blk.cell 2
        have g1 := hR.blk.frozen 1
        have g2 := hR.blk.frozen 2
        simp only [List.getElem?_toArray, List.getElem?_cons_zero, List.getElem?_cons_succ] at y0 y1 y2
        rw [he] at y2
        have hle := hR.le
        have htop := hR.top
        go_wp2
        go_quiet (fail)
        go_wp2
        go_ret
        exact ⟨rfl, ((hR.fail 9).drewN _).setAt _ hat, ((hk.setCell _ (.inl (by simp))).drewN _).setCell _ (.inl (by simp))⟩
  · rw [HA.out he]
    have hb0 : (R1.e == 0) = false := beq_eq_false_iff_ne.2 he
    have hb1 : (R1.e != 0) = true := by simp [he]
    clear he HA HB HC HD
    go_enter Try.func42, Try.ntmps42
    go_wp2_with fail
    refine HU.out.mono ?_
    rintro e w1 ⟨rfl, hR, hk⟩
    have y0 := hR.blk.cell 0
    have y1 := hR.blk.cell 1
    have y2 := hR.blk.cell 2
    have g1 := hR.blk.frozen 1
    have g2 := hR.blk.frozen 2
    simp only [List.getElem?_toArray, List.getElem?_cons_zero, List.getElem?_cons_succ] at y0 y1 y2
    go_wp2
    go_quiet (fail)
    go_wp2
    go_ret
    exact ⟨rfl, (hR.drewN _).setAt _ hat, (hk.drewN _).setCell _ (.inl (by simp))⟩
end Go.Proofs.Ytidiohmpmjhbaaa
