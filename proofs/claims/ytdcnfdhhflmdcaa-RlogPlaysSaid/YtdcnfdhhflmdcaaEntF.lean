/- rlog: numbers, counts, rising terms. -/
import Derived.Test.YtdcnfdhhflmdcaaEntE
import Derived.Deep.QuietTactic
import Derived.BigQuiet
namespace Go.Proofs.Ytdcnfdhhflmdcaa
open Go.RowKit
set_option linter.unusedSimpArgs false
set_option linter.unusedVariables false

def numB (n : Int) : Bool := decide (1 ≤ n ∧ n ≤ 1099511627776)
def cntB (n : Int) : Bool := decide (0 ≤ n ∧ n ≤ 1099511627776)
theorem number_any (n : Int) (w : World) : Calls Try.prog 31 #[.int .i64 n] w fun e w' => e = .returned (.bool (numB n)) ∧ w = w' := by
  have H : Hid (numB n = (decide (1 ≤ n) && decide (n ≤ 1099511627776))) := Lib.hid (by unfold numB; simp)
  go_enter Try.func31, Try.ntmps31
  go_wp2
  all_goals
    go_ret
    exact ⟨by rw [H.out]; first | (simp_all; done) | (simp_all; omega), rfl⟩
theorem rnumber_any (n : Int) (w : World) : Calls Try.prog 41 #[.int .i64 n] w fun e w' => e = .returned (.bool (numB n)) ∧ w = w' := by
  have H : Hid (numB n = (decide (1 ≤ n) && decide (n ≤ 1099511627776))) := Lib.hid (by unfold numB; simp)
  go_enter Try.func41, Try.ntmps41
  go_wp2
  all_goals
    go_ret
    exact ⟨by rw [H.out]; first | (simp_all; done) | (simp_all; omega), rfl⟩
theorem count_any (n : Int) (w : World) : Calls Try.prog 34 #[.int .i64 n] w fun e w' => e = .returned (.bool (cntB n)) ∧ w = w' := by
  by_cases h0 : n = 0
  · subst h0
    go_enter Try.func34, Try.ntmps34
    go_wp2
    go_ret
    exact ⟨ret_bool (show true = cntB 0 by decide), rfl⟩
  · have H : Hid (cntB n = numB n) := Lib.hid (by unfold numB cntB; rw [decide_eq_decide]; omega)
    have z1 : (n == 0) = false := beq_eq_false_iff_ne.2 h0
    have HN := number_any n w
    clear h0
    go_enter Try.func34, Try.ntmps34
    go_wp2_with (go_at_call 31; refine HN.mono ?_; rintro e w' ⟨rfl, rfl⟩)
    go_ret
    exact ⟨by rw [H.out]; rfl, rfl⟩
theorem rcount_any (n : Int) (w : World) : Calls Try.prog 38 #[.int .i64 n] w fun e w' => e = .returned (.bool (cntB n)) ∧ w = w' := by
  have H : Hid (cntB n = (decide (0 ≤ n) && decide (n ≤ 1099511627776))) := Lib.hid (by unfold cntB; simp)
  go_enter Try.func38, Try.ntmps38
  go_wp2
  all_goals
    go_ret
    exact ⟨by rw [H.out]; first | (simp_all; done) | (simp_all; omega), rfl⟩
/-- may these terms stand behind that one? -/
def riseB : Int → List Ent → Bool
  | _, [] => true
  | t, e :: r => numB e.term && decide (t ≤ e.term) && riseB e.term r
theorem rise_on {es : List Ent} {k : Nat} {t : Int} (h : k < es.length) : riseB t (es.drop k) = (numB (es[k]).term && decide (t ≤ (es[k]).term) && riseB (es[k]).term (es.drop (k + 1))) := by
  rw [List.drop_eq_getElem_cons h]
  rfl
def es (ms : List MEnt) : List Ent := ms.map (·.e)
theorem es_len (ms : List MEnt) : (es ms).length = ms.length := by simp [es]
theorem es_at {ms : List MEnt} {k : Nat} (h : k < ms.length) : (es ms)[k]'(by rw [es_len]; exact h) = (gme ms k).e := by simp [es, gme_at h]
def RisesRel (t0 : Int) (ms : List MEnt) (w0 : World) (t i : Value) (wr : World) : Prop :=
  ∃ (k q : Nat) (tk : Int), i = .int .i64 k ∧ k ≤ ms.length ∧ t = .int .i64 tk ∧ riseB t0 (es ms) = riseB tk ((es ms).drop k) ∧ wr = w0.drewN q
set_option maxHeartbeats 2000000 in
set_option maxRecDepth 100000 in
theorem rrises_any (t : Int) (A : Option Addr) (c B : Nat) (ms : List MEnt) (w : World) (h : Ents w B A ms.length ms) (hl : ms.length ≤ 8796093022208) :
    Calls Try.prog 39 #[.int .i64 t, .slice A ms.length c] w fun e w' => e = .returned (.bool (riseB t (es ms))) ∧ ∃ q, w' = w.drewN q := by
  go_enter Try.func39, Try.ntmps39
  go_wp2
  go_loopw [0, 5] (RisesRel t ms w) (fun _ i _ => ms.length - (intOf i).toNat)
  case atStart => exact ⟨0, 0, t, rfl, Nat.zero_le _, rfl, rfl, rfl⟩
  case round =>
    obtain ⟨k, q, tk, rfl, hk, rfl, hR, rfl⟩ := hrel
    by_cases hlt : k < ms.length
    · obtain ⟨b, off, rfl, _, hc⟩ := h.at_ hlt
      have x0 := hc 0 _ rfl
      rw [Nat.add_zero] at x0
      have hon := rise_on (t := tk) (es := es ms) (k := k) (by rw [es_len]; exact hlt)
      rw [es_at hlt] at hon
      have HR := Lib.hid (hR.trans hon)
      have kL : (0 : Int) ≤ (k : Int) := by omega
      have kU : (k : Int) < (ms.length : Int) := by omega
      clear hR hon hc h
      obtain ⟨x, hx⟩ : ∃ x, x = (gme ms k).e.term := ⟨_, rfl⟩
      rw [← hx] at x0 HR
      clear hx
      have HN := Lib.hid (fun w => rnumber_any x w)
      cases hn : numB x with
      | false =>
        rw [hn] at HN HR
        have HR2 : Hid (riseB t (es ms) = false) := Lib.hid (by rw [HR.out]; rfl)
        clear HR hn
        go_wp2_with (go_at_call 41; refine (HN.out _).mono ?_; rintro e w' ⟨rfl, rfl⟩)
        go_ret
        exact ⟨by rw [HR2.out]; rfl, q, rfl⟩
      | true =>
        rw [hn] at HN HR
        by_cases hle : tk ≤ x
        · have z1 : decide (x < tk) = false := decide_eq_false (by omega)
          have HR2 : Hid (riseB t (es ms) = riseB x ((es ms).drop (k + 1))) := Lib.hid (by rw [HR.out, decide_eq_true hle]; rfl)
          clear HR hn hle
          go_wp2_with (go_at_call 41; refine (HN.out _).mono ?_; rintro e w' ⟨rfl, rfl⟩)
          go_roundw
          case rel => exact ⟨k + 1, q, x, by go_num, by omega, rfl, HR2.out, rfl⟩
          case measure => simp [intOf]; omega
        · have z1 : decide (x < tk) = true := decide_eq_true (by omega)
          have HR2 : Hid (riseB t (es ms) = false) := Lib.hid (by rw [HR.out, decide_eq_false hle]; rfl)
          clear HR hn hle
          go_wp2_with (go_at_call 41; refine (HN.out _).mono ?_; rintro e w' ⟨rfl, rfl⟩)
          go_ret
          exact ⟨by rw [HR2.out]; rfl, q, rfl⟩
    · have HR2 : Hid (riseB t (es ms) = true) := Lib.hid (by rw [hR, List.drop_of_length_le (by rw [es_len]; omega)]; rfl)
      clear hR h
      go_wp2
      go_ret
      exact ⟨by rw [HR2.out]; rfl, q, rfl⟩
end Go.Proofs.Ytdcnfdhhflmdcaa
