/- rlog: rising. -/
import Derived.Test.YtdcnfdhhflmdcaaEntF
namespace Go.Proofs.Ytdcnfdhhflmdcaa
open Go.RowKit
set_option linter.unusedSimpArgs false
set_option linter.unusedVariables false
def RisingRel (t0 : Int) (ms : List MEnt) (w0 : World) (t e i : Value) (wr : World) : Prop :=
  ∃ (k : Nat) (tk : Int), i = .int .i64 k ∧ k ≤ ms.length ∧ t = .int .i64 tk ∧ riseB t0 (es ms) = riseB tk ((es ms).drop k) ∧ Below w0.heap.size w0 wr
set_option maxHeartbeats 200000 in
set_option maxRecDepth 100000 in
theorem rising_any (t : Int) (A : Option Addr) (c : Nat) (ms : List MEnt) (w : World) (h : Ents w w.heap.size A ms.length ms) (hl : ms.length ≤ 8796093022208) :
    Calls Try.prog 35 #[.int .i64 t, .slice A ms.length c] w fun e w' => e = .returned (.bool (riseB t (es ms))) ∧ Below w.heap.size w w' := by
  go_enter Try.func35, Try.ntmps35
  go_wp2
  go_loopw [0, 6, 9] (RisingRel t ms w) (fun _ _ i _ => ms.length - (intOf i).toNat)
  case atStart => exact ⟨0, t, rfl, Nat.zero_le _, rfl, rfl, Below.refl _ _⟩
  case round =>
    obtain ⟨k, tk, rfl, hk, rfl, hR, hb⟩ := hrel
    by_cases hlt : k < ms.length
    · obtain ⟨b, off, rfl, _, hrg⟩ := (h.below hb).range hlt
      have hon := rise_on (t := tk) (es := es ms) (k := k) (by rw [es_len]; exact hlt)
      rw [es_at hlt] at hon
      have HR := Lib.hid (hR.trans hon)
      have kL : (0 : Int) ≤ (k : Int) := by omega
      have kU : (k : Int) < (ms.length : Int) := by omega
      clear hR hon h
      obtain ⟨m, hm⟩ : ∃ m, m = gme ms k := ⟨_, rfl⟩
      rw [← hm] at hrg HR
      clear hm
      have hb2 := hb.alloc hb.size (.cells #[.int .i64 0, .int .i64 0, .int .i64 0, .int .i64 0, .int .i64 0, .string ⟨#[]⟩, .int .i64 0, .slice none 0 0, .slice none 0 0, .int .i64 0, .int .i64 0, .int .i64 0, .int .i64 0] 37)
      have k2 := Blk.new wr 37 #[.int .i64 0, .int .i64 0, .int .i64 0, .int .i64 0, .int .i64 0, .string ⟨#[]⟩, .int .i64 0, .slice none 0 0, .slice none 0 0, .int .i64 0, .int .i64 0, .int .i64 0, .int .i64 0]
      have hst := cells_ent (P := Try.prog) m (k2.there (o := 0) (n := 13) (by decide))
      have l5 : Blk ((wr.alloc (.cells #[.int .i64 0, .int .i64 0, .int .i64 0, .int .i64 0, .int .i64 0, .string ⟨#[]⟩, .int .i64 0, .slice none 0 0, .slice none 0 0, .int .i64 0, .int .i64 0, .int .i64 0, .int .i64 0] 37)).setCells wr.heap.size 0 (mcell m)) wr.heap.size 37 (mcell m).toArray := Blk.setAll (mcell m) (p := 0) k2
      have hb6 := belowAll (mcell m) (g := wr.heap.size) (p := 0) hb2 hb.size
      have x0 : ((wr.alloc (.cells #[.int .i64 0, .int .i64 0, .int .i64 0, .int .i64 0, .int .i64 0, .string ⟨#[]⟩, .int .i64 0, .slice none 0 0, .slice none 0 0, .int .i64 0, .int .i64 0, .int .i64 0, .int .i64 0] 37)).setCells wr.heap.size 0 (mcell m)).cell? ⟨wr.heap.size, 0, none⟩ = some (.int .i64 m.e.term) := l5.cell 0
      have HN := Lib.hid (fun w => number_any m.e.term w)
      obtain ⟨wn, hwn⟩ : ∃ wn, wn = (wr.alloc (.cells #[.int .i64 0, .int .i64 0, .int .i64 0, .int .i64 0, .int .i64 0, .string ⟨#[]⟩, .int .i64 0, .slice none 0 0, .slice none 0 0, .int .i64 0, .int .i64 0, .int .i64 0, .int .i64 0] 37)).setCells wr.heap.size 0 (mcell m) := ⟨_, rfl⟩
      rw [← hwn] at hst x0 hb6
      clear l5 hwn
      have HB6 := Lib.hid hb6
      clear k2 hb2 hb6
      obtain ⟨x, hx⟩ : ∃ x, x = m.e.term := ⟨_, rfl⟩
      rw [← hx] at x0 HR HN
      clear hx
      go_wp2_with ((with_reducible refine wpList_load_mid ?e1 37 (.tmp 11) ?e2 b (off + k * 13) ?e3 (mcell m) _ ?e4 Try.underlying37 ?e5 ?e6 ?e7); (case e1 => rfl); (case e2 => rfl); (case e3 => rfl); (case e4 => exact hrg); (case e5 => rfl); (case e6 => kernel_rfl); (case' e7 => skip))
      cases hn : numB x with
      | false =>
        rw [hn] at HN HR
        have HR2 : Hid (riseB t (es ms) = false) := Lib.hid (by rw [HR.out]; rfl)
        clear HR hn
        refine (HN.out _).mono ?_
        rintro e w' ⟨rfl, rfl⟩
        go_wp2
        go_ret
        exact ⟨by rw [HR2.out]; rfl, HB6.out⟩
      | true =>
        rw [hn] at HN HR
        by_cases hle : tk ≤ x
        · have z1 : decide (x < tk) = false := decide_eq_false (by omega)
          have HR2 : Hid (riseB t (es ms) = riseB x ((es ms).drop (k + 1))) := Lib.hid (by rw [HR.out, decide_eq_true hle]; rfl)
          clear HR hn hle
          refine (HN.out _).mono ?_
          rintro e w' ⟨rfl, rfl⟩
          go_wp2
          go_roundw
          case rel => exact ⟨k + 1, x, by go_num, by omega, rfl, HR2.out, HB6.out⟩
          case measure => simp [intOf]; omega
        · have z1 : decide (x < tk) = true := decide_eq_true (by omega)
          have HR2 : Hid (riseB t (es ms) = false) := Lib.hid (by rw [HR.out, decide_eq_false hle]; rfl)
          clear HR hn hle
          refine (HN.out _).mono ?_
          rintro e w' ⟨rfl, rfl⟩
          go_wp2
          go_ret
          exact ⟨by rw [HR2.out]; rfl, HB6.out⟩
    · have HR2 : Hid (riseB t (es ms) = true) := Lib.hid (by rw [hR, List.drop_of_length_le (by rw [es_len]; omega)]; rfl)
      clear hR h
      go_wp2
      go_ret
      exact ⟨by rw [HR2.out]; rfl, hb⟩
end Go.Proofs.Ytdcnfdhhflmdcaa
