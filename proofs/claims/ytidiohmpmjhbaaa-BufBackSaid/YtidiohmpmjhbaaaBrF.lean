/- The readers of layer 1: the reference's numbers, bytes and texts. -/
import Derived.Test.YtidiohmpmjhbaaaBrE
namespace Go.Proofs.Ytidiohmpmjhbaaa
open Go.RowKit

theorem byte_raw (R : Rd) : R.byte = (byteV (R.raw 1).1, (R.raw 1).2) := by
  unfold Rd.byte Rd.raw
  by_cases he : R.e = 0
  · rw [if_pos he, if_pos he]
    generalize R.rest = l
    cases l with
    | nil => simp [byteV, byteK, byteE, rawS, rawK, rawE]
    | cons x r =>
      have h : ¬ ((r.length : Int) + 1 < 1) := by omega
      simp [byteV, byteK, byteE, rawS, rawK, rawE, h]
  · rw [if_neg he, if_neg he]
    rfl
theorem raw1_len (R : Rd) : (R.raw 1).1.length ≤ 1 := by
  unfold Rd.raw
  split
  · simp only
    unfold rawS
    split <;> simp <;> omega
  · simp
set_option maxHeartbeats 2000000 in
theorem qbyte_any (b : Nat) (R : Rd) (A : Option Addr) (c : Nat) (w : World) (h : IsQ w b R A c) :
    Calls Try.prog 39 #[.pointer (some ⟨b, 0, none⟩)] w (QdEnds w b R.byte.2 A c (.int .u8 R.byte.1)) := by
  rw [byte_raw R]
  have HC := Lib.hid (qraw_any b R A c 1 (by omega) (by omega) w h)
  have h1 := raw1_len R
  generalize R.raw 1 = q at *
  obtain ⟨xs, R1⟩ := q
  simp only at h1 HC ⊢
  cases xs with
  | nil =>
    go_enter Try.func39, Try.ntmps39
    go_wp2_with fail
    refine HC.out.mono ?_
    rintro e w1 ⟨A1, c1, rfl, hown, hf, hR, hk⟩
    go_wp2
    go_ret
    exact ⟨rfl, hR, hk⟩
  | cons x r =>
    obtain rfl : r = [] := by
      cases r with
      | nil => rfl
      | cons => simp at h1
    go_enter Try.func39, Try.ntmps39
    go_wp2_with fail
    refine HC.out.mono ?_
    rintro e w1 ⟨A1, c1, rfl, hown, hf, hR, hk⟩
    obtain ⟨ad, rfl, _, hc⟩ := (Reads.of_own hown).byte (k := 0) (by simp)
    rw [Addr.add_zero'] at hc
    simp only [List.getElem_cons_zero] at hc
    go_wp2
    go_ret
    exact ⟨rfl, hR, hk⟩

/-- what the reference's loop lays over the number so far -/
theorem qlay (acc x k : Nat) (hx : x < 256) (ha : acc < 2 ^ (7 * k)) (hk : k ≤ 8 ∨ k = 9 ∧ x ≤ 1) : acc + x % 128 * 2 ^ (7 * k) < 18446744073709551616 := by
  have h := acc_lt acc x k ha
  rcases hk with h1 | ⟨rfl, h1⟩
  · have h1 : 2 ^ (7 * (k + 1)) ≤ 2 ^ 63 := Nat.pow_le_pow_right (by decide) (by omega)
    omega
  · omega

theorem qwrap (acc x k : Nat) (h : acc + x % 128 * 2 ^ (7 * k) < 18446744073709551616) : IntKind.u64.wrap ((acc : Int) + IntKind.u64.wrap ((x : Int) % 128 * 2 ^ (7 * k))) = ((acc + x % 128 * 2 ^ (7 * k) : Nat) : Int) := by
  have e : (x : Int) % 128 * 2 ^ (7 * k) = ((x % 128 * 2 ^ (7 * k) : Nat) : Int) := by simp
  rw [e, wrapN _ (by omega), show (acc : Int) + ((x % 128 * 2 ^ (7 * k) : Nat) : Int) = ((acc + x % 128 * 2 ^ (7 * k) : Nat) : Int) by omega, wrapN _ h]
set_option maxHeartbeats 4000000 in
set_option maxRecDepth 100000 in
theorem quint_any (b : Nat) (R : Rd) (A : Option Addr) (c : Nat) (w : World) (h : IsQ w b R A c) :
    Calls Try.prog 40 #[.pointer (some ⟨b, 0, none⟩)] w (QdEnds w b R.uint.2 A c (.int .u64 R.uint.1)) := by
  have c2 := h.blk.cell 2
  simp only [List.getElem?_toArray, List.getElem?_cons_zero, List.getElem?_cons_succ] at c2
  by_cases he : R.e = 0
  · have e1 : R.uint = ((num R.rest).1, R.step (num R.rest).2.1 (num R.rest).2.2) := by unfold Rd.uint; rw [if_pos he]
    rw [e1]
    clear e1
    rw [he] at c2
    have hle := h.le
    have htop := h.top
    go_enter Try.func40, Try.ntmps40
    go_wp2
    go_loopw [3, 4] (fun n i wr => ∃ k acc : Nat, k ≤ 10 ∧ R.at_ + k ≤ R.bs.length ∧ i = .int .i64 k ∧ n = .int .u64 acc ∧ numFrom (10 - k) k acc (R.rest.drop k) = num R.rest ∧ (k ≤ 9 → acc < 2 ^ (7 * k)) ∧ ∃ m, wr = w.drewN m) (fun _ i _ => 10 - (intOf i).toNat)
    case atStart => exact ⟨0, 0, by omega, by omega, rfl, rfl, rfl, by simp, 0, rfl⟩
    case round =>
      obtain ⟨k, acc, hk, hkl, rfl, rfl, hnum, hacc, m, rfl⟩ := hrel
      have hq := h.drewN m
      have hkw : Kept [b] w (w.drewN m) := (Kept.refl _ _).drewN _
      have H := Lib.hid hnum
      have Ha := Lib.hid hacc
      clear hnum hacc
      have Hw : Hid (∀ n, ∃ m', (w.drewN m).drewN n = w.drewN m') := fun n => ⟨m + n, by simp⟩
      generalize w.drewN m = wd at *
      have d0 := hq.blk.cell 0
      have d1 := hq.blk.cell 1
      have d2 := hq.blk.cell 2
      simp only [List.getElem?_toArray, List.getElem?_cons_zero, List.getElem?_cons_succ] at d0 d1 d2
      have g1 := hq.blk.frozen 1
      have g2 := hq.blk.frozen 2
      have hrl : R.rest.length = R.bs.length - R.at_ := by unfold Rd.rest; simp
      have hfail : num R.rest = (0, 0, 10) → Hid (∀ n, QdEnds w b (R.step (num R.rest).2.1 (num R.rest).2.2) A c (.int .u64 (num R.rest).1) (.returned (.int .u64 0)) ((wd.drewN n).setCell ⟨b, 2, none⟩ (.int .i64 10))) := fun hf n => by
        rw [hf]
        exact ⟨rfl, (hq.drewN n).fail 10, (hkw.drewN n).setCell _ (.inl (by simp))⟩
      have Hf := Lib.hid hfail
      clear hfail
      by_cases h10 : k < 10
      · by_cases hend : R.at_ + k = R.bs.length
        · have hf : num R.rest = (0, 0, 1) := by
            rw [← H.out, List.drop_of_length_le (by omega)]
            obtain ⟨f, hf⟩ : ∃ f, 10 - k = f + 1 := ⟨9 - k, by omega⟩
            rw [hf]
            rfl
          rw [hf]
          have hend2 : (R.bs.length : Int) ≤ (R.at_ : Int) + k := by omega
          clear hf
          go_wp2
          go_quiet (fail)
          go_wp2
          go_ret
          exact ⟨rfl, (hq.drewN _).fail 1, (hkw.drewN _).setCell _ (.inl (by simp))⟩
        · have hlt : k < R.rest.length := by omega
          have hlt2 : R.at_ + k < R.bs.length := by omega
          have hlt3 : ¬ (R.bs.length : Int) ≤ (R.at_ : Int) + k := by omega
          have hI1 : (0 : Int) ≤ (R.at_ : Int) + (k : Int) := by omega
          have hI2 : (R.at_ : Int) + (k : Int) < (R.bs.length : Int) := by omega
          have hI3 : ((R.at_ : Int) + (k : Int)).toNat = R.at_ + k := by omega
          have hI4 : IntKind.i64.wrap ((R.at_ : Int) + (k : Int)) = (R.at_ : Int) + (k : Int) := by rw [IntKind.wrap_i64]; omega
          obtain ⟨ad, rfl, _, hc⟩ := (Reads.of_own hq.row).byte hlt2
          have hx0 : R.bs[R.at_ + k] = R.rest[k] := by
            unfold Rd.rest
            exact (List.getElem_drop ..).symm
          rw [hx0] at hc
          have hx := UInt8.toNat_lt R.rest[k]
          have hd : R.rest.drop k = R.rest[k] :: R.rest.drop (k + 1) := List.drop_eq_getElem_cons hlt
          obtain ⟨f, hf⟩ : ∃ f, 10 - k = f + 1 := ⟨9 - k, by omega⟩
          have hN : numFrom (10 - k) k acc (R.rest.drop k) = if 128 ≤ R.rest[k].toNat then numFrom (10 - (k + 1)) (k + 1) (acc + R.rest[k].toNat % 128 * 2 ^ (7 * k)) (R.rest.drop (k + 1))
              else if k = 9 ∧ 1 < R.rest[k].toNat ∨ 0 < k ∧ R.rest[k].toNat = 0 then (0, 0, 10) else (acc + R.rest[k].toNat * 2 ^ (7 * k), k + 1, 0) := by
            rw [hd, hf, show 10 - (k + 1) = f by omega]
            rfl
          rw [H.out] at hN
          have HN := Lib.hid hN
          clear hN hd hf hx0
          generalize R.rest[k].toNat = x at *
          by_cases hbig : k = 9 ∧ 1 < x
          · have b9 : ((k : Int) == 9) = true := beq_iff_eq.2 (by omega)
            have hx1 : 1 < x := hbig.2
            have hf : num R.rest = (0, 0, 10) := by
              rw [HN.out]
              split
              · rw [show 10 - (k + 1) = 0 by omega, numFrom_zero]
              · rw [if_pos (.inl hbig)]
            have HF := Lib.hid ((Hf.out hf).out)
            clear hf HN hbig
            go_wp2
            go_quiet (fail)
            go_wp2
            go_quiet (fail)
            go_wp2
            go_ret
            exact HF.out _
          · by_cases h128 : 128 ≤ x
            · have hk9 : k < 9 := by omega
              have b9 : ((k : Int) == 9) = false := beq_eq_false_iff_ne.2 (by omega)
              have hN2 : Hid (numFrom (10 - (k + 1)) (k + 1) (acc + x % 128 * 2 ^ (7 * k)) (R.rest.drop (k + 1)) = num R.rest) := by unfold Hid; rw [HN.out, if_pos h128]
              have hal := Ha.out (by omega)
              have hlt4 := acc_lt acc x k hal
              have hlt5 := qlay acc x k hx hal (.inl (by omega))
              have Hl := Lib.hid hlt4
              have Hl5 := Lib.hid hlt5
              clear HN hbig hal hlt4 hlt5
              go_wp2
              go_quiet (fail)
              go_wp2
              go_quiet (fail)
              go_wp2
              refine ⟨?rel, ?measure⟩
              case rel => exact ⟨k + 1, acc + x % 128 * 2 ^ (7 * k), by omega, by omega, by go_num, by rw [qwrap acc x k Hl5.out], hN2.out, fun _ => Hl.out, Hw.out _⟩
              case measure => simp [intOf]; omega
            · have hcase : (k = 9 ∧ x = 0) ∨ (k = 9 ∧ x = 1) ∨ (k < 9 ∧ x = 0 ∧ 0 < k) ∨ (k < 9 ∧ x = 0 ∧ k = 0) ∨ (k < 9 ∧ 0 < x) := by omega
              rcases hcase with hcase | hcase | hcase | hcase | hcase
              · have b9 : ((k : Int) == 9) = true := beq_iff_eq.2 (by omega)
                have bx : ((x : Int) == 0) = true := beq_iff_eq.2 (by omega)
                have hx1 : x ≤ 1 := by omega
                have hpos : 0 < k := by omega
                have hf : num R.rest = (0, 0, 10) := by rw [HN.out, if_neg h128, if_pos (by omega)]
                have HF := Lib.hid ((Hf.out hf).out)
                clear hf HN hbig hcase
                go_wp2
                go_quiet (fail)
                go_wp2
                go_quiet (fail)
                go_wp2
                go_ret
                exact HF.out _
              · have b9 : ((k : Int) == 9) = true := beq_iff_eq.2 (by omega)
                have bx : ((x : Int) == 0) = false := beq_eq_false_iff_ne.2 (by omega)
                have hx1 : x ≤ 1 := by omega
                have hpos : 0 < k := by omega
                have hf : num R.rest = (acc + x * 2 ^ (7 * k), k + 1, 0) := by rw [HN.out, if_neg h128, if_neg (by omega)]
                have hval := qwrap acc x k (qlay acc x k hx (Ha.out (by omega)) (by omega))
                rw [Nat.mod_eq_of_lt (show x < 128 by omega)] at hval
                have Hv := Lib.hid hval
                have hadv : ∀ n, IsQ ((wd.drewN n).setCell ⟨b, 1, none⟩ (.int .i64 ((R.at_ : Int) + k + 1))) b { R with at_ := R.at_ + (k + 1) } (some ad) c := fun n => by
                  have := (hq.drewN n).advance (k + 1) (by omega)
                  rwa [show ((R.at_ : Int) + ((k + 1 : Nat) : Int)) = (R.at_ : Int) + k + 1 by omega] at this
                have Hadv := Lib.hid hadv
                rw [hf]
                clear hf HN hbig hval hadv hcase Hf
                go_wp2
                go_quiet (fail)
                go_wp2
                go_quiet (fail)
                go_wp2
                go_ret
                exact ⟨ret_int Hv.out, Hadv.out _, (hkw.drewN _).setCell _ (.inl (by simp))⟩
              · have b9 : ((k : Int) == 9) = false := beq_eq_false_iff_ne.2 (by omega)
                have bx : ((x : Int) == 0) = true := beq_iff_eq.2 (by omega)
                have hpos : 0 < k := by omega
                have hf : num R.rest = (0, 0, 10) := by rw [HN.out, if_neg h128, if_pos (by omega)]
                have HF := Lib.hid ((Hf.out hf).out)
                clear hf HN hbig hcase
                go_wp2
                go_quiet (fail)
                go_wp2
                go_quiet (fail)
                go_wp2
                go_ret
                exact HF.out _
              · have b9 : ((k : Int) == 9) = false := beq_eq_false_iff_ne.2 (by omega)
                have bx : ((x : Int) == 0) = true := beq_iff_eq.2 (by omega)
                have hpos : k ≤ 0 := by omega
                have hf : num R.rest = (acc + x * 2 ^ (7 * k), k + 1, 0) := by rw [HN.out, if_neg h128, if_neg (by omega)]
                have hval := qwrap acc x k (qlay acc x k hx (Ha.out (by omega)) (by omega))
                rw [Nat.mod_eq_of_lt (show x < 128 by omega)] at hval
                have Hv := Lib.hid hval
                have hadv : ∀ n, IsQ ((wd.drewN n).setCell ⟨b, 1, none⟩ (.int .i64 ((R.at_ : Int) + k + 1))) b { R with at_ := R.at_ + (k + 1) } (some ad) c := fun n => by
                  have := (hq.drewN n).advance (k + 1) (by omega)
                  rwa [show ((R.at_ : Int) + ((k + 1 : Nat) : Int)) = (R.at_ : Int) + k + 1 by omega] at this
                have Hadv := Lib.hid hadv
                rw [hf]
                clear hf HN hbig hval hadv hcase Hf
                go_wp2
                go_quiet (fail)
                go_wp2
                go_quiet (fail)
                go_wp2
                go_ret
                exact ⟨ret_int Hv.out, Hadv.out _, (hkw.drewN _).setCell _ (.inl (by simp))⟩
              · have b9 : ((k : Int) == 9) = false := beq_eq_false_iff_ne.2 (by omega)
                have bx : ((x : Int) == 0) = false := beq_eq_false_iff_ne.2 (by omega)
                have hf : num R.rest = (acc + x * 2 ^ (7 * k), k + 1, 0) := by rw [HN.out, if_neg h128, if_neg (by omega)]
                have hval := qwrap acc x k (qlay acc x k hx (Ha.out (by omega)) (by omega))
                rw [Nat.mod_eq_of_lt (show x < 128 by omega)] at hval
                have Hv := Lib.hid hval
                have hadv : ∀ n, IsQ ((wd.drewN n).setCell ⟨b, 1, none⟩ (.int .i64 ((R.at_ : Int) + k + 1))) b { R with at_ := R.at_ + (k + 1) } (some ad) c := fun n => by
                  have := (hq.drewN n).advance (k + 1) (by omega)
                  rwa [show ((R.at_ : Int) + ((k + 1 : Nat) : Int)) = (R.at_ : Int) + k + 1 by omega] at this
                have Hadv := Lib.hid hadv
                rw [hf]
                clear hf HN hbig hval hadv hcase Hf
                go_wp2
                go_quiet (fail)
                go_wp2
                go_quiet (fail)
                go_wp2
                go_ret
                exact ⟨ret_int Hv.out, Hadv.out _, (hkw.drewN _).setCell _ (.inl (by simp))⟩
      · obtain rfl : k = 10 := by omega
        have hf : num R.rest = (0, 0, 10) := by
          rw [← H.out, show 10 - 10 = 0 from rfl, numFrom_zero]
        have HF := Lib.hid ((Hf.out hf).out)
        clear hf
        go_wp2
        go_ret
        exact HF.out 0
  · have e1 : R.uint = (0, R) := by unfold Rd.uint; rw [if_neg he]
    have hb : (R.e != 0) = true := by simp [he]
    rw [e1]
    clear e1 he
    go_enter Try.func40, Try.ntmps40
    go_wp2
    go_ret
    exact ⟨rfl, h, Kept.refl _ _⟩

set_option maxHeartbeats 2000000 in
theorem qint_any (b : Nat) (R : Rd) (A : Option Addr) (c : Nat) (w : World) (h : IsQ w b R A c) :
    Calls Try.prog 41 #[.pointer (some ⟨b, 0, none⟩)] w (QdEnds w b R.int.2 A c (.int .i64 R.int.1)) := by
  have e1 : R.int = (zag R.uint.1, R.uint.2) := rfl
  have hu := uint_lt R
  rw [e1]
  clear e1
  go_enter Try.func41, Try.ntmps41
  go_wp2_with fail
  refine (quint_any b R A c _ h).mono ?_
  rintro e w1 ⟨rfl, hR, hk⟩
  go_wp2_with fail
  refine (zag_any _ _ hu).mono ?_
  rintro e w1 ⟨rfl, rfl⟩
  go_wp2
  go_ret
  exact ⟨rfl, hR, hk⟩
end Go.Proofs.Ytidiohmpmjhbaaa
