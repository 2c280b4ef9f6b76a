/- BufOne: the walk. (printed by gen_bod.py) -/
import Derived.Test.YtidiohmpmjhbaaaBoB
import Derived.Test.YtidiohmpmjhbaaaBoC
import Derived.Test.YtidiohmpmjhbaaaBwE
namespace Go.Proofs.Ytidiohmpmjhbaaa
open Go.RowKit

/-- a reader and a writer apart, above the law's own start -/
structure OneM (w0 w : World) (b : Nat) (R : Rd) (A : Option Addr) (c bw : Nat) (W : Wr) (A2 : Option Addr) (c2 : Nat) : Prop where
  r : IsR w b R A c
  v : IsW w bw W A2 c2
  dis : ∀ k ∈ b :: ob A, k ∉ bw :: ob A2
  lo : ∀ k ∈ b :: ob A, w0.heap.size ≤ k
  lo' : ∀ k ∈ bw :: ob A2, w0.heap.size ≤ k
  below : Below w0.heap.size w0 w
section
variable {w0 w w' : World} {b c bw c2 : Nat} {A A2 : Option Addr} {R R1 : Rd} {W W1 : Wr} {e : Ending}
theorem OneM.read (h : OneM w0 w b R A c bw W A2 c2) (hR : IsR w' b R1 A c) (hk : Kept [b] w w') : OneM w0 w' b R1 A c bw W A2 c2 :=
  ⟨hR, h.v.kept hk (fun k hk hm => by
    simp at hm
    rw [hm] at hk
    exact h.dis b (by simp) hk), h.dis, h.lo, h.lo', h.below.trans (hk.below h.below.size (by simpa using h.lo b (by simp)))⟩
theorem OneM.put (h : OneM w0 w b R A c bw W A2 c2) (hp : PutW w bw A2 W1 e w') : e = .returned (.tuple #[]) ∧ ∃ A3 c3, OneM w0 w' b R A c bw W1 A3 c3 := by
  obtain ⟨he, A3, c3, hW, hM⟩ := hp
  exact ⟨he, A3, c3, h.r.kept hM.kept h.dis, hW, hM.apart h.r.lt h.dis, h.lo, fun k hk => (hM.foot k hk).elim (h.lo' k) (fun hk => Nat.le_trans h.below.size hk), h.below.trans (hM.kept.below h.below.size h.lo')⟩
end
theorem byte_lt (R : Rd) : R.byte.1 < 256 := by
  unfold Rd.byte byteV
  split
  · cases R.rest with
    | nil => simp
    | cons x r => simpa using UInt8.toNat_lt x
  · simp
theorem int_lo (R : Rd) : -9223372036854775808 ≤ R.int.1 ∧ R.int.1 ≤ 9223372036854775807 := by
  have h := uint_lt R
  show -9223372036854775808 ≤ zag R.uint.1 ∧ zag R.uint.1 ≤ 9223372036854775807
  unfold zag
  split <;> omega
theorem int_bad {R : Rd} (h : R.int.2.e ≠ 0) : R.int.2.bs = R.bs ∧ R.int.2.at_ = R.at_ := uint_bad h
theorem text_size (R : Rd) (m : Int) : (R.text m).1.length ≤ R.bs.length := by
  have hl := rest_len R
  unfold Rd.text
  split
  · simp only
    unfold textS
    split
    · rw [List.length_take, List.length_drop]
      omega
    · simp
  · simp

set_option maxHeartbeats 4000000 in
set_option maxRecDepth 100000 in
theorem one_any (D0 : Option Addr) (cD : Nat) (d : List UInt8) (A : Option Addr) (n c : Nat) (ops : List OpD) (w : World) (hd : Reads w w.heap.size 1 D0 d.length (bc d)) (hcD : d.length ≤ cD) (hops : OpsAt w w.heap.size A n ops) (hn : n ≤ 140737488355328) :
    Calls Try.prog 5 #[.slice D0 d.length cD, .slice A n c] w fun e w' => e = .returned (.bool true) ∧ Below w.heap.size w w' := by
  by_cases hbig : 1048576 < d.length
  · go_enter Try.func5, Try.ntmps5
    go_wp2_with fail
    refine (works_any w).mono ?_
    rintro e w1 ⟨rfl, hb1⟩
    go_wp2
    go_ret
    exact ⟨rfl, hb1⟩
  · go_enter Try.func5, Try.ntmps5
    go_wp2_with fail
    refine (works_any w).mono ?_
    rintro e w1 ⟨rfl, hb1⟩
    go_wp2_with fail
    refine (rnew_any D0 cD w.heap.size d w1 (hd.below hb1) hb1.size (by omega)).mono ?_
    rintro e w2 ⟨b, A1, c1, rfl, hR, hb2, hf⟩
    go_wp2_with fail
    refine (new_any d.length w2).mono ?_
    rintro e w3 ⟨rfl, rfl⟩
    have hs1 := hb1.size
    have hb12 := hb1.trans (hb2.mono hs1)
    have hs12 := hb12.size
    have hM0 : OneM w (w2.alloc (.cells #[.slice none 0 0, .int .i64 (max 0 (d.length : Int)), .bool false] 63)) b ⟨d, 0, 0⟩ A1 c1 w2.heap.size (Wr.new d.length) none 0 :=
      ⟨hR.below (below_alloc _ _), ⟨Blk.new _ _ _, World.ownsRow_nil _ _ _ _, by unfold Wr.new; simp only; omega, by unfold Wr.new; simp only; omega⟩, fun k hk hm => by have := hR.lt k hk; simp [ob] at hm; omega, fun k hk => Nat.le_trans hs1 (hf k hk), fun k hk => by simp [ob] at hk; omega, hb12.alloc hs12 _⟩
    have hI0 : InvO d ⟨d, 0, 0⟩ (Wr.new d.length) := ⟨rfl, by unfold Wr.new; simp only; omega, rfl, by simp [Wr.new], Nat.zero_le _⟩
    generalize w2.alloc (.cells #[.slice none 0 0, .int .i64 (max 0 (d.length : Int)), .bool false] 63) = w3 at *
    generalize w2.heap.size = bw at *
    clear hb1 hb2 hb12 hs1 hs12 hR hf
    go_wp2
    go_loopw [7] (fun i wr => ∃ (k : Nat) (R : Rd) (W : Wr) (A2 : Option Addr) (c2 : Nat), i = .int .i64 k ∧ k ≤ n ∧ OneM w wr b R A1 c1 bw W A2 c2 ∧ InvO d R W) (fun i _ => n - (intOf i).toNat)
    case atStart => exact ⟨0, _, _, _, _, rfl, Nat.zero_le _, hM0, hI0⟩
    case round =>
      obtain ⟨k, R, W, A2, c2, rfl, hk, hM, hI⟩ := hrel
      have hxl : W.xs.length ≤ d.length := by rw [hI.xs, List.length_take]; omega
      by_cases hlt : k < n
      · have hkl : k < ops.length := by have := hops.1; omega
        obtain ⟨ob', off, rfl, hbl, hcs⟩ := (hops.below hM.below).2 (by omega)
        obtain ⟨o, ho⟩ : ∃ o, ops[k] = o := ⟨_, rfl⟩
        obtain ⟨Ab, cb, hf, hcell⟩ := hcs k o (by rw [List.getElem?_eq_getElem hkl, ho])
        have y0 : wr.cell? ⟨ob', off + k * 6, none⟩ = some (.int .i64 o.kind) := hcell 0 _ rfl
        clear hcell hcs ho hops hf
        generalize o.kind = kd at *
        by_cases k0 : kd = 0
        · have q0 : (kd == 0) = true := beq_iff_eq.2 k0
          have hbad := byte_bad (R := R)
          have hgood := hI.byte
          have HR := Lib.hid (rbyte_any b R A1 c1 wr hM.r)
          have hside := byte_lt R
          generalize R.byte = q at *
          obtain ⟨v, R1⟩ := q
          simp only at hbad hgood HR hside
          go_wp2_with fail
          refine HR.out.mono ?_
          rintro e w1 ⟨rfl, hR1, hk1⟩
          have hM1 := hM.read hR1 hk1
          have HE := rerr_any b _ A1 c1 w1 hR1
          go_wp2_with fail
          by_cases he : R1.e = 0
          · have hI1 := hgood he
            rw [he] at HE
            refine HE.mono ?_
            rintro e w2 ⟨rfl, rfl⟩
            go_wp2_with fail
            refine (byte_any bw W A2 c2 v w1 hM1.v hside (by omega)).mono ?_
            intro e w3 hp
            obtain ⟨rfl, A3, c3, hM3⟩ := hM1.put hp
            go_wp2
            go_roundw
            case rel => first | exact ⟨k + 1, _, _, _, _, by go_num, by omega, hM3, hI1⟩ | ((repeat apply Exists.intro); refine ⟨?_, rfl⟩; exact ⟨k + 1, _, _, _, _, by go_num, by omega, hM3, hI1⟩)
            case measure => simp [intOf]; omega
          · have hI1 := hI.same (hbad he).1 (hbad he).2
            have hq : (R1.e == 0) = false := beq_eq_false_iff_ne.2 he
            refine HE.mono ?_
            rintro e w2 ⟨rfl, rfl⟩
            go_wp2
            go_roundw
            case rel => first | exact ⟨k + 1, _, _, _, _, by go_num, by omega, hM1, hI1⟩ | ((repeat apply Exists.intro); refine ⟨?_, rfl⟩; exact ⟨k + 1, _, _, _, _, by go_num, by omega, hM1, hI1⟩)
            case measure => simp [intOf]; omega
        by_cases k1 : kd = 1
        · have q0 : (kd == 0) = false := beq_eq_false_iff_ne.2 k0
          have q1 : (kd == 1) = true := beq_iff_eq.2 k1
          have hbad := uint_bad (R := R)
          have hgood := hI.uint
          have HR := Lib.hid (ruint_any b R A1 c1 wr hM.r)
          have hside := uint_lt R
          generalize R.uint = q at *
          obtain ⟨v, R1⟩ := q
          simp only at hbad hgood HR hside
          go_wp2_with fail
          refine HR.out.mono ?_
          rintro e w1 ⟨rfl, hR1, hk1⟩
          have hM1 := hM.read hR1 hk1
          have HE := rerr_any b _ A1 c1 w1 hR1
          go_wp2_with fail
          by_cases he : R1.e = 0
          · have hI1 := hgood he
            rw [he] at HE
            refine HE.mono ?_
            rintro e w2 ⟨rfl, rfl⟩
            go_wp2_with fail
            refine (wuint_any bw W A2 c2 v w1 hM1.v hside (by omega)).mono ?_
            intro e w3 hp
            obtain ⟨rfl, A3, c3, hM3⟩ := hM1.put hp
            go_wp2
            go_roundw
            case rel => first | exact ⟨k + 1, _, _, _, _, by go_num, by omega, hM3, hI1⟩ | ((repeat apply Exists.intro); refine ⟨?_, rfl⟩; exact ⟨k + 1, _, _, _, _, by go_num, by omega, hM3, hI1⟩)
            case measure => simp [intOf]; omega
          · have hI1 := hI.same (hbad he).1 (hbad he).2
            have hq : (R1.e == 0) = false := beq_eq_false_iff_ne.2 he
            refine HE.mono ?_
            rintro e w2 ⟨rfl, rfl⟩
            go_wp2
            go_roundw
            case rel => first | exact ⟨k + 1, _, _, _, _, by go_num, by omega, hM1, hI1⟩ | ((repeat apply Exists.intro); refine ⟨?_, rfl⟩; exact ⟨k + 1, _, _, _, _, by go_num, by omega, hM1, hI1⟩)
            case measure => simp [intOf]; omega
        by_cases k2 : kd = 2
        · have q0 : (kd == 0) = false := beq_eq_false_iff_ne.2 k0
          have q1 : (kd == 1) = false := beq_eq_false_iff_ne.2 k1
          have q2 : (kd == 2) = true := beq_iff_eq.2 k2
          have hbad := int_bad (R := R)
          have hgood := hI.int
          have HR := Lib.hid (rint_any b R A1 c1 wr hM.r)
          have hside := int_lo R
          generalize R.int = q at *
          obtain ⟨v, R1⟩ := q
          simp only at hbad hgood HR hside
          go_wp2_with fail
          refine HR.out.mono ?_
          rintro e w1 ⟨rfl, hR1, hk1⟩
          have hM1 := hM.read hR1 hk1
          have HE := rerr_any b _ A1 c1 w1 hR1
          go_wp2_with fail
          by_cases he : R1.e = 0
          · have hI1 := hgood he
            rw [he] at HE
            refine HE.mono ?_
            rintro e w2 ⟨rfl, rfl⟩
            go_wp2_with fail
            refine (wint_any bw W A2 c2 v w1 hM1.v hside.1 hside.2 (by omega)).mono ?_
            intro e w3 hp
            obtain ⟨rfl, A3, c3, hM3⟩ := hM1.put hp
            go_wp2
            go_roundw
            case rel => first | exact ⟨k + 1, _, _, _, _, by go_num, by omega, hM3, hI1⟩ | ((repeat apply Exists.intro); refine ⟨?_, rfl⟩; exact ⟨k + 1, _, _, _, _, by go_num, by omega, hM3, hI1⟩)
            case measure => simp [intOf]; omega
          · have hI1 := hI.same (hbad he).1 (hbad he).2
            have hq : (R1.e == 0) = false := beq_eq_false_iff_ne.2 he
            refine HE.mono ?_
            rintro e w2 ⟨rfl, rfl⟩
            go_wp2
            go_roundw
            case rel => first | exact ⟨k + 1, _, _, _, _, by go_num, by omega, hM1, hI1⟩ | ((repeat apply Exists.intro); refine ⟨?_, rfl⟩; exact ⟨k + 1, _, _, _, _, by go_num, by omega, hM1, hI1⟩)
            case measure => simp [intOf]; omega
        by_cases k3 : kd = 3
        · have q0 : (kd == 0) = false := beq_eq_false_iff_ne.2 k0
          have q1 : (kd == 1) = false := beq_eq_false_iff_ne.2 k1
          have q2 : (kd == 2) = false := beq_eq_false_iff_ne.2 k2
          have q3 : (kd == 3) = true := beq_iff_eq.2 k3
          have hbad := text_bad' (R := R) (m := d.length)
          have hgood := hI.text d.length
          have HR := Lib.hid (rtext_any b R A1 c1 d.length (by omega) (by omega) wr hM.r)
          have hside := text_size R d.length
          rw [hI.bs] at hside
          generalize R.text d.length = q at *
          obtain ⟨v, R1⟩ := q
          simp only at hbad hgood HR hside
          go_wp2_with fail
          refine HR.out.mono ?_
          rintro e w1 ⟨rfl, hR1, hk1⟩
          have hM1 := hM.read hR1 hk1
          have HE := rerr_any b _ A1 c1 w1 hR1
          go_wp2_with fail
          by_cases he : R1.e = 0
          · have hI1 := hgood he
            rw [he] at HE
            refine HE.mono ?_
            rintro e w2 ⟨rfl, rfl⟩
            go_wp2_with fail
            refine (wtext_any bw W A2 c2 ⟨v.toArray⟩ w1 hM1.v (by show W.xs.length + v.toArray.size + 10 ≤ _; simp; omega)).mono ?_
            intro e w3 hp
            obtain ⟨rfl, A3, c3, hM3⟩ := hM1.put hp
            go_wp2
            go_roundw
            case rel => first | exact ⟨k + 1, _, _, _, _, by go_num, by omega, hM3, hI1⟩ | ((repeat apply Exists.intro); refine ⟨?_, rfl⟩; exact ⟨k + 1, _, _, _, _, by go_num, by omega, hM3, hI1⟩)
            case measure => simp [intOf]; omega
          · have hI1 := hI.same (hbad he).1 (hbad he).2
            have hq : (R1.e == 0) = false := beq_eq_false_iff_ne.2 he
            refine HE.mono ?_
            rintro e w2 ⟨rfl, rfl⟩
            go_wp2
            go_roundw
            case rel => first | exact ⟨k + 1, _, _, _, _, by go_num, by omega, hM1, hI1⟩ | ((repeat apply Exists.intro); refine ⟨?_, rfl⟩; exact ⟨k + 1, _, _, _, _, by go_num, by omega, hM1, hI1⟩)
            case measure => simp [intOf]; omega
        have q0 : (kd == 0) = false := beq_eq_false_iff_ne.2 k0
        have q1 : (kd == 1) = false := beq_eq_false_iff_ne.2 k1
        have q2 : (kd == 2) = false := beq_eq_false_iff_ne.2 k2
        have q3 : (kd == 3) = false := beq_eq_false_iff_ne.2 k3
        go_wp2
        go_roundw
        case rel => first | exact ⟨k + 1, _, _, _, _, by go_num, by omega, hM, hI⟩ | ((repeat apply Exists.intro); refine ⟨?_, rfl⟩; exact ⟨k + 1, _, _, _, _, by go_num, by omega, hM, hI⟩)
        case measure => simp [intOf]; omega
      · have hge : n ≤ k := by omega
        have ho : W.out = d.take R.at_ := by unfold Wr.out; rw [if_neg (by simp [hI.over]), hI.xs]
        have he : W.err = 0 := by unfold Wr.err; rw [if_neg (by simp [hI.over])]
        have hle := hI.le
        have hol : (d.take R.at_).length = R.at_ := by rw [List.length_take]; omega
        have HC := wbytes_any bw W A2 c2 wr hM.v (by omega)
        rw [ho, he] at HC
        clear hops ho he hM0 hI0
        go_wp2_with fail
        refine HC.mono ?_
        clear HC
        rintro e w4 ⟨Ao, co, rfl, hown, hb4, hfo⟩
        rw [hol] at hown ⊢
        have hR4 := hM.r.below hb4
        have hbel := hM.below.trans (hb4.mono hM.below.size)
        have hdt := (hd.below hbel).take (k := R.at_) hle
        rw [Nat.mul_one, show (bc d).take R.at_ = bc (d.take R.at_) by unfold bc; rw [List.map_take]] at hdt
        go_wp2_with fail
        refine (rat_any b R A1 c1 w4 hR4).mono ?_
        rintro e w5 ⟨rfl, rfl⟩
        go_wp2_with (go_at_call 12; refine (same_yes _ _ _ _ _ _ _ _ (d.take R.at_) w4 (Reads.of_own hown) hdt).mono ?_; rintro e w' ⟨rfl, rfl⟩)
        go_ret
        exact ⟨rfl, hbel⟩
end Go.Proofs.Ytidiohmpmjhbaaa
