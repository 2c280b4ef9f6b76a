/- BufBack: again. (printed by gen_bkd.py) -/
import Derived.Test.YtidiohmpmjhbaaaBkE
import Derived.Test.YtidiohmpmjhbaaaBrI
import Derived.Deep.RegionHeld3
namespace Go.Proofs.Ytidiohmpmjhbaaa
open Go.RowKit
theorem dec_nat (a b : Nat) : ((a : Int) == (b : Int)) = decide (a = b) := by rw [Bool.eq_iff_iff]; simp; omega
theorem dec_mod (a b : Nat) : ((a : Int) == (b : Int) % 256) = decide (a = b % 256) := by rw [Bool.eq_iff_iff]; simp; omega
theorem dec_wrap (a b : Nat) : ((a : Int) == IntKind.u8.wrap (b : Int)) = decide (a = b % 256) := by rw [IntKind.wrap_u8]; exact dec_mod a b
theorem dec_int (a b : Int) : (a == b) = decide (a = b) := by rw [Bool.eq_iff_iff]; simp
theorem dec_text (xs : List UInt8) (s : ByteArray) : (xs == s.toList) = decide (xs = sb s) := by rw [ByteArray.toList_eq]; exact beq_dec xs s.data.toList
/-- the reader behind all that was asked of it -/
def AgainEnds (w : World) (b : Nat) (A : Option Addr) (c : Nat) (T : Rd × Bool) (e : Ending) (w' : World) : Prop :=
  e = .returned (.bool T.2) ∧ IsR w' b T.1 A c ∧ Kept [b] w w'
set_option maxHeartbeats 4000000 in
set_option maxRecDepth 100000 in
theorem again_any (b : Nat) (R0 : Rd) (A1 : Option Addr) (c1 : Nat) (A : Option Addr) (n c : Nat) (ops : List OpD) (w0 w : World) (hR0 : IsR w b R0 A1 c1) (hops : OpsAt w0 w0.heap.size A n ops) (hb0 : Below w0.heap.size w0 w) (hlo : w0.heap.size ≤ b) (hn : n ≤ 140737488355328) (hsm : ∀ o ∈ ops, o.s.size ≤ 9223372036854775807 ∧ o.b.length ≤ 9223372036854775807) :
    Calls Try.prog 31 #[.pointer (some ⟨b, 0, none⟩), .slice A n c] w (AgainEnds w b A1 c1 (ops.foldl Rd.back (R0, true))) := by
  generalize hT : ops.foldl Rd.back (R0, true) = T
  have HT0 := Lib.hid hT
  clear hT
  go_enter Try.func31, Try.ntmps31
  go_wp2
  go_loopw [5, 6] (fun ok i wr => ∃ (k : Nat) (R : Rd) (t : Bool), i = .int .i64 k ∧ ok = .bool t ∧ k ≤ n ∧ IsR wr b R A1 c1 ∧ Kept [b] w wr ∧ (ops.drop k).foldl Rd.back (R, t) = T) (fun _ i _ => n - (intOf i).toNat)
  case atStart => exact ⟨0, R0, true, rfl, rfl, Nat.zero_le _, hR0, Kept.refl _ _, HT0.out⟩
  case round =>
    obtain ⟨k, R, t, rfl, rfl, hk, hR, hK, hF⟩ := hrel
    have hbl : Below w0.heap.size w0 wr := hb0.trans (hK.below hb0.size (by simpa using hlo))
    by_cases hlt : k < n
    · have hkl : k < ops.length := by have := hops.1; omega
      obtain ⟨lb, off, rfl, hbl2, hcs⟩ := (hops.below hbl).2 (by omega)
      obtain ⟨o, ho⟩ : ∃ o, ops[k] = o := ⟨_, rfl⟩
      obtain ⟨Ab, cb, hf, hcell⟩ := hcs k o (by rw [List.getElem?_eq_getElem hkl, ho])
      have hom : o ∈ ops := by rw [← ho]; exact List.getElem_mem _
      obtain ⟨hs1, hs2⟩ := hsm o hom
      have y0 : wr.cell? ⟨lb, off + k * 6, none⟩ = some (.int .i64 o.kind) := hcell 0 _ rfl
      have y1 : wr.cell? ⟨lb, off + k * 6 + 1, none⟩ = some (.int .u64 o.n) := hcell 1 _ rfl
      have y2 : wr.cell? ⟨lb, off + k * 6 + 2, none⟩ = some (.int .i64 o.i) := hcell 2 _ rfl
      have y3 : wr.cell? ⟨lb, off + k * 6 + 3, none⟩ = some (.string o.s) := hcell 3 _ rfl
      have y4 : wr.cell? ⟨lb, off + k * 6 + 4, none⟩ = some (.slice Ab o.b.length cb) := hcell 4 _ rfl
      have hll : lb < wr.heap.size := Nat.lt_of_lt_of_le hbl2 hbl.size
      have hln : lb ∉ [b] := by simp; omega
      have hfb := hf.b
      rw [List.drop_eq_getElem_cons hkl, ho, List.foldl_cons] at hF
      have HF := Lib.hid hF
      clear hcell hcs ho hF hom hbl2 hsm HT0
      have kL : (0 : Int) ≤ (k : Int) := by omega
      have kU : (k : Int) < (n : Int) := by omega

      by_cases k0 : o.kind = 0
      · have q0 : (o.kind == 0) = true := beq_iff_eq.2 k0
        cases t with
        | false =>
          go_wp2
          go_quiet (fail)
          go_wp2
          go_roundw
          case rel => first | exact ⟨k + 1, R, false, by go_num, rfl, by omega, hR.drewN _, hK.drewN _, HF.out⟩ | ((repeat apply Exists.intro); refine ⟨?_, rfl⟩; exact ⟨k + 1, R, false, by go_num, rfl, by omega, hR.drewN _, hK.drewN _, HF.out⟩)
          case measure => simp [intOf]; omega
        | true =>
          have hst : Rd.back (R, true) o = ((R.byte).2, decide ((R.byte).1 = (o.n % 256))) := by unfold Rd.back; rw [if_neg (by simp), if_pos k0]
          rw [hst] at HF
          have HR := Lib.hid (rbyte_any b R A1 c1 (wr.drewN 1) (hR.drewN 1))
          clear hst
          generalize R.byte = q at *
          obtain ⟨v, R1⟩ := q
          simp only at HF HR
          go_wp2
          go_region_held3 (fun w' => w'.cell? ⟨lb, off + k * 6 + 1, none⟩ = some (.int .u64 o.n)) (first | go_keep) ((go_at_call 19; refine HR.out.mono ?_; rintro e w1 ⟨rfl, hR1, hk1⟩; have x1 := (hk1.cell (p := ⟨lb, off + k * 6 + 1, none⟩) hll hln).trans y1; dsimp only))
          go_wp2
          go_roundw
          case rel => first | exact ⟨k + 1, R1, _, by go_num, rfl, by omega, hR1, ((hK.drewN 1).trans hk1 (fun _ hx => .inl hx)), by first | exact HF.out | (rw [dec_wrap]; exact HF.out)⟩ | ((repeat apply Exists.intro); refine ⟨?_, rfl⟩; exact ⟨k + 1, R1, _, by go_num, rfl, by omega, hR1, ((hK.drewN 1).trans hk1 (fun _ hx => .inl hx)), by first | exact HF.out | (rw [dec_wrap]; exact HF.out)⟩)
          case measure => simp [intOf]; omega
      by_cases k1 : o.kind = 1
      · have q0 : (o.kind == 0) = false := beq_eq_false_iff_ne.2 k0
        have q1 : (o.kind == 1) = true := beq_iff_eq.2 k1
        cases t with
        | false =>
          go_wp2
          go_quiet (fail)
          go_wp2
          go_roundw
          case rel => first | exact ⟨k + 1, R, false, by go_num, rfl, by omega, hR.drewN _, hK.drewN _, HF.out⟩ | ((repeat apply Exists.intro); refine ⟨?_, rfl⟩; exact ⟨k + 1, R, false, by go_num, rfl, by omega, hR.drewN _, hK.drewN _, HF.out⟩)
          case measure => simp [intOf]; omega
        | true =>
          have hst : Rd.back (R, true) o = ((R.uint).2, decide ((R.uint).1 = o.n)) := by unfold Rd.back; rw [if_neg (by simp), if_neg k0, if_pos k1]
          rw [hst] at HF
          have HR := Lib.hid (ruint_any b R A1 c1 (wr.drewN 1) (hR.drewN 1))
          clear hst
          generalize R.uint = q at *
          obtain ⟨v, R1⟩ := q
          simp only at HF HR
          go_wp2
          go_region_held3 (fun w' => w'.cell? ⟨lb, off + k * 6 + 1, none⟩ = some (.int .u64 o.n)) (first | go_keep) ((go_at_call 22; refine HR.out.mono ?_; rintro e w1 ⟨rfl, hR1, hk1⟩; have x1 := (hk1.cell (p := ⟨lb, off + k * 6 + 1, none⟩) hll hln).trans y1; dsimp only))
          go_wp2
          go_roundw
          case rel => first | exact ⟨k + 1, R1, _, by go_num, rfl, by omega, hR1, ((hK.drewN 1).trans hk1 (fun _ hx => .inl hx)), by first | exact HF.out | (rw [dec_nat]; exact HF.out)⟩ | ((repeat apply Exists.intro); refine ⟨?_, rfl⟩; exact ⟨k + 1, R1, _, by go_num, rfl, by omega, hR1, ((hK.drewN 1).trans hk1 (fun _ hx => .inl hx)), by first | exact HF.out | (rw [dec_nat]; exact HF.out)⟩)
          case measure => simp [intOf]; omega
      by_cases k2 : o.kind = 2
      · have q0 : (o.kind == 0) = false := beq_eq_false_iff_ne.2 k0
        have q1 : (o.kind == 1) = false := beq_eq_false_iff_ne.2 k1
        have q2 : (o.kind == 2) = true := beq_iff_eq.2 k2
        cases t with
        | false =>
          go_wp2
          go_quiet (fail)
          go_wp2
          go_roundw
          case rel => first | exact ⟨k + 1, R, false, by go_num, rfl, by omega, hR.drewN _, hK.drewN _, HF.out⟩ | ((repeat apply Exists.intro); refine ⟨?_, rfl⟩; exact ⟨k + 1, R, false, by go_num, rfl, by omega, hR.drewN _, hK.drewN _, HF.out⟩)
          case measure => simp [intOf]; omega
        | true =>
          have hst : Rd.back (R, true) o = ((R.int).2, decide ((R.int).1 = o.i)) := by unfold Rd.back; rw [if_neg (by simp), if_neg k0, if_neg k1, if_pos k2]
          rw [hst] at HF
          have HR := Lib.hid (rint_any b R A1 c1 (wr.drewN 1) (hR.drewN 1))
          clear hst
          generalize R.int = q at *
          obtain ⟨v, R1⟩ := q
          simp only at HF HR
          go_wp2
          go_region_held3 (fun w' => w'.cell? ⟨lb, off + k * 6 + 2, none⟩ = some (.int .i64 o.i)) (first | go_keep) ((go_at_call 24; refine HR.out.mono ?_; rintro e w1 ⟨rfl, hR1, hk1⟩; have x1 := (hk1.cell (p := ⟨lb, off + k * 6 + 2, none⟩) hll hln).trans y2; dsimp only))
          go_wp2
          go_roundw
          case rel => first | exact ⟨k + 1, R1, _, by go_num, rfl, by omega, hR1, ((hK.drewN 1).trans hk1 (fun _ hx => .inl hx)), by first | exact HF.out | (rw [dec_int]; exact HF.out)⟩ | ((repeat apply Exists.intro); refine ⟨?_, rfl⟩; exact ⟨k + 1, R1, _, by go_num, rfl, by omega, hR1, ((hK.drewN 1).trans hk1 (fun _ hx => .inl hx)), by first | exact HF.out | (rw [dec_int]; exact HF.out)⟩)
          case measure => simp [intOf]; omega
      by_cases k3 : o.kind = 3
      · have q0 : (o.kind == 0) = false := beq_eq_false_iff_ne.2 k0
        have q1 : (o.kind == 1) = false := beq_eq_false_iff_ne.2 k1
        have q2 : (o.kind == 2) = false := beq_eq_false_iff_ne.2 k2
        have q3 : (o.kind == 3) = true := beq_iff_eq.2 k3
        cases t with
        | false =>
          go_wp2
          go_quiet (fail)
          go_wp2
          go_roundw
          case rel => first | exact ⟨k + 1, R, false, by go_num, rfl, by omega, hR.drewN _, hK.drewN _, HF.out⟩ | ((repeat apply Exists.intro); refine ⟨?_, rfl⟩; exact ⟨k + 1, R, false, by go_num, rfl, by omega, hR.drewN _, hK.drewN _, HF.out⟩)
          case measure => simp [intOf]; omega
        | true =>
          have hst : Rd.back (R, true) o = ((R.text o.s.size).2, decide ((R.text o.s.size).1 = (sb o.s))) := by unfold Rd.back; rw [if_neg (by simp), if_neg k0, if_neg k1, if_neg k2, if_pos k3]
          rw [hst] at HF
          have HR := Lib.hid (rtext_any b R A1 c1 o.s.size (by omega) (by omega) (wr.drewN 1) (hR.drewN 1))
          clear hst
          generalize R.text o.s.size = q at *
          obtain ⟨v, R1⟩ := q
          simp only at HF HR
          go_wp2
          go_region_held3 (fun w' => w'.cell? ⟨lb, off + k * 6 + 3, none⟩ = some (.string o.s)) (first | go_keep) ((go_at_call 26; refine HR.out.mono ?_; rintro e w1 ⟨rfl, hR1, hk1⟩; have x1 := (hk1.cell (p := ⟨lb, off + k * 6 + 3, none⟩) hll hln).trans y3; dsimp only))
          go_wp2
          go_roundw
          case rel => first | exact ⟨k + 1, R1, _, by go_num, rfl, by omega, hR1, ((hK.drewN 1).trans hk1 (fun _ hx => .inl hx)), by first | exact HF.out | (rw [dec_text]; exact HF.out)⟩ | ((repeat apply Exists.intro); refine ⟨?_, rfl⟩; exact ⟨k + 1, R1, _, by go_num, rfl, by omega, hR1, ((hK.drewN 1).trans hk1 (fun _ hx => .inl hx)), by first | exact HF.out | (rw [dec_text]; exact HF.out)⟩)
          case measure => simp [intOf]; omega
      by_cases k4 : o.kind = 4
      · have q0 : (o.kind == 0) = false := beq_eq_false_iff_ne.2 k0
        have q1 : (o.kind == 1) = false := beq_eq_false_iff_ne.2 k1
        have q2 : (o.kind == 2) = false := beq_eq_false_iff_ne.2 k2
        have q3 : (o.kind == 3) = false := beq_eq_false_iff_ne.2 k3
        have q4 : (o.kind == 4) = true := beq_iff_eq.2 k4
        cases t with
        | false =>
          go_wp2
          go_quiet (fail)
          go_wp2
          go_roundw
          case rel => first | exact ⟨k + 1, R, false, by go_num, rfl, by omega, hR.drewN _, hK.drewN _, HF.out⟩ | ((repeat apply Exists.intro); refine ⟨?_, rfl⟩; exact ⟨k + 1, R, false, by go_num, rfl, by omega, hR.drewN _, hK.drewN _, HF.out⟩)
          case measure => simp [intOf]; omega
        | true =>
          have hst : Rd.back (R, true) o = ((R.raw o.b.length).2, decide ((R.raw o.b.length).1 = o.b)) := by unfold Rd.back; rw [if_neg (by simp), if_neg k0, if_neg k1, if_neg k2, if_neg k3, if_pos k4]
          rw [hst] at HF
          have HR := Lib.hid (rraw_any b R A1 c1 o.b.length (by omega) (by omega) (wr.drewN 1) (hR.drewN 1))
          clear hst
          generalize R.raw o.b.length = q at *
          obtain ⟨v, R1⟩ := q
          simp only at HF HR
          go_wp2
          go_region_held3 (fun w' => w'.cell? ⟨lb, off + k * 6 + 4, none⟩ = some (.slice Ab o.b.length cb)) (first | go_keep) (first | (go_at_call 43; refine HR.out.mono ?_; rintro e w1 ⟨Ar, cr, rfl, hown1, hf1, hR1, hk1⟩; have x1 := (hk1.cell (p := ⟨lb, off + k * 6 + 4, none⟩) hll hln).trans y4; have hrb := hk1.reads (hfb.drewN 1) (by have := hbl.size; simp; omega) (by simpa using hlo); dsimp only) | (go_at_call 12; refine (same_any _ _ _ _ _ _ _ _ v o.b _ (Reads.of_own hown1) hrb).mono ?_; rintro e w2 ⟨rfl, rfl⟩; dsimp only))
          go_wp2
          go_roundw
          case rel => first | exact ⟨k + 1, R1, _, by go_num, rfl, by omega, hR1, ((hK.drewN 1).trans hk1 (fun _ hx => .inl hx)), by first | exact HF.out | (rw [dec_text]; exact HF.out)⟩ | ((repeat apply Exists.intro); refine ⟨?_, rfl⟩; exact ⟨k + 1, R1, _, by go_num, rfl, by omega, hR1, ((hK.drewN 1).trans hk1 (fun _ hx => .inl hx)), by first | exact HF.out | (rw [dec_text]; exact HF.out)⟩)
          case measure => simp [intOf]; omega
      have q0 : (o.kind == 0) = false := beq_eq_false_iff_ne.2 k0
      have q1 : (o.kind == 1) = false := beq_eq_false_iff_ne.2 k1
      have q2 : (o.kind == 2) = false := beq_eq_false_iff_ne.2 k2
      have q3 : (o.kind == 3) = false := beq_eq_false_iff_ne.2 k3
      have q4 : (o.kind == 4) = false := beq_eq_false_iff_ne.2 k4
      have hst : Rd.back (R, t) o = (R, t) := by
        unfold Rd.back
        simp only [if_neg k0, if_neg k1, if_neg k2, if_neg k3, if_neg k4, ite_self]
      rw [hst] at HF
      clear hst
      go_wp2
      go_roundw
      case rel => first | exact ⟨k + 1, R, t, by go_num, rfl, by omega, hR, hK, HF.out⟩ | ((repeat apply Exists.intro); refine ⟨?_, rfl⟩; exact ⟨k + 1, R, t, by go_num, rfl, by omega, hR, hK, HF.out⟩)
      case measure => simp [intOf]; omega
    · have e : ops.drop k = [] := List.drop_of_length_le (by have := hops.1; omega)
      rw [e] at hF
      have HF : Hid ((R, t) = T) := Lib.hid hF
      clear hF hops e HT0 hsm
      go_wp2
      go_ret
      refine ⟨?_, ?_, hK⟩
      · rw [← HF.out]; rfl
      · rw [← HF.out]; exact hR
end Go.Proofs.Ytidiohmpmjhbaaa
