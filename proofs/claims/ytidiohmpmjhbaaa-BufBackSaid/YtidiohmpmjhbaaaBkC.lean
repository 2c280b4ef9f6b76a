/- BufBack: write. (printed by gen_bkc.py) -/
import Derived.Test.YtidiohmpmjhbaaaBwE
namespace Go.Proofs.Ytidiohmpmjhbaaa
open Go.RowKit
set_option maxHeartbeats 4000000 in
set_option maxRecDepth 100000 in
theorem write_any (bw : Nat) (W : Wr) (A2 : Option Addr) (c2 : Nat) (A : Option Addr) (n c : Nat) (ops : List OpD) (w0 w : World) (hW : IsW w bw W A2 c2) (hops : OpsAt w0 w0.heap.size A n ops) (hb0 : Below w0.heap.size w0 w) (hlo : ∀ k ∈ bw :: ob A2, w0.heap.size ≤ k) (hn : n ≤ 140737488355328)
    (hsum : W.xs.length + (ops.map OpD.size).sum ≤ 1099511627776) :
    Calls Try.prog 30 #[.pointer (some ⟨bw, 0, none⟩), .slice A n c] w fun e w' => e = .returned (.tuple #[]) ∧ ∃ A3 c3, IsW w' bw (ops.foldl Wr.step W) A3 c3 ∧ Moves (bw :: ob A2) (bw :: ob A3) w w' := by
  go_enter Try.func30, Try.ntmps30
  go_wp2
  go_loopw [4] (fun i wr => ∃ (k : Nat) (V : Wr) (A3 : Option Addr) (c3 : Nat), i = .int .i64 k ∧ k ≤ n ∧ IsW wr bw V A3 c3 ∧ Moves (bw :: ob A2) (bw :: ob A3) w wr ∧ (ops.drop k).foldl Wr.step V = ops.foldl Wr.step W ∧ V.xs.length + ((ops.drop k).map OpD.size).sum ≤ 1099511627776) (fun i _ => n - (intOf i).toNat)
  case atStart => exact ⟨0, W, A2, c2, rfl, Nat.zero_le _, hW, Moves.refl _ _, rfl, hsum⟩
  case round =>
    obtain ⟨k, V, A3, c3, rfl, hk, hV, hM, hF, hL⟩ := hrel
    have hbl : Below w0.heap.size w0 wr := hb0.trans (hM.kept.below hb0.size hlo)
    by_cases hlt : k < n
    · have hkl : k < ops.length := by have := hops.1; omega
      obtain ⟨b, off, rfl, hbl2, hcs⟩ := (hops.below hbl).2 (by omega)
      obtain ⟨o, ho⟩ : ∃ o, ops[k] = o := ⟨_, rfl⟩
      obtain ⟨Ab, cb, hf, hcell⟩ := hcs k o (by rw [List.getElem?_eq_getElem hkl, ho])
      have y0 : wr.cell? ⟨b, off + k * 6, none⟩ = some (.int .i64 o.kind) := hcell 0 _ rfl
      have y1 : wr.cell? ⟨b, off + k * 6 + 1, none⟩ = some (.int .u64 o.n) := hcell 1 _ rfl
      have y2 : wr.cell? ⟨b, off + k * 6 + 2, none⟩ = some (.int .i64 o.i) := hcell 2 _ rfl
      have y3 : wr.cell? ⟨b, off + k * 6 + 3, none⟩ = some (.string o.s) := hcell 3 _ rfl
      have y4 : wr.cell? ⟨b, off + k * 6 + 4, none⟩ = some (.slice Ab o.b.length cb) := hcell 4 _ rfl
      rw [List.drop_eq_getElem_cons hkl, ho] at hF hL
      rw [List.map_cons, List.sum_cons] at hL
      have hsz : o.size = o.s.size + o.b.length + 20 := rfl
      have hlen := Wr.step_len V o hf.n hf.i1 hf.i2 (by omega)
      have HF : Hid ((ops.drop (k + 1)).foldl Wr.step (V.step o) = ops.foldl Wr.step W) := hF
      have hL1 : (V.step o).xs.length + ((ops.drop (k + 1)).map OpD.size).sum ≤ 1099511627776 := by omega
      have HL := Lib.hid hL1
      clear hcell hcs ho hF hL1
      by_cases k0 : o.kind = 0
      · have q0 : (o.kind == 0) = true := beq_iff_eq.2 k0
        have hst : V.step o = V.put [UInt8.ofNat (o.n % 256)] := by unfold Wr.step; rw [if_pos k0]
        go_wp2_with fail
        refine (byte_any bw V A3 c3 (o.n % 256) wr hV (by omega) (by omega)).mono ?_
        rintro e w3 ⟨rfl, A4, c4, hV4, hM4⟩
        rw [← hst] at hV4
        go_wp2
        go_roundw
        case rel => first | exact ⟨k + 1, _, _, _, by go_num, by omega, hV4, hM.trans hM4, HF.out, HL.out⟩ | ((repeat apply Exists.intro); refine ⟨?_, rfl⟩; exact ⟨k + 1, _, _, _, by go_num, by omega, hV4, hM.trans hM4, HF.out, HL.out⟩)
        case measure => simp [intOf]; omega
      by_cases k1 : o.kind = 1
      · have q0 : (o.kind == 0) = false := beq_eq_false_iff_ne.2 k0
        have q1 : (o.kind == 1) = true := beq_iff_eq.2 k1
        have hst : V.step o = V.put (vb o.n) := by unfold Wr.step; rw [if_neg k0, if_pos k1]
        go_wp2_with fail
        refine (wuint_any bw V A3 c3 o.n wr hV hf.n (by omega)).mono ?_
        rintro e w3 ⟨rfl, A4, c4, hV4, hM4⟩
        rw [← hst] at hV4
        go_wp2
        go_roundw
        case rel => first | exact ⟨k + 1, _, _, _, by go_num, by omega, hV4, hM.trans hM4, HF.out, HL.out⟩ | ((repeat apply Exists.intro); refine ⟨?_, rfl⟩; exact ⟨k + 1, _, _, _, by go_num, by omega, hV4, hM.trans hM4, HF.out, HL.out⟩)
        case measure => simp [intOf]; omega
      by_cases k2 : o.kind = 2
      · have q0 : (o.kind == 0) = false := beq_eq_false_iff_ne.2 k0
        have q1 : (o.kind == 1) = false := beq_eq_false_iff_ne.2 k1
        have q2 : (o.kind == 2) = true := beq_iff_eq.2 k2
        have hst : V.step o = V.put (vb (zig o.i)) := by unfold Wr.step; rw [if_neg k0, if_neg k1, if_pos k2]
        go_wp2_with fail
        refine (wint_any bw V A3 c3 o.i wr hV hf.i1 hf.i2 (by omega)).mono ?_
        rintro e w3 ⟨rfl, A4, c4, hV4, hM4⟩
        rw [← hst] at hV4
        go_wp2
        go_roundw
        case rel => first | exact ⟨k + 1, _, _, _, by go_num, by omega, hV4, hM.trans hM4, HF.out, HL.out⟩ | ((repeat apply Exists.intro); refine ⟨?_, rfl⟩; exact ⟨k + 1, _, _, _, by go_num, by omega, hV4, hM.trans hM4, HF.out, HL.out⟩)
        case measure => simp [intOf]; omega
      by_cases k3 : o.kind = 3
      · have q0 : (o.kind == 0) = false := beq_eq_false_iff_ne.2 k0
        have q1 : (o.kind == 1) = false := beq_eq_false_iff_ne.2 k1
        have q2 : (o.kind == 2) = false := beq_eq_false_iff_ne.2 k2
        have q3 : (o.kind == 3) = true := beq_iff_eq.2 k3
        have hst : V.step o = V.text o.s := by unfold Wr.step; rw [if_neg k0, if_neg k1, if_neg k2, if_pos k3]
        go_wp2_with fail
        refine (wtext_any bw V A3 c3 o.s wr hV (by omega)).mono ?_
        rintro e w3 ⟨rfl, A4, c4, hV4, hM4⟩
        rw [← hst] at hV4
        go_wp2
        go_roundw
        case rel => first | exact ⟨k + 1, _, _, _, by go_num, by omega, hV4, hM.trans hM4, HF.out, HL.out⟩ | ((repeat apply Exists.intro); refine ⟨?_, rfl⟩; exact ⟨k + 1, _, _, _, by go_num, by omega, hV4, hM.trans hM4, HF.out, HL.out⟩)
        case measure => simp [intOf]; omega
      by_cases k4 : o.kind = 4
      · have q0 : (o.kind == 0) = false := beq_eq_false_iff_ne.2 k0
        have q1 : (o.kind == 1) = false := beq_eq_false_iff_ne.2 k1
        have q2 : (o.kind == 2) = false := beq_eq_false_iff_ne.2 k2
        have q3 : (o.kind == 3) = false := beq_eq_false_iff_ne.2 k3
        have q4 : (o.kind == 4) = true := beq_iff_eq.2 k4
        have hst : V.step o = V.put o.b := by unfold Wr.step; rw [if_neg k0, if_neg k1, if_neg k2, if_neg k3, if_pos k4]
        go_wp2_with fail
        refine (wraw_any bw V A3 c3 o.b Ab cb w0.heap.size wr hV hf.b (by omega)).mono ?_
        rintro e w3 ⟨rfl, A4, c4, hV4, hM4⟩
        rw [← hst] at hV4
        go_wp2
        go_roundw
        case rel => first | exact ⟨k + 1, _, _, _, by go_num, by omega, hV4, hM.trans hM4, HF.out, HL.out⟩ | ((repeat apply Exists.intro); refine ⟨?_, rfl⟩; exact ⟨k + 1, _, _, _, by go_num, by omega, hV4, hM.trans hM4, HF.out, HL.out⟩)
        case measure => simp [intOf]; omega
      have q0 : (o.kind == 0) = false := beq_eq_false_iff_ne.2 k0
      have q1 : (o.kind == 1) = false := beq_eq_false_iff_ne.2 k1
      have q2 : (o.kind == 2) = false := beq_eq_false_iff_ne.2 k2
      have q3 : (o.kind == 3) = false := beq_eq_false_iff_ne.2 k3
      have q4 : (o.kind == 4) = false := beq_eq_false_iff_ne.2 k4
      have hst : V.step o = V := by unfold Wr.step; rw [if_neg k0, if_neg k1, if_neg k2, if_neg k3, if_neg k4]
      rw [hst] at HF HL
      go_wp2
      go_roundw
      case rel => first | exact ⟨k + 1, _, _, _, by go_num, by omega, hV, hM, HF.out, HL.out⟩ | ((repeat apply Exists.intro); refine ⟨?_, rfl⟩; exact ⟨k + 1, _, _, _, by go_num, by omega, hV, hM, HF.out, HL.out⟩)
      case measure => simp [intOf]; omega
    · have e : ops.drop k = [] := List.drop_of_length_le (by have := hops.1; omega)
      rw [e] at hF
      have HF : Hid (V = ops.foldl Wr.step W) := hF
      clear hF hops e hL
      go_wp2
      go_end0
      rw [HF.out] at hV
      exact ⟨rfl, A3, c3, hV, hM⟩
end Go.Proofs.Ytidiohmpmjhbaaa
