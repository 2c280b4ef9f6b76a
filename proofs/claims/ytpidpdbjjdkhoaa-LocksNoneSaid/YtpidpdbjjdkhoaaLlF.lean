/- Locks: LocksNone. -/
import Derived.Test.YtpidpdbjjdkhoaaLlE
import Derived.Deep.DeepCutAuto
import Derived.Deep.CutBlock
namespace Go.Proofs.Ytpidpdbjjdkhoaa
open Go.RowKit
set_option linter.unusedSimpArgs false
set_option linter.unusedVariables false
attribute [local go_sem ↓] Go.wp_at_zero Go.wp_at_succ

def NoRel (W : World) (d : Nat) (i : Value) (wr : World) : Prop := ∃ (k : Nat) (q : Tb) (m : TbM), i = .int .i64 k ∧ k ≤ 200 ∧ TbX W [] d q m wr ∧ Sane k q ∧ q.most = 40 ∧ (q.held.length : Int) + (q.wait.length : Int) ≤ q.most
def NkRel (q : Tb) (w : World) (i : Value) (wr : World) : Prop := ∃ k : Nat, i = .int .i64 k ∧ k ≤ q.wait.length ∧ Below w.heap.size w wr
def NjRel (q : Tb) (x : Lk) (w : World) (y i : Value) (wr : World) : Prop := ∃ j : Nat, y = .bool (why1 q x j) ∧ i = .int .i64 j ∧ j ≤ q.held.length ∧ Below w.heap.size w wr
def NlRel (q : Tb) (x : Lk) (w : World) (y i : Value) (wr : World) : Prop := ∃ j : Nat, y = .bool (why2 q x j) ∧ i = .int .i64 j ∧ j ≤ q.wait.length ∧ Below w.heap.size w wr
def NeRel (W : World) (d : Nat) (i : Value) (wr : World) : Prop := ∃ (k : Nat) (q : Tb) (m : TbM), i = .int .i64 k ∧ TbX W [] d q m wr ∧ Inv q ∧ q.held.length + q.wait.length + k ≤ 40
theorem pick_lt (x : Int) {N : Nat} (h : 0 < N) (h2 : N ≤ 40) : ∃ k : Nat, k < N ∧ wrap64 ((IntKind.u64.wrap x).tmod (N : Int)) = (k : Int) := by
  have hu : 0 ≤ IntKind.u64.wrap x := by rw [IntKind.wrap_u64]; omega
  rw [Int.tmod_eq_emod_of_nonneg hu]
  obtain ⟨u, hu'⟩ : ∃ u, u = IntKind.u64.wrap x := ⟨_, rfl⟩
  rw [← hu'] at hu ⊢
  have h3 : 0 ≤ u % (N : Int) := Int.emod_nonneg _ (by omega)
  have h4 : u % (N : Int) < N := Int.emod_lt_of_pos _ (by omega)
  refine ⟨(u % (N : Int)).toNat, by omega, ?_⟩
  unfold wrap64
  omega
set_option maxHeartbeats 8000000 in
set_option maxRecDepth 100000 in
theorem locksNone_any (A : Option Addr) (c : Nat) (os : List LOp) (A1 : Option Addr) (c1 : Nat) (ps : List Int) (W : World) (hO : Reads W W.heap.size 5 A os.length (rc opR os)) (hP : Reads W W.heap.size 1 A1 ps.length (ps.map (Value.int .i64))) :
    Calls Try.prog 5 #[.slice A os.length c, .slice A1 ps.length c1] W fun e w' => e = .returned (.bool true) ∧ Below W.heap.size W w' := by
  obtain ⟨i0, hi0, hz0, hy0, hx0⟩ := info_parts Try.infoLk
  have HO := Lib.hid hO
  have HP := Lib.hid hP
  clear hO hP
  go_enter Try.func5, Try.ntmps5
  go_wp2_with fail
  refine (works_any W).mono ?_
  rintro e w0 ⟨rfl, hb0⟩
  go_wp2_with fail
  refine (new_any 40 _).mono ?_
  rintro e w1 ⟨rfl, hw1⟩
  have HX0 : Hid (TbX W [] w0.heap.size (tb0 40) tm0 w1) := Lib.hid (by rw [hw1]; exact tbx0 40 hb0)
  obtain ⟨d, hd⟩ : ∃ d, d = w0.heap.size := ⟨_, rfl⟩
  rw [← hd] at HX0
  rw [← hd]
  clear hw1 hb0 hd
  go_wp2
  go_loopw [6] (NoRel W d) (fun i _ => 200 - (intOf i).toNat)
  case atStart => exact ⟨0, tb0 40, tm0, rfl, by omega, HX0.out, sane0 40, by decide, by decide⟩
  case round =>
    clear HX0
    obtain ⟨kk, q, m, rfl, hk, hx, hs, hm1, hm2⟩ := hrel
    have HX := Lib.hid hx
    have HS := Lib.hid hs
    have HM1 := Lib.hid hm1
    have HM2 := Lib.hid hm2
    clear hx hs hm1 hm2
    by_cases hgo : kk < os.length ∧ kk < 200
    · obtain ⟨hg1, hg2⟩ := hgo
      obtain ⟨bo, off, rfl, hbo, y0, y1, y2, y3, y4⟩ := rdO (HO.out.below HX.out.bel) hg1
      obtain ⟨o, ho⟩ : ∃ o, o = gr opR os kk := ⟨_, rfl⟩
      rw [← ho] at y0 y1 y2 y3 y4
      have kL : (0 : Int) ≤ (kk : Int) := by omega
      have kU : (kk : Int) < (os.length : Int) := by omega
      have k1 : (kk : Int) < 200 := by omega
      have HC := Lib.hid (play_sane HX.out HS.out (by omega) o)
      unfold lopV at HC
      clear ho
      go_wp2_with fail
      refine HC.out.mono ?_
      clear HC
      rintro e w2 ⟨A2, c2, A3, c3, rfl, hpl⟩
      obtain ⟨m', ht, hmv, _, _⟩ := hpl.tb
      have HX2 := Lib.hid (HX.out.step ht hmv)
      have HS2 := Lib.hid (HS.out.step o)
      obtain ⟨hq1, hq2⟩ := play_most HS.out.inv.mid.good o HM2.out
      rw [HM1.out] at hq1 hq2
      obtain ⟨q', hq'⟩ : ∃ q', q' = playT q o := ⟨_, rfl⟩
      rw [← hq'] at HX2 HS2 hq1 hq2
      have HQ1 := Lib.hid hq1
      have HQ2 := Lib.hid hq2
      clear ht hmv hpl hq' hq1 hq2 y0 y1 y2 y3 y4 HX HS HM1 HM2
      have HH := Lib.hid (held_any HX2.out.tb)
      go_wp2_with fail
      refine HH.out.mono ?_
      clear HH
      rintro e w3 ⟨Ah, ch, rfl, ho3, hb3, hf3⟩
      have HX3 := Lib.hid (HX2.out.below hb3)
      have HR3 := Lib.hid ho3
      clear ho3 hb3 hf3 HX2
      have HH := Lib.hid (waiting_any HX3.out.tb)
      go_wp2_with fail
      refine HH.out.mono ?_
      clear HH
      rintro e w4 ⟨Aw, cw, rfl, ho4, hb4, hf4⟩
      have HX4 := Lib.hid (HX3.out.below hb4)
      have HRH := Lib.hid (Reads.of_own (own_below HR3.out hb4))
      have HRW := Lib.hid (Reads.of_own ho4)
      have hfh := HX4.out.tb.fh
      clear ho4 hb4 hf4 HX3 HR3
      go_wp2
      go_loopw [9] (NkRel q' w4) (fun i _ => q'.wait.length - (intOf i).toNat)
      case atStart => exact ⟨0, rfl, Nat.zero_le _, Below.refl _ _⟩
      case round =>
        obtain ⟨k, rfl, hk, hb⟩ := hrel
        have HBW := Lib.hid hb
        clear hb
        by_cases hlt : k < q'.wait.length
        · obtain ⟨x, hx⟩ : ∃ x, x = gr lkR q'.wait k := ⟨_, rfl⟩
          have HXK : Hid (gr lkR q'.wait k = x) := Lib.hid hx.symm
          clear hx
          have kL : (0 : Int) ≤ (k : Int) := by omega
          have kU : (k : Int) < (q'.wait.length : Int) := by omega
          obtain ⟨wo, hwo⟩ : ∃ wo : World, wo = wr := ⟨_, rfl⟩
          rw [← hwo] at HBW ⊢
          clear hwo
          go_wp2
          go_loopw [10, 11] (NjRel q' x w4) (fun _ i _ => q'.held.length - (intOf i).toNat)
          case atStart => exact ⟨0, rfl, rfl, Nat.zero_le _, HBW.out⟩
          case round =>
            obtain ⟨j, rfl, rfl, hj, hb⟩ := hrel
            have HBR := Lib.hid hb
            clear hb
            by_cases hlj : j < q'.held.length
            · obtain ⟨gh, oh, hAh, _, a0, a1, a2, a3⟩ := rdL (HRH.out.below HBR.out) hlj
              obtain ⟨gw, ow, hAw, _, b0, b1, b2, b3⟩ := rdL (HRW.out.below HBR.out) hlt
              rw [HXK.out] at b0 b1 b2 b3
              have HGY : Hid (q'.held[j]? = some (gr lkR q'.held j)) := Lib.hid (gr_get hlj)
              obtain ⟨y, hyy⟩ : ∃ y, y = gr lkR q'.held j := ⟨_, rfl⟩
              rw [← hyy] at a0 a1 a2 a3 HGY
              have HON := Lib.hid (why1_on (x := x) HGY.out)
              have jL : (0 : Int) ≤ (j : Int) := by omega
              have jU : (j : Int) < (q'.held.length : Int) := by omega
              have hS : Hid (∀ w', Below wr.heap.size wr w' → (w'.cell? ⟨gh, oh + j * 4, none⟩ = some (.string y.key) ∧ w'.cell? ⟨gh, oh + j * 4 + 1, none⟩ = some (.int .i64 y.id.n) ∧ w'.cell? ⟨gh, oh + j * 4 + 2, none⟩ = some (.int .i64 y.id.c) ∧ w'.cell? ⟨gh, oh + j * 4 + 3, none⟩ = some (.int .i64 y.mode) ∧ w'.cell? ⟨gw, ow + k * 4, none⟩ = some (.string x.key) ∧ w'.cell? ⟨gw, ow + k * 4 + 1, none⟩ = some (.int .i64 x.id.n) ∧ w'.cell? ⟨gw, ow + k * 4 + 2, none⟩ = some (.int .i64 x.id.c) ∧ w'.cell? ⟨gw, ow + k * 4 + 3, none⟩ = some (.int .i64 x.mode))) := Lib.hid (fun w' hb => by
                obtain ⟨gh', oh', hA', _, a0, a1, a2, a3⟩ := rdL ((HRH.out.below HBR.out).below (hb.mono HBR.out.size)) hlj
                obtain ⟨gw', ow', hB', _, b0, b1, b2, b3⟩ := rdL ((HRW.out.below HBR.out).below (hb.mono HBR.out.size)) hlt
                rw [hAh] at hA'
                rw [hAw] at hB'
                injection hA' with hA'
                injection hA' with e1 e2
                injection hB' with hB'
                injection hB' with e3 e4
                rw [← e1, ← e2, ← hyy] at a0 a1 a2 a3
                rw [← e3, ← e4, HXK.out] at b0 b1 b2 b3
                exact ⟨a0, a1, a2, a3, b0, b1, b2, b3⟩)
              have hD : Below wr.heap.size wr wr.drew := below_drewN (Below.refl _ _) 1
              have HC := Lib.hid (fun w => lconf_any y x w)
              unfold lkV at HC
              subst hAh
              subst hAw
              clear a0 a1 a2 a3 b0 b1 b2 b3 hyy
              cases hwy : why1 q' x j with
              | true =>
                have HN : Hid (Value.bool true = .bool (why1 q' x (j + 1))) := Lib.hid (by rw [HON.out, hwy]; rfl)
                clear hwy HON
                go_wp2_with fail
                refine wp_region_held_drew (S := fun w' => w'.cell? ⟨gh, oh + j * 4, none⟩ = some (.string y.key) ∧ w'.cell? ⟨gh, oh + j * 4 + 1, none⟩ = some (.int .i64 y.id.n) ∧ w'.cell? ⟨gh, oh + j * 4 + 2, none⟩ = some (.int .i64 y.id.c) ∧ w'.cell? ⟨gh, oh + j * 4 + 3, none⟩ = some (.int .i64 y.mode) ∧ w'.cell? ⟨gw, ow + k * 4, none⟩ = some (.string x.key) ∧ w'.cell? ⟨gw, ow + k * 4 + 1, none⟩ = some (.int .i64 x.id.n) ∧ w'.cell? ⟨gw, ow + k * 4 + 2, none⟩ = some (.int .i64 x.id.c) ∧ w'.cell? ⟨gw, ow + k * 4 + 3, none⟩ = some (.int .i64 x.mode)) (by kernel_rfl) (by with_reducible exact hS.out _ hD) (fun hHeld => ?_)
                refine wpAnyH_take (i := 0) (oi := { dst := some 51, op := Op.move (Operand.tmp 10), type := 4, pos := "law.go:249", after := #[], guard := none }) (v := ?vv1) rfl (by kernel_rfl) (by kernel_rfl) (by kernel_rfl) (fun _ _ _ h => h) (Or.inl ⟨by rfl, ?hyy1⟩) (by assumption) ?rest1
                case hyy1 => ((intro w hSw); (try dsimp only at hSw); go_simp; (try with_reducible rfl))
                try simp only [Act.put, List.setIfInBounds_toArray, List.set_cons_zero, List.set_cons_succ]
                refine wpAnyH_take (i := 1) (oi := { dst := some 52, op := Op.move (Operand.tmp 51), type := 4, pos := "law.go:249", after := #[{ on := 0, ground := Ground.data }], guard := none }) (v := ?vv2) rfl (by kernel_rfl) (by kernel_rfl) (by kernel_rfl) (fun _ _ _ h => h) (Or.inl ⟨by rfl, ?hyy2⟩) (by assumption) ?rest2
                case hyy2 => ((intro w hSw); (try dsimp only at hSw); go_simp; (try with_reducible rfl))
                try simp only [Act.put, List.setIfInBounds_toArray, List.set_cons_zero, List.set_cons_succ]
                refine wpAnyH_take (i := 2) (oi := { dst := some 53, op := Op.move (Operand.tmp 7), type := 28, pos := "law.go:249", after := #[{ on := 1, ground := Ground.guard }], guard := some (1, false) }) (v := undef) rfl (by kernel_rfl) (by kernel_rfl) (by kernel_rfl) (fun _ _ _ h => h) (Or.inr ⟨by rfl, rfl⟩) (by assumption) ?_
                try simp only [Act.put, List.setIfInBounds_toArray, List.set_cons_zero, List.set_cons_succ]
                refine wpAnyH_take (i := 3) (oi := { dst := some 54, op := Op.move (Operand.tmp 11), type := 3, pos := "law.go:249", after := #[{ on := 1, ground := Ground.guard }], guard := some (1, false) }) (v := undef) rfl (by kernel_rfl) (by kernel_rfl) (by kernel_rfl) (fun _ _ _ h => h) (Or.inr ⟨by rfl, rfl⟩) (by assumption) ?_
                try simp only [Act.put, List.setIfInBounds_toArray, List.set_cons_zero, List.set_cons_succ]
                refine wpAnyH_take (i := 4) (oi := { dst := some 55, op := Op.indexAddr 28 (Operand.tmp 53) (Operand.tmp 54), type := 0, pos := "law.go:249", after := #[{ on := 2, ground := Ground.data }, { on := 3, ground := Ground.data }, { on := 1, ground := Ground.guard }], guard := some (1, false) }) (v := undef) rfl (by kernel_rfl) (by kernel_rfl) (by kernel_rfl) (fun _ _ _ h => h) (Or.inr ⟨by rfl, rfl⟩) (by assumption) ?_
                try simp only [Act.put, List.setIfInBounds_toArray, List.set_cons_zero, List.set_cons_succ]
                refine wpAnyH_take (i := 5) (oi := { dst := some 56, op := Op.load 39 (Operand.tmp 55), type := 39, pos := "law.go:249", after := #[{ on := 4, ground := Ground.data }, { on := 1, ground := Ground.guard }], guard := some (1, false) }) (v := undef) rfl (by kernel_rfl) (by kernel_rfl) (by kernel_rfl) (fun _ _ _ h => h) (Or.inr ⟨by rfl, rfl⟩) (by assumption) ?_
                try simp only [Act.put, List.setIfInBounds_toArray, List.set_cons_zero, List.set_cons_succ]
                refine wpAnyH_take (i := 6) (oi := { dst := some 57, op := Op.move (Operand.tmp 8), type := 28, pos := "law.go:249", after := #[{ on := 1, ground := Ground.guard }], guard := some (1, false) }) (v := undef) rfl (by kernel_rfl) (by kernel_rfl) (by kernel_rfl) (fun _ _ _ h => h) (Or.inr ⟨by rfl, rfl⟩) (by assumption) ?_
                try simp only [Act.put, List.setIfInBounds_toArray, List.set_cons_zero, List.set_cons_succ]
                refine wpAnyH_take (i := 7) (oi := { dst := some 58, op := Op.move (Operand.tmp 9), type := 3, pos := "law.go:249", after := #[{ on := 1, ground := Ground.guard }], guard := some (1, false) }) (v := undef) rfl (by kernel_rfl) (by kernel_rfl) (by kernel_rfl) (fun _ _ _ h => h) (Or.inr ⟨by rfl, rfl⟩) (by assumption) ?_
                try simp only [Act.put, List.setIfInBounds_toArray, List.set_cons_zero, List.set_cons_succ]
                refine wpAnyH_take (i := 8) (oi := { dst := some 59, op := Op.indexAddr 28 (Operand.tmp 57) (Operand.tmp 58), type := 0, pos := "law.go:249", after := #[{ on := 6, ground := Ground.data }, { on := 7, ground := Ground.data }, { on := 1, ground := Ground.guard }], guard := some (1, false) }) (v := undef) rfl (by kernel_rfl) (by kernel_rfl) (by kernel_rfl) (fun _ _ _ h => h) (Or.inr ⟨by rfl, rfl⟩) (by assumption) ?_
                try simp only [Act.put, List.setIfInBounds_toArray, List.set_cons_zero, List.set_cons_succ]
                refine wpAnyH_take (i := 9) (oi := { dst := some 60, op := Op.load 39 (Operand.tmp 59), type := 39, pos := "law.go:249", after := #[{ on := 8, ground := Ground.data }, { on := 1, ground := Ground.guard }], guard := some (1, false) }) (v := undef) rfl (by kernel_rfl) (by kernel_rfl) (by kernel_rfl) (fun _ _ _ h => h) (Or.inr ⟨by rfl, rfl⟩) (by assumption) ?_
                try simp only [Act.put, List.setIfInBounds_toArray, List.set_cons_zero, List.set_cons_succ]
                refine wpAnyH_take (i := 10) (oi := { dst := some 61, op := Op.call { callee := Callee.value (Operand.func 12), args := #[Operand.tmp 56, Operand.tmp 60], argTypes := #[39, 39] }, type := 4, pos := "law.go:249", after := #[{ on := 5, ground := Ground.data }, { on := 9, ground := Ground.data }, { on := 1, ground := Ground.chain }, { on := 1, ground := Ground.guard }], guard := some (1, false) }) (v := undef) rfl (by kernel_rfl) (by kernel_rfl) (by kernel_rfl) (fun _ _ _ h => h) (Or.inr ⟨by rfl, rfl⟩) (by assumption) ?_
                try simp only [Act.put, List.setIfInBounds_toArray, List.set_cons_zero, List.set_cons_succ]
                refine wpAnyH_take (i := 11) (oi := { dst := some 62, op := Op.pick (Operand.tmp 52) (Operand.const (Value.bool true)) (Operand.tmp 61), type := 4, pos := "law.go:249", after := #[{ on := 1, ground := Ground.data }, { on := 10, ground := Ground.data }], guard := none }) (v := ?vv3) rfl (by kernel_rfl) (by kernel_rfl) (by kernel_rfl) (fun _ _ _ h => h) (Or.inl ⟨by rfl, ?hyy3⟩) (by assumption) ?rest3
                case hyy3 => ((intro w hSw); (try dsimp only at hSw); go_simp; (try with_reducible rfl))
                try simp only [Act.put, List.setIfInBounds_toArray, List.set_cons_zero, List.set_cons_succ]
                refine wpAnyH_take (i := 12) (oi := { dst := some 10, op := Op.assign (Operand.tmp 62), type := 4, pos := "law.go:249", after := #[{ on := 11, ground := Ground.data }, { on := 10, ground := Ground.chain }, { on := 0, ground := Ground.phase }, { on := 1, ground := Ground.phase }, { on := 2, ground := Ground.phase }, { on := 3, ground := Ground.phase }, { on := 4, ground := Ground.phase }, { on := 5, ground := Ground.phase }, { on := 6, ground := Ground.phase }, { on := 7, ground := Ground.phase }, { on := 8, ground := Ground.phase }, { on := 9, ground := Ground.phase }, { on := 10, ground := Ground.phase }, { on := 11, ground := Ground.phase }], guard := none }) (v := ?vv4) rfl (by kernel_rfl) (by kernel_rfl) (by kernel_rfl) (fun _ _ _ h => h) (Or.inl ⟨by rfl, ?hyy4⟩) (by assumption) ?rest4
                case hyy4 => ((intro w hSw); (try dsimp only at hSw); go_simp; (try with_reducible rfl))
                try simp only [Act.put, List.setIfInBounds_toArray, List.set_cons_zero, List.set_cons_succ]
                refine wpAnyH_done (by kernel_rfl) ?_ _
                go_wp2
                go_roundw
                case rel => exact ⟨j + 1, HN.out, by go_num, by omega, HBR.out.trans (hD.mono HBR.out.size)⟩
                case measure => simp [intOf]; omega
              | false =>
                have HN : Hid (Value.bool (conf y x) = .bool (why1 q' x (j + 1))) := Lib.hid (by rw [HON.out, hwy]; rfl)
                clear hwy HON
                go_wp2_with fail
                refine wp_region_held_drew (S := fun w' => w'.cell? ⟨gh, oh + j * 4, none⟩ = some (.string y.key) ∧ w'.cell? ⟨gh, oh + j * 4 + 1, none⟩ = some (.int .i64 y.id.n) ∧ w'.cell? ⟨gh, oh + j * 4 + 2, none⟩ = some (.int .i64 y.id.c) ∧ w'.cell? ⟨gh, oh + j * 4 + 3, none⟩ = some (.int .i64 y.mode) ∧ w'.cell? ⟨gw, ow + k * 4, none⟩ = some (.string x.key) ∧ w'.cell? ⟨gw, ow + k * 4 + 1, none⟩ = some (.int .i64 x.id.n) ∧ w'.cell? ⟨gw, ow + k * 4 + 2, none⟩ = some (.int .i64 x.id.c) ∧ w'.cell? ⟨gw, ow + k * 4 + 3, none⟩ = some (.int .i64 x.mode)) (by kernel_rfl) (by with_reducible exact hS.out _ hD) (fun hHeld => ?_)
                refine wpAnyH_take (i := 0) (oi := { dst := some 51, op := Op.move (Operand.tmp 10), type := 4, pos := "law.go:249", after := #[], guard := none }) (v := ?vv5) rfl (by kernel_rfl) (by kernel_rfl) (by kernel_rfl) (fun _ _ _ h => h) (Or.inl ⟨by rfl, ?hyy5⟩) (by assumption) ?rest5
                case hyy5 => ((intro w hSw); (try dsimp only at hSw); go_simp; (try with_reducible rfl))
                try simp only [Act.put, List.setIfInBounds_toArray, List.set_cons_zero, List.set_cons_succ]
                refine wpAnyH_take (i := 1) (oi := { dst := some 52, op := Op.move (Operand.tmp 51), type := 4, pos := "law.go:249", after := #[{ on := 0, ground := Ground.data }], guard := none }) (v := ?vv6) rfl (by kernel_rfl) (by kernel_rfl) (by kernel_rfl) (fun _ _ _ h => h) (Or.inl ⟨by rfl, ?hyy6⟩) (by assumption) ?rest6
                case hyy6 => ((intro w hSw); (try dsimp only at hSw); go_simp; (try with_reducible rfl))
                try simp only [Act.put, List.setIfInBounds_toArray, List.set_cons_zero, List.set_cons_succ]
                refine wpAnyH_take (i := 2) (oi := { dst := some 53, op := Op.move (Operand.tmp 7), type := 28, pos := "law.go:249", after := #[{ on := 1, ground := Ground.guard }], guard := some (1, false) }) (v := ?vv7) rfl (by kernel_rfl) (by kernel_rfl) (by kernel_rfl) (fun _ _ _ h => h) (Or.inl ⟨by rfl, ?hyy7⟩) (by assumption) ?rest7
                case hyy7 => ((intro w hSw); (try dsimp only at hSw); go_simp; (try with_reducible rfl))
                try simp only [Act.put, List.setIfInBounds_toArray, List.set_cons_zero, List.set_cons_succ]
                refine wpAnyH_take (i := 3) (oi := { dst := some 54, op := Op.move (Operand.tmp 11), type := 3, pos := "law.go:249", after := #[{ on := 1, ground := Ground.guard }], guard := some (1, false) }) (v := ?vv8) rfl (by kernel_rfl) (by kernel_rfl) (by kernel_rfl) (fun _ _ _ h => h) (Or.inl ⟨by rfl, ?hyy8⟩) (by assumption) ?rest8
                case hyy8 => ((intro w hSw); (try dsimp only at hSw); go_simp; (try with_reducible rfl))
                try simp only [Act.put, List.setIfInBounds_toArray, List.set_cons_zero, List.set_cons_succ]
                refine wpAnyH_take (i := 4) (oi := { dst := some 55, op := Op.indexAddr 28 (Operand.tmp 53) (Operand.tmp 54), type := 0, pos := "law.go:249", after := #[{ on := 2, ground := Ground.data }, { on := 3, ground := Ground.data }, { on := 1, ground := Ground.guard }], guard := some (1, false) }) (v := ?vv9) rfl (by kernel_rfl) (by kernel_rfl) (by kernel_rfl) (fun _ _ _ h => h) (Or.inl ⟨by rfl, ?hyy9⟩) (by assumption) ?rest9
                case hyy9 => ((intro w hSw); (try dsimp only at hSw); go_simp; (try with_reducible rfl))
                try simp only [Act.put, List.setIfInBounds_toArray, List.set_cons_zero, List.set_cons_succ]
                refine wpAnyH_take (i := 5) (oi := { dst := some 56, op := Op.load 39 (Operand.tmp 55), type := 39, pos := "law.go:249", after := #[{ on := 4, ground := Ground.data }, { on := 1, ground := Ground.guard }], guard := some (1, false) }) (v := ?vv10) rfl (by kernel_rfl) (by kernel_rfl) (by kernel_rfl) (fun _ _ _ h => h) (Or.inl ⟨by rfl, ?hyy10⟩) (by assumption) ?rest10
                case hyy10 => ((intro w hSw); (try dsimp only at hSw); go_simp; (try with_reducible rfl))
                try simp only [Act.put, List.setIfInBounds_toArray, List.set_cons_zero, List.set_cons_succ]
                refine wpAnyH_take (i := 6) (oi := { dst := some 57, op := Op.move (Operand.tmp 8), type := 28, pos := "law.go:249", after := #[{ on := 1, ground := Ground.guard }], guard := some (1, false) }) (v := ?vv11) rfl (by kernel_rfl) (by kernel_rfl) (by kernel_rfl) (fun _ _ _ h => h) (Or.inl ⟨by rfl, ?hyy11⟩) (by assumption) ?rest11
                case hyy11 => ((intro w hSw); (try dsimp only at hSw); go_simp; (try with_reducible rfl))
                try simp only [Act.put, List.setIfInBounds_toArray, List.set_cons_zero, List.set_cons_succ]
                refine wpAnyH_take (i := 7) (oi := { dst := some 58, op := Op.move (Operand.tmp 9), type := 3, pos := "law.go:249", after := #[{ on := 1, ground := Ground.guard }], guard := some (1, false) }) (v := ?vv12) rfl (by kernel_rfl) (by kernel_rfl) (by kernel_rfl) (fun _ _ _ h => h) (Or.inl ⟨by rfl, ?hyy12⟩) (by assumption) ?rest12
                case hyy12 => ((intro w hSw); (try dsimp only at hSw); go_simp; (try with_reducible rfl))
                try simp only [Act.put, List.setIfInBounds_toArray, List.set_cons_zero, List.set_cons_succ]
                refine wpAnyH_take (i := 8) (oi := { dst := some 59, op := Op.indexAddr 28 (Operand.tmp 57) (Operand.tmp 58), type := 0, pos := "law.go:249", after := #[{ on := 6, ground := Ground.data }, { on := 7, ground := Ground.data }, { on := 1, ground := Ground.guard }], guard := some (1, false) }) (v := ?vv13) rfl (by kernel_rfl) (by kernel_rfl) (by kernel_rfl) (fun _ _ _ h => h) (Or.inl ⟨by rfl, ?hyy13⟩) (by assumption) ?rest13
                case hyy13 => ((intro w hSw); (try dsimp only at hSw); go_simp; (try with_reducible rfl))
                try simp only [Act.put, List.setIfInBounds_toArray, List.set_cons_zero, List.set_cons_succ]
                refine wpAnyH_take (i := 9) (oi := { dst := some 60, op := Op.load 39 (Operand.tmp 59), type := 39, pos := "law.go:249", after := #[{ on := 8, ground := Ground.data }, { on := 1, ground := Ground.guard }], guard := some (1, false) }) (v := ?vv14) rfl (by kernel_rfl) (by kernel_rfl) (by kernel_rfl) (fun _ _ _ h => h) (Or.inl ⟨by rfl, ?hyy14⟩) (by assumption) ?rest14
                case hyy14 => ((intro w hSw); (try dsimp only at hSw); go_simp; (try with_reducible rfl))
                try simp only [Act.put, List.setIfInBounds_toArray, List.set_cons_zero, List.set_cons_succ]
                refine wpAnyH_ready (rs := [10]) (by kernel_rfl) (by simp) ?_
                refine AllReadyH.cons (o := { dst := some 61, op := Op.call { callee := Callee.value (Operand.func 12), args := #[Operand.tmp 56, Operand.tmp 60], argTypes := #[39, 39] }, type := 4, pos := "law.go:249", after := #[{ on := 5, ground := Ground.data }, { on := 9, ground := Ground.data }, { on := 1, ground := Ground.chain }, { on := 1, ground := Ground.guard }], guard := some (1, false) }) rfl (fun K hK => ?_) ?_
                ·
                  go_simp
                  go_at_call 12
                  refine (HC.out _).mono ?_
                  rintro e w6 ⟨rfl, hb6⟩
                  have hc6 : Below wr.heap.size wr w6 := hD.trans (hb6.mono hD.size)
                  clear hb6
                  go_wp2_with fail
                  refine hK.out _ _ (by with_reducible exact hS.out _ hc6) (fun hHeld => ?_)
                  clear hK K
                  try simp only [Act.put, List.setIfInBounds_toArray, List.set_cons_zero, List.set_cons_succ]
                  refine wpAnyH_take (i := 11) (oi := { dst := some 62, op := Op.pick (Operand.tmp 52) (Operand.const (Value.bool true)) (Operand.tmp 61), type := 4, pos := "law.go:249", after := #[{ on := 1, ground := Ground.data }, { on := 10, ground := Ground.data }], guard := none }) (v := ?vv15) rfl (by kernel_rfl) (by kernel_rfl) (by kernel_rfl) (fun _ _ _ h => h) (Or.inl ⟨by rfl, ?hyy15⟩) (by assumption) ?rest15
                  case hyy15 => ((intro w hSw); (try dsimp only at hSw); go_simp; (try with_reducible rfl))
                  try simp only [Act.put, List.setIfInBounds_toArray, List.set_cons_zero, List.set_cons_succ]
                  refine wpAnyH_take (i := 12) (oi := { dst := some 10, op := Op.assign (Operand.tmp 62), type := 4, pos := "law.go:249", after := #[{ on := 11, ground := Ground.data }, { on := 10, ground := Ground.chain }, { on := 0, ground := Ground.phase }, { on := 1, ground := Ground.phase }, { on := 2, ground := Ground.phase }, { on := 3, ground := Ground.phase }, { on := 4, ground := Ground.phase }, { on := 5, ground := Ground.phase }, { on := 6, ground := Ground.phase }, { on := 7, ground := Ground.phase }, { on := 8, ground := Ground.phase }, { on := 9, ground := Ground.phase }, { on := 10, ground := Ground.phase }, { on := 11, ground := Ground.phase }], guard := none }) (v := ?vv16) rfl (by kernel_rfl) (by kernel_rfl) (by kernel_rfl) (fun _ _ _ h => h) (Or.inl ⟨by rfl, ?hyy16⟩) (by assumption) ?rest16
                  case hyy16 => ((intro w hSw); (try dsimp only at hSw); go_simp; (try with_reducible rfl))
                  try simp only [Act.put, List.setIfInBounds_toArray, List.set_cons_zero, List.set_cons_succ]
                  refine wpAnyH_done (by kernel_rfl) ?_ _
                  go_wp2
                  go_roundw
                  case rel => exact ⟨j + 1, HN.out, by go_num, by omega, HBR.out.trans (hc6.mono HBR.out.size)⟩
                  case measure => simp [intOf]; omega
                exact AllReadyH.nil
            · have jU : ¬ (j : Int) < (q'.held.length : Int) := by omega
              have hjj : j = q'.held.length := by omega
              have HST : Hid (Value.bool (why1 q' x j) = .bool (why2 q' x 0)) := Lib.hid (by rw [why2_start, hjj])
              clear hjj
              obtain ⟨wo2, hwo⟩ : ∃ wo2 : World, wo2 = wr := ⟨_, rfl⟩
              rw [← hwo] at HBR ⊢
              clear hwo
              go_wp2
              go_loopw [10, 12] (NlRel q' x w4) (fun _ i _ => q'.wait.length - (intOf i).toNat)
              case atStart => exact ⟨0, HST.out, rfl, Nat.zero_le _, HBR.out⟩
              case round =>
                clear HBR HST jU
                obtain ⟨j, rfl, rfl, hj, hb⟩ := hrel
                have HBR := Lib.hid hb
                clear hb
                by_cases hlj : j < q'.wait.length
                · obtain ⟨gw, ow, hAw, _, a0, a1, a2, a3⟩ := rdL (HRW.out.below HBR.out) hlj
                  have HGY : Hid (q'.wait[j]? = some (gr lkR q'.wait j)) := Lib.hid (gr_get hlj)
                  obtain ⟨y, hyy⟩ : ∃ y, y = gr lkR q'.wait j := ⟨_, rfl⟩
                  rw [← hyy] at a0 a1 a2 a3 HGY
                  have HON := Lib.hid (why2_on (x := x) HGY.out)
                  have jL : (0 : Int) ≤ (j : Int) := by omega
                  have jU : (j : Int) < (q'.wait.length : Int) := by omega
                  have hS : Hid (∀ w', Below wr.heap.size wr w' → (w'.cell? ⟨gw, ow + j * 4, none⟩ = some (.string y.key) ∧ w'.cell? ⟨gw, ow + j * 4 + 1, none⟩ = some (.int .i64 y.id.n) ∧ w'.cell? ⟨gw, ow + j * 4 + 2, none⟩ = some (.int .i64 y.id.c) ∧ w'.cell? ⟨gw, ow + j * 4 + 3, none⟩ = some (.int .i64 y.mode) ∧ w'.cell? ⟨gw, ow + k * 4, none⟩ = some (.string x.key) ∧ w'.cell? ⟨gw, ow + k * 4 + 1, none⟩ = some (.int .i64 x.id.n) ∧ w'.cell? ⟨gw, ow + k * 4 + 2, none⟩ = some (.int .i64 x.id.c) ∧ w'.cell? ⟨gw, ow + k * 4 + 3, none⟩ = some (.int .i64 x.mode))) := Lib.hid (fun w' hb => by
                    obtain ⟨gh', oh', hA', _, a0, a1, a2, a3⟩ := rdL ((HRW.out.below HBR.out).below (hb.mono HBR.out.size)) hlj
                    obtain ⟨gw', ow', hB', _, b0, b1, b2, b3⟩ := rdL ((HRW.out.below HBR.out).below (hb.mono HBR.out.size)) hlt
                    rw [hAw] at hA' hB'
                    injection hA' with hA'
                    injection hA' with e1 e2
                    injection hB' with hB'
                    injection hB' with e3 e4
                    rw [← e1, ← e2, ← hyy] at a0 a1 a2 a3
                    rw [← e3, ← e4, HXK.out] at b0 b1 b2 b3
                    exact ⟨a0, a1, a2, a3, b0, b1, b2, b3⟩)
                  have hD : Below wr.heap.size wr wr.drew := below_drewN (Below.refl _ _) 1
                  have HC := Lib.hid (fun w => lconf_any y x w)
                  have HO2 := Lib.hid (fun w => rolder_any y.id x.id w)
                  unfold lkV at HC
                  unfold idV at HO2
                  subst hAw
                  clear a0 a1 a2 a3 hyy
                  cases hwy : why2 q' x j with
                  | true =>
                    have HN : Hid (Value.bool true = .bool (why2 q' x (j + 1))) := Lib.hid (by rw [HON.out, hwy]; rfl)
                    clear hwy HON
                    go_wp2_with fail
                    refine wp_region_held_drew (S := fun w' => w'.cell? ⟨gw, ow + j * 4, none⟩ = some (.string y.key) ∧ w'.cell? ⟨gw, ow + j * 4 + 1, none⟩ = some (.int .i64 y.id.n) ∧ w'.cell? ⟨gw, ow + j * 4 + 2, none⟩ = some (.int .i64 y.id.c) ∧ w'.cell? ⟨gw, ow + j * 4 + 3, none⟩ = some (.int .i64 y.mode) ∧ w'.cell? ⟨gw, ow + k * 4, none⟩ = some (.string x.key) ∧ w'.cell? ⟨gw, ow + k * 4 + 1, none⟩ = some (.int .i64 x.id.n) ∧ w'.cell? ⟨gw, ow + k * 4 + 2, none⟩ = some (.int .i64 x.id.c) ∧ w'.cell? ⟨gw, ow + k * 4 + 3, none⟩ = some (.int .i64 x.mode)) (by kernel_rfl) (by with_reducible exact hS.out _ hD) (fun hHeld => ?_)
                    refine wpAnyH_take (i := 0) (oi := { dst := some 69, op := Op.move (Operand.tmp 10), type := 4, pos := "law.go:252", after := #[], guard := none }) (v := ?vv17) rfl (by kernel_rfl) (by kernel_rfl) (by kernel_rfl) (fun _ _ _ h => h) (Or.inl ⟨by rfl, ?hyy17⟩) (by assumption) ?rest17
                    case hyy17 => ((intro w hSw); (try dsimp only at hSw); go_simp; (try with_reducible rfl))
                    try simp only [Act.put, List.setIfInBounds_toArray, List.set_cons_zero, List.set_cons_succ]
                    refine wpAnyH_take (i := 1) (oi := { dst := some 70, op := Op.move (Operand.tmp 69), type := 4, pos := "law.go:252", after := #[{ on := 0, ground := Ground.data }], guard := none }) (v := ?vv18) rfl (by kernel_rfl) (by kernel_rfl) (by kernel_rfl) (fun _ _ _ h => h) (Or.inl ⟨by rfl, ?hyy18⟩) (by assumption) ?rest18
                    case hyy18 => ((intro w hSw); (try dsimp only at hSw); go_simp; (try with_reducible rfl))
                    try simp only [Act.put, List.setIfInBounds_toArray, List.set_cons_zero, List.set_cons_succ]
                    refine wpAnyH_take (i := 2) (oi := { dst := some 71, op := Op.move (Operand.tmp 8), type := 28, pos := "law.go:252", after := #[{ on := 1, ground := Ground.guard }], guard := some (1, false) }) (v := undef) rfl (by kernel_rfl) (by kernel_rfl) (by kernel_rfl) (fun _ _ _ h => h) (Or.inr ⟨by rfl, rfl⟩) (by assumption) ?_
                    try simp only [Act.put, List.setIfInBounds_toArray, List.set_cons_zero, List.set_cons_succ]
                    refine wpAnyH_take (i := 3) (oi := { dst := some 72, op := Op.move (Operand.tmp 12), type := 3, pos := "law.go:252", after := #[{ on := 1, ground := Ground.guard }], guard := some (1, false) }) (v := undef) rfl (by kernel_rfl) (by kernel_rfl) (by kernel_rfl) (fun _ _ _ h => h) (Or.inr ⟨by rfl, rfl⟩) (by assumption) ?_
                    try simp only [Act.put, List.setIfInBounds_toArray, List.set_cons_zero, List.set_cons_succ]
                    refine wpAnyH_take (i := 4) (oi := { dst := some 73, op := Op.indexAddr 28 (Operand.tmp 71) (Operand.tmp 72), type := 0, pos := "law.go:252", after := #[{ on := 2, ground := Ground.data }, { on := 3, ground := Ground.data }, { on := 1, ground := Ground.guard }], guard := some (1, false) }) (v := undef) rfl (by kernel_rfl) (by kernel_rfl) (by kernel_rfl) (fun _ _ _ h => h) (Or.inr ⟨by rfl, rfl⟩) (by assumption) ?_
                    try simp only [Act.put, List.setIfInBounds_toArray, List.set_cons_zero, List.set_cons_succ]
                    refine wpAnyH_take (i := 5) (oi := { dst := some 74, op := Op.load 39 (Operand.tmp 73), type := 39, pos := "law.go:252", after := #[{ on := 4, ground := Ground.data }, { on := 1, ground := Ground.guard }], guard := some (1, false) }) (v := undef) rfl (by kernel_rfl) (by kernel_rfl) (by kernel_rfl) (fun _ _ _ h => h) (Or.inr ⟨by rfl, rfl⟩) (by assumption) ?_
                    try simp only [Act.put, List.setIfInBounds_toArray, List.set_cons_zero, List.set_cons_succ]
                    refine wpAnyH_take (i := 6) (oi := { dst := some 75, op := Op.move (Operand.tmp 8), type := 28, pos := "law.go:252", after := #[{ on := 1, ground := Ground.guard }], guard := some (1, false) }) (v := undef) rfl (by kernel_rfl) (by kernel_rfl) (by kernel_rfl) (fun _ _ _ h => h) (Or.inr ⟨by rfl, rfl⟩) (by assumption) ?_
                    try simp only [Act.put, List.setIfInBounds_toArray, List.set_cons_zero, List.set_cons_succ]
                    refine wpAnyH_take (i := 7) (oi := { dst := some 76, op := Op.move (Operand.tmp 9), type := 3, pos := "law.go:252", after := #[{ on := 1, ground := Ground.guard }], guard := some (1, false) }) (v := undef) rfl (by kernel_rfl) (by kernel_rfl) (by kernel_rfl) (fun _ _ _ h => h) (Or.inr ⟨by rfl, rfl⟩) (by assumption) ?_
                    try simp only [Act.put, List.setIfInBounds_toArray, List.set_cons_zero, List.set_cons_succ]
                    refine wpAnyH_take (i := 8) (oi := { dst := some 77, op := Op.indexAddr 28 (Operand.tmp 75) (Operand.tmp 76), type := 0, pos := "law.go:252", after := #[{ on := 6, ground := Ground.data }, { on := 7, ground := Ground.data }, { on := 1, ground := Ground.guard }], guard := some (1, false) }) (v := undef) rfl (by kernel_rfl) (by kernel_rfl) (by kernel_rfl) (fun _ _ _ h => h) (Or.inr ⟨by rfl, rfl⟩) (by assumption) ?_
                    try simp only [Act.put, List.setIfInBounds_toArray, List.set_cons_zero, List.set_cons_succ]
                    refine wpAnyH_take (i := 9) (oi := { dst := some 78, op := Op.load 39 (Operand.tmp 77), type := 39, pos := "law.go:252", after := #[{ on := 8, ground := Ground.data }, { on := 1, ground := Ground.guard }], guard := some (1, false) }) (v := undef) rfl (by kernel_rfl) (by kernel_rfl) (by kernel_rfl) (fun _ _ _ h => h) (Or.inr ⟨by rfl, rfl⟩) (by assumption) ?_
                    try simp only [Act.put, List.setIfInBounds_toArray, List.set_cons_zero, List.set_cons_succ]
                    refine wpAnyH_take (i := 10) (oi := { dst := some 79, op := Op.call { callee := Callee.value (Operand.func 12), args := #[Operand.tmp 74, Operand.tmp 78], argTypes := #[39, 39] }, type := 4, pos := "law.go:252", after := #[{ on := 5, ground := Ground.data }, { on := 9, ground := Ground.data }, { on := 1, ground := Ground.chain }, { on := 1, ground := Ground.guard }], guard := some (1, false) }) (v := undef) rfl (by kernel_rfl) (by kernel_rfl) (by kernel_rfl) (fun _ _ _ h => h) (Or.inr ⟨by rfl, rfl⟩) (by assumption) ?_
                    try simp only [Act.put, List.setIfInBounds_toArray, List.set_cons_zero, List.set_cons_succ]
                    refine wpAnyH_take (i := 11) (oi := { dst := some 80, op := Op.move (Operand.tmp 79), type := 4, pos := "law.go:252", after := #[{ on := 10, ground := Ground.data }, { on := 10, ground := Ground.chain }, { on := 1, ground := Ground.guard }], guard := some (1, false) }) (v := undef) rfl (by kernel_rfl) (by kernel_rfl) (by kernel_rfl) (fun _ _ _ h => h) (Or.inr ⟨by rfl, rfl⟩) (by assumption) ?_
                    try simp only [Act.put, List.setIfInBounds_toArray, List.set_cons_zero, List.set_cons_succ]
                    refine wpAnyH_take (i := 12) (oi := { dst := some 81, op := Op.move (Operand.tmp 8), type := 28, pos := "law.go:252", after := #[{ on := 11, ground := Ground.guard }], guard := some (11, true) }) (v := undef) rfl (by kernel_rfl) (by kernel_rfl) (by kernel_rfl) (fun _ _ _ h => h) (Or.inr ⟨by rfl, rfl⟩) (by assumption) ?_
                    try simp only [Act.put, List.setIfInBounds_toArray, List.set_cons_zero, List.set_cons_succ]
                    refine wpAnyH_take (i := 13) (oi := { dst := some 82, op := Op.move (Operand.tmp 12), type := 3, pos := "law.go:252", after := #[{ on := 11, ground := Ground.guard }], guard := some (11, true) }) (v := undef) rfl (by kernel_rfl) (by kernel_rfl) (by kernel_rfl) (fun _ _ _ h => h) (Or.inr ⟨by rfl, rfl⟩) (by assumption) ?_
                    try simp only [Act.put, List.setIfInBounds_toArray, List.set_cons_zero, List.set_cons_succ]
                    refine wpAnyH_take (i := 14) (oi := { dst := some 83, op := Op.indexAddr 28 (Operand.tmp 81) (Operand.tmp 82), type := 0, pos := "law.go:252", after := #[{ on := 12, ground := Ground.data }, { on := 13, ground := Ground.data }, { on := 11, ground := Ground.guard }], guard := some (11, true) }) (v := undef) rfl (by kernel_rfl) (by kernel_rfl) (by kernel_rfl) (fun _ _ _ h => h) (Or.inr ⟨by rfl, rfl⟩) (by assumption) ?_
                    try simp only [Act.put, List.setIfInBounds_toArray, List.set_cons_zero, List.set_cons_succ]
                    refine wpAnyH_take (i := 15) (oi := { dst := some 84, op := Op.fieldAddr 39 (Operand.tmp 83) 1, type := 0, pos := "law.go:252", after := #[{ on := 14, ground := Ground.data }, { on := 11, ground := Ground.guard }], guard := some (11, true) }) (v := undef) rfl (by kernel_rfl) (by kernel_rfl) (by kernel_rfl) (fun _ _ _ h => h) (Or.inr ⟨by rfl, rfl⟩) (by assumption) ?_
                    try simp only [Act.put, List.setIfInBounds_toArray, List.set_cons_zero, List.set_cons_succ]
                    refine wpAnyH_take (i := 16) (oi := { dst := some 85, op := Op.load 34 (Operand.tmp 84), type := 34, pos := "law.go:252", after := #[{ on := 15, ground := Ground.data }, { on := 11, ground := Ground.guard }], guard := some (11, true) }) (v := undef) rfl (by kernel_rfl) (by kernel_rfl) (by kernel_rfl) (fun _ _ _ h => h) (Or.inr ⟨by rfl, rfl⟩) (by assumption) ?_
                    try simp only [Act.put, List.setIfInBounds_toArray, List.set_cons_zero, List.set_cons_succ]
                    refine wpAnyH_take (i := 17) (oi := { dst := some 86, op := Op.move (Operand.tmp 8), type := 28, pos := "law.go:252", after := #[{ on := 11, ground := Ground.guard }], guard := some (11, true) }) (v := undef) rfl (by kernel_rfl) (by kernel_rfl) (by kernel_rfl) (fun _ _ _ h => h) (Or.inr ⟨by rfl, rfl⟩) (by assumption) ?_
                    try simp only [Act.put, List.setIfInBounds_toArray, List.set_cons_zero, List.set_cons_succ]
                    refine wpAnyH_take (i := 18) (oi := { dst := some 87, op := Op.move (Operand.tmp 9), type := 3, pos := "law.go:252", after := #[{ on := 11, ground := Ground.guard }], guard := some (11, true) }) (v := undef) rfl (by kernel_rfl) (by kernel_rfl) (by kernel_rfl) (fun _ _ _ h => h) (Or.inr ⟨by rfl, rfl⟩) (by assumption) ?_
                    try simp only [Act.put, List.setIfInBounds_toArray, List.set_cons_zero, List.set_cons_succ]
                    refine wpAnyH_take (i := 19) (oi := { dst := some 88, op := Op.indexAddr 28 (Operand.tmp 86) (Operand.tmp 87), type := 0, pos := "law.go:252", after := #[{ on := 17, ground := Ground.data }, { on := 18, ground := Ground.data }, { on := 11, ground := Ground.guard }], guard := some (11, true) }) (v := undef) rfl (by kernel_rfl) (by kernel_rfl) (by kernel_rfl) (fun _ _ _ h => h) (Or.inr ⟨by rfl, rfl⟩) (by assumption) ?_
                    try simp only [Act.put, List.setIfInBounds_toArray, List.set_cons_zero, List.set_cons_succ]
                    refine wpAnyH_take (i := 20) (oi := { dst := some 89, op := Op.fieldAddr 39 (Operand.tmp 88) 1, type := 0, pos := "law.go:252", after := #[{ on := 19, ground := Ground.data }, { on := 11, ground := Ground.guard }], guard := some (11, true) }) (v := undef) rfl (by kernel_rfl) (by kernel_rfl) (by kernel_rfl) (fun _ _ _ h => h) (Or.inr ⟨by rfl, rfl⟩) (by assumption) ?_
                    try simp only [Act.put, List.setIfInBounds_toArray, List.set_cons_zero, List.set_cons_succ]
                    refine wpAnyH_take (i := 21) (oi := { dst := some 90, op := Op.load 34 (Operand.tmp 89), type := 34, pos := "law.go:252", after := #[{ on := 20, ground := Ground.data }, { on := 11, ground := Ground.guard }], guard := some (11, true) }) (v := undef) rfl (by kernel_rfl) (by kernel_rfl) (by kernel_rfl) (fun _ _ _ h => h) (Or.inr ⟨by rfl, rfl⟩) (by assumption) ?_
                    try simp only [Act.put, List.setIfInBounds_toArray, List.set_cons_zero, List.set_cons_succ]
                    refine wpAnyH_take (i := 22) (oi := { dst := some 91, op := Op.call { callee := Callee.value (Operand.func 13), args := #[Operand.tmp 85, Operand.tmp 90], argTypes := #[34, 34] }, type := 4, pos := "law.go:252", after := #[{ on := 16, ground := Ground.data }, { on := 21, ground := Ground.data }, { on := 11, ground := Ground.chain }, { on := 11, ground := Ground.guard }], guard := some (11, true) }) (v := undef) rfl (by kernel_rfl) (by kernel_rfl) (by kernel_rfl) (fun _ _ _ h => h) (Or.inr ⟨by rfl, rfl⟩) (by assumption) ?_
                    try simp only [Act.put, List.setIfInBounds_toArray, List.set_cons_zero, List.set_cons_succ]
                    refine wpAnyH_take (i := 23) (oi := { dst := some 92, op := Op.pick (Operand.tmp 80) (Operand.tmp 91) (Operand.const (Value.bool false)), type := 4, pos := "law.go:252", after := #[{ on := 11, ground := Ground.data }, { on := 22, ground := Ground.data }, { on := 1, ground := Ground.guard }], guard := some (1, false) }) (v := undef) rfl (by kernel_rfl) (by kernel_rfl) (by kernel_rfl) (fun _ _ _ h => h) (Or.inr ⟨by rfl, rfl⟩) (by assumption) ?_
                    try simp only [Act.put, List.setIfInBounds_toArray, List.set_cons_zero, List.set_cons_succ]
                    refine wpAnyH_take (i := 24) (oi := { dst := some 93, op := Op.pick (Operand.tmp 70) (Operand.const (Value.bool true)) (Operand.tmp 92), type := 4, pos := "law.go:252", after := #[{ on := 1, ground := Ground.data }, { on := 23, ground := Ground.data }], guard := none }) (v := ?vv19) rfl (by kernel_rfl) (by kernel_rfl) (by kernel_rfl) (fun _ _ _ h => h) (Or.inl ⟨by rfl, ?hyy19⟩) (by assumption) ?rest19
                    case hyy19 => ((intro w hSw); (try dsimp only at hSw); go_simp; (try with_reducible rfl))
                    try simp only [Act.put, List.setIfInBounds_toArray, List.set_cons_zero, List.set_cons_succ]
                    refine wpAnyH_take (i := 25) (oi := { dst := some 10, op := Op.assign (Operand.tmp 93), type := 4, pos := "law.go:252", after := #[{ on := 24, ground := Ground.data }, { on := 22, ground := Ground.chain }, { on := 0, ground := Ground.phase }, { on := 1, ground := Ground.phase }, { on := 2, ground := Ground.phase }, { on := 3, ground := Ground.phase }, { on := 4, ground := Ground.phase }, { on := 5, ground := Ground.phase }, { on := 6, ground := Ground.phase }, { on := 7, ground := Ground.phase }, { on := 8, ground := Ground.phase }, { on := 9, ground := Ground.phase }, { on := 10, ground := Ground.phase }, { on := 11, ground := Ground.phase }, { on := 12, ground := Ground.phase }, { on := 13, ground := Ground.phase }, { on := 14, ground := Ground.phase }, { on := 15, ground := Ground.phase }, { on := 16, ground := Ground.phase }, { on := 17, ground := Ground.phase }, { on := 18, ground := Ground.phase }, { on := 19, ground := Ground.phase }, { on := 20, ground := Ground.phase }, { on := 21, ground := Ground.phase }, { on := 22, ground := Ground.phase }, { on := 23, ground := Ground.phase }, { on := 24, ground := Ground.phase }], guard := none }) (v := ?vv20) rfl (by kernel_rfl) (by kernel_rfl) (by kernel_rfl) (fun _ _ _ h => h) (Or.inl ⟨by rfl, ?hyy20⟩) (by assumption) ?rest20
                    case hyy20 => ((intro w hSw); (try dsimp only at hSw); go_simp; (try with_reducible rfl))
                    try simp only [Act.put, List.setIfInBounds_toArray, List.set_cons_zero, List.set_cons_succ]
                    refine wpAnyH_done (by kernel_rfl) ?_ _
                    go_wp2
                    go_roundw
                    case rel => exact ⟨j + 1, HN.out, by go_num, by omega, HBR.out.trans (hD.mono HBR.out.size)⟩
                    case measure => simp [intOf]; omega
                  | false =>
                    cases hcf : conf y x with
                    | false =>
                      have HN : Hid (Value.bool false = .bool (why2 q' x (j + 1))) := Lib.hid (by rw [HON.out, hwy, hcf]; rfl)
                      rw [hcf] at HC
                      clear hwy HON hcf
                      go_wp2_with fail
                      refine wp_region_held_drew (S := fun w' => w'.cell? ⟨gw, ow + j * 4, none⟩ = some (.string y.key) ∧ w'.cell? ⟨gw, ow + j * 4 + 1, none⟩ = some (.int .i64 y.id.n) ∧ w'.cell? ⟨gw, ow + j * 4 + 2, none⟩ = some (.int .i64 y.id.c) ∧ w'.cell? ⟨gw, ow + j * 4 + 3, none⟩ = some (.int .i64 y.mode) ∧ w'.cell? ⟨gw, ow + k * 4, none⟩ = some (.string x.key) ∧ w'.cell? ⟨gw, ow + k * 4 + 1, none⟩ = some (.int .i64 x.id.n) ∧ w'.cell? ⟨gw, ow + k * 4 + 2, none⟩ = some (.int .i64 x.id.c) ∧ w'.cell? ⟨gw, ow + k * 4 + 3, none⟩ = some (.int .i64 x.mode)) (by kernel_rfl) (by with_reducible exact hS.out _ hD) (fun hHeld => ?_)
                      refine wpAnyH_take (i := 0) (oi := { dst := some 69, op := Op.move (Operand.tmp 10), type := 4, pos := "law.go:252", after := #[], guard := none }) (v := ?vv21) rfl (by kernel_rfl) (by kernel_rfl) (by kernel_rfl) (fun _ _ _ h => h) (Or.inl ⟨by rfl, ?hyy21⟩) (by assumption) ?rest21
                      case hyy21 => ((intro w hSw); (try dsimp only at hSw); go_simp; (try with_reducible rfl))
                      try simp only [Act.put, List.setIfInBounds_toArray, List.set_cons_zero, List.set_cons_succ]
                      refine wpAnyH_take (i := 1) (oi := { dst := some 70, op := Op.move (Operand.tmp 69), type := 4, pos := "law.go:252", after := #[{ on := 0, ground := Ground.data }], guard := none }) (v := ?vv22) rfl (by kernel_rfl) (by kernel_rfl) (by kernel_rfl) (fun _ _ _ h => h) (Or.inl ⟨by rfl, ?hyy22⟩) (by assumption) ?rest22
                      case hyy22 => ((intro w hSw); (try dsimp only at hSw); go_simp; (try with_reducible rfl))
                      try simp only [Act.put, List.setIfInBounds_toArray, List.set_cons_zero, List.set_cons_succ]
                      refine wpAnyH_take (i := 2) (oi := { dst := some 71, op := Op.move (Operand.tmp 8), type := 28, pos := "law.go:252", after := #[{ on := 1, ground := Ground.guard }], guard := some (1, false) }) (v := ?vv23) rfl (by kernel_rfl) (by kernel_rfl) (by kernel_rfl) (fun _ _ _ h => h) (Or.inl ⟨by rfl, ?hyy23⟩) (by assumption) ?rest23
                      case hyy23 => ((intro w hSw); (try dsimp only at hSw); go_simp; (try with_reducible rfl))
                      try simp only [Act.put, List.setIfInBounds_toArray, List.set_cons_zero, List.set_cons_succ]
                      refine wpAnyH_take (i := 3) (oi := { dst := some 72, op := Op.move (Operand.tmp 12), type := 3, pos := "law.go:252", after := #[{ on := 1, ground := Ground.guard }], guard := some (1, false) }) (v := ?vv24) rfl (by kernel_rfl) (by kernel_rfl) (by kernel_rfl) (fun _ _ _ h => h) (Or.inl ⟨by rfl, ?hyy24⟩) (by assumption) ?rest24
                      case hyy24 => ((intro w hSw); (try dsimp only at hSw); go_simp; (try with_reducible rfl))
                      try simp only [Act.put, List.setIfInBounds_toArray, List.set_cons_zero, List.set_cons_succ]
                      refine wpAnyH_take (i := 4) (oi := { dst := some 73, op := Op.indexAddr 28 (Operand.tmp 71) (Operand.tmp 72), type := 0, pos := "law.go:252", after := #[{ on := 2, ground := Ground.data }, { on := 3, ground := Ground.data }, { on := 1, ground := Ground.guard }], guard := some (1, false) }) (v := ?vv25) rfl (by kernel_rfl) (by kernel_rfl) (by kernel_rfl) (fun _ _ _ h => h) (Or.inl ⟨by rfl, ?hyy25⟩) (by assumption) ?rest25
                      case hyy25 => ((intro w hSw); (try dsimp only at hSw); go_simp; (try with_reducible rfl))
                      try simp only [Act.put, List.setIfInBounds_toArray, List.set_cons_zero, List.set_cons_succ]
                      refine wpAnyH_take (i := 5) (oi := { dst := some 74, op := Op.load 39 (Operand.tmp 73), type := 39, pos := "law.go:252", after := #[{ on := 4, ground := Ground.data }, { on := 1, ground := Ground.guard }], guard := some (1, false) }) (v := ?vv26) rfl (by kernel_rfl) (by kernel_rfl) (by kernel_rfl) (fun _ _ _ h => h) (Or.inl ⟨by rfl, ?hyy26⟩) (by assumption) ?rest26
                      case hyy26 => ((intro w hSw); (try dsimp only at hSw); go_simp; (try with_reducible rfl))
                      try simp only [Act.put, List.setIfInBounds_toArray, List.set_cons_zero, List.set_cons_succ]
                      refine wpAnyH_take (i := 6) (oi := { dst := some 75, op := Op.move (Operand.tmp 8), type := 28, pos := "law.go:252", after := #[{ on := 1, ground := Ground.guard }], guard := some (1, false) }) (v := ?vv27) rfl (by kernel_rfl) (by kernel_rfl) (by kernel_rfl) (fun _ _ _ h => h) (Or.inl ⟨by rfl, ?hyy27⟩) (by assumption) ?rest27
                      case hyy27 => ((intro w hSw); (try dsimp only at hSw); go_simp; (try with_reducible rfl))
                      try simp only [Act.put, List.setIfInBounds_toArray, List.set_cons_zero, List.set_cons_succ]
                      refine wpAnyH_take (i := 7) (oi := { dst := some 76, op := Op.move (Operand.tmp 9), type := 3, pos := "law.go:252", after := #[{ on := 1, ground := Ground.guard }], guard := some (1, false) }) (v := ?vv28) rfl (by kernel_rfl) (by kernel_rfl) (by kernel_rfl) (fun _ _ _ h => h) (Or.inl ⟨by rfl, ?hyy28⟩) (by assumption) ?rest28
                      case hyy28 => ((intro w hSw); (try dsimp only at hSw); go_simp; (try with_reducible rfl))
                      try simp only [Act.put, List.setIfInBounds_toArray, List.set_cons_zero, List.set_cons_succ]
                      refine wpAnyH_take (i := 8) (oi := { dst := some 77, op := Op.indexAddr 28 (Operand.tmp 75) (Operand.tmp 76), type := 0, pos := "law.go:252", after := #[{ on := 6, ground := Ground.data }, { on := 7, ground := Ground.data }, { on := 1, ground := Ground.guard }], guard := some (1, false) }) (v := ?vv29) rfl (by kernel_rfl) (by kernel_rfl) (by kernel_rfl) (fun _ _ _ h => h) (Or.inl ⟨by rfl, ?hyy29⟩) (by assumption) ?rest29
                      case hyy29 => ((intro w hSw); (try dsimp only at hSw); go_simp; (try with_reducible rfl))
                      try simp only [Act.put, List.setIfInBounds_toArray, List.set_cons_zero, List.set_cons_succ]
                      refine wpAnyH_take (i := 9) (oi := { dst := some 78, op := Op.load 39 (Operand.tmp 77), type := 39, pos := "law.go:252", after := #[{ on := 8, ground := Ground.data }, { on := 1, ground := Ground.guard }], guard := some (1, false) }) (v := ?vv30) rfl (by kernel_rfl) (by kernel_rfl) (by kernel_rfl) (fun _ _ _ h => h) (Or.inl ⟨by rfl, ?hyy30⟩) (by assumption) ?rest30
                      case hyy30 => ((intro w hSw); (try dsimp only at hSw); go_simp; (try with_reducible rfl))
                      try simp only [Act.put, List.setIfInBounds_toArray, List.set_cons_zero, List.set_cons_succ]
                      refine wpAnyH_ready (rs := [10]) (by kernel_rfl) (by simp) ?_
                      refine AllReadyH.cons (o := { dst := some 79, op := Op.call { callee := Callee.value (Operand.func 12), args := #[Operand.tmp 74, Operand.tmp 78], argTypes := #[39, 39] }, type := 4, pos := "law.go:252", after := #[{ on := 5, ground := Ground.data }, { on := 9, ground := Ground.data }, { on := 1, ground := Ground.chain }, { on := 1, ground := Ground.guard }], guard := some (1, false) }) rfl (fun K hK => ?_) ?_
                      ·
                        go_simp
                        go_at_call 12
                        refine (HC.out _).mono ?_
                        rintro e w6 ⟨rfl, hb6⟩
                        have hc6 : Below wr.heap.size wr w6 := hD.trans (hb6.mono hD.size)
                        clear hb6
                        go_wp2_with fail
                        refine hK.out _ _ (by with_reducible exact hS.out _ hc6) (fun hHeld => ?_)
                        clear hK K
                        try simp only [Act.put, List.setIfInBounds_toArray, List.set_cons_zero, List.set_cons_succ]
                        refine wpAnyH_take (i := 11) (oi := { dst := some 80, op := Op.move (Operand.tmp 79), type := 4, pos := "law.go:252", after := #[{ on := 10, ground := Ground.data }, { on := 10, ground := Ground.chain }, { on := 1, ground := Ground.guard }], guard := some (1, false) }) (v := ?vv31) rfl (by kernel_rfl) (by kernel_rfl) (by kernel_rfl) (fun _ _ _ h => h) (Or.inl ⟨by rfl, ?hyy31⟩) (by assumption) ?rest31
                        case hyy31 => ((intro w hSw); (try dsimp only at hSw); go_simp; (try with_reducible rfl))
                        try simp only [Act.put, List.setIfInBounds_toArray, List.set_cons_zero, List.set_cons_succ]
                        refine wpAnyH_take (i := 12) (oi := { dst := some 81, op := Op.move (Operand.tmp 8), type := 28, pos := "law.go:252", after := #[{ on := 11, ground := Ground.guard }], guard := some (11, true) }) (v := undef) rfl (by kernel_rfl) (by kernel_rfl) (by kernel_rfl) (fun _ _ _ h => h) (Or.inr ⟨by rfl, rfl⟩) (by assumption) ?_
                        try simp only [Act.put, List.setIfInBounds_toArray, List.set_cons_zero, List.set_cons_succ]
                        refine wpAnyH_take (i := 13) (oi := { dst := some 82, op := Op.move (Operand.tmp 12), type := 3, pos := "law.go:252", after := #[{ on := 11, ground := Ground.guard }], guard := some (11, true) }) (v := undef) rfl (by kernel_rfl) (by kernel_rfl) (by kernel_rfl) (fun _ _ _ h => h) (Or.inr ⟨by rfl, rfl⟩) (by assumption) ?_
                        try simp only [Act.put, List.setIfInBounds_toArray, List.set_cons_zero, List.set_cons_succ]
                        refine wpAnyH_take (i := 14) (oi := { dst := some 83, op := Op.indexAddr 28 (Operand.tmp 81) (Operand.tmp 82), type := 0, pos := "law.go:252", after := #[{ on := 12, ground := Ground.data }, { on := 13, ground := Ground.data }, { on := 11, ground := Ground.guard }], guard := some (11, true) }) (v := undef) rfl (by kernel_rfl) (by kernel_rfl) (by kernel_rfl) (fun _ _ _ h => h) (Or.inr ⟨by rfl, rfl⟩) (by assumption) ?_
                        try simp only [Act.put, List.setIfInBounds_toArray, List.set_cons_zero, List.set_cons_succ]
                        refine wpAnyH_take (i := 15) (oi := { dst := some 84, op := Op.fieldAddr 39 (Operand.tmp 83) 1, type := 0, pos := "law.go:252", after := #[{ on := 14, ground := Ground.data }, { on := 11, ground := Ground.guard }], guard := some (11, true) }) (v := undef) rfl (by kernel_rfl) (by kernel_rfl) (by kernel_rfl) (fun _ _ _ h => h) (Or.inr ⟨by rfl, rfl⟩) (by assumption) ?_
                        try simp only [Act.put, List.setIfInBounds_toArray, List.set_cons_zero, List.set_cons_succ]
                        refine wpAnyH_take (i := 16) (oi := { dst := some 85, op := Op.load 34 (Operand.tmp 84), type := 34, pos := "law.go:252", after := #[{ on := 15, ground := Ground.data }, { on := 11, ground := Ground.guard }], guard := some (11, true) }) (v := undef) rfl (by kernel_rfl) (by kernel_rfl) (by kernel_rfl) (fun _ _ _ h => h) (Or.inr ⟨by rfl, rfl⟩) (by assumption) ?_
                        try simp only [Act.put, List.setIfInBounds_toArray, List.set_cons_zero, List.set_cons_succ]
                        refine wpAnyH_take (i := 17) (oi := { dst := some 86, op := Op.move (Operand.tmp 8), type := 28, pos := "law.go:252", after := #[{ on := 11, ground := Ground.guard }], guard := some (11, true) }) (v := undef) rfl (by kernel_rfl) (by kernel_rfl) (by kernel_rfl) (fun _ _ _ h => h) (Or.inr ⟨by rfl, rfl⟩) (by assumption) ?_
                        try simp only [Act.put, List.setIfInBounds_toArray, List.set_cons_zero, List.set_cons_succ]
                        refine wpAnyH_take (i := 18) (oi := { dst := some 87, op := Op.move (Operand.tmp 9), type := 3, pos := "law.go:252", after := #[{ on := 11, ground := Ground.guard }], guard := some (11, true) }) (v := undef) rfl (by kernel_rfl) (by kernel_rfl) (by kernel_rfl) (fun _ _ _ h => h) (Or.inr ⟨by rfl, rfl⟩) (by assumption) ?_
                        try simp only [Act.put, List.setIfInBounds_toArray, List.set_cons_zero, List.set_cons_succ]
                        refine wpAnyH_take (i := 19) (oi := { dst := some 88, op := Op.indexAddr 28 (Operand.tmp 86) (Operand.tmp 87), type := 0, pos := "law.go:252", after := #[{ on := 17, ground := Ground.data }, { on := 18, ground := Ground.data }, { on := 11, ground := Ground.guard }], guard := some (11, true) }) (v := undef) rfl (by kernel_rfl) (by kernel_rfl) (by kernel_rfl) (fun _ _ _ h => h) (Or.inr ⟨by rfl, rfl⟩) (by assumption) ?_
                        try simp only [Act.put, List.setIfInBounds_toArray, List.set_cons_zero, List.set_cons_succ]
                        refine wpAnyH_take (i := 20) (oi := { dst := some 89, op := Op.fieldAddr 39 (Operand.tmp 88) 1, type := 0, pos := "law.go:252", after := #[{ on := 19, ground := Ground.data }, { on := 11, ground := Ground.guard }], guard := some (11, true) }) (v := undef) rfl (by kernel_rfl) (by kernel_rfl) (by kernel_rfl) (fun _ _ _ h => h) (Or.inr ⟨by rfl, rfl⟩) (by assumption) ?_
                        try simp only [Act.put, List.setIfInBounds_toArray, List.set_cons_zero, List.set_cons_succ]
                        refine wpAnyH_take (i := 21) (oi := { dst := some 90, op := Op.load 34 (Operand.tmp 89), type := 34, pos := "law.go:252", after := #[{ on := 20, ground := Ground.data }, { on := 11, ground := Ground.guard }], guard := some (11, true) }) (v := undef) rfl (by kernel_rfl) (by kernel_rfl) (by kernel_rfl) (fun _ _ _ h => h) (Or.inr ⟨by rfl, rfl⟩) (by assumption) ?_
                        try simp only [Act.put, List.setIfInBounds_toArray, List.set_cons_zero, List.set_cons_succ]
                        refine wpAnyH_take (i := 22) (oi := { dst := some 91, op := Op.call { callee := Callee.value (Operand.func 13), args := #[Operand.tmp 85, Operand.tmp 90], argTypes := #[34, 34] }, type := 4, pos := "law.go:252", after := #[{ on := 16, ground := Ground.data }, { on := 21, ground := Ground.data }, { on := 11, ground := Ground.chain }, { on := 11, ground := Ground.guard }], guard := some (11, true) }) (v := undef) rfl (by kernel_rfl) (by kernel_rfl) (by kernel_rfl) (fun _ _ _ h => h) (Or.inr ⟨by rfl, rfl⟩) (by assumption) ?_
                        try simp only [Act.put, List.setIfInBounds_toArray, List.set_cons_zero, List.set_cons_succ]
                        refine wpAnyH_take (i := 23) (oi := { dst := some 92, op := Op.pick (Operand.tmp 80) (Operand.tmp 91) (Operand.const (Value.bool false)), type := 4, pos := "law.go:252", after := #[{ on := 11, ground := Ground.data }, { on := 22, ground := Ground.data }, { on := 1, ground := Ground.guard }], guard := some (1, false) }) (v := ?vv32) rfl (by kernel_rfl) (by kernel_rfl) (by kernel_rfl) (fun _ _ _ h => h) (Or.inl ⟨by rfl, ?hyy32⟩) (by assumption) ?rest32
                        case hyy32 => ((intro w hSw); (try dsimp only at hSw); go_simp; (try with_reducible rfl))
                        try simp only [Act.put, List.setIfInBounds_toArray, List.set_cons_zero, List.set_cons_succ]
                        refine wpAnyH_take (i := 24) (oi := { dst := some 93, op := Op.pick (Operand.tmp 70) (Operand.const (Value.bool true)) (Operand.tmp 92), type := 4, pos := "law.go:252", after := #[{ on := 1, ground := Ground.data }, { on := 23, ground := Ground.data }], guard := none }) (v := ?vv33) rfl (by kernel_rfl) (by kernel_rfl) (by kernel_rfl) (fun _ _ _ h => h) (Or.inl ⟨by rfl, ?hyy33⟩) (by assumption) ?rest33
                        case hyy33 => ((intro w hSw); (try dsimp only at hSw); go_simp; (try with_reducible rfl))
                        try simp only [Act.put, List.setIfInBounds_toArray, List.set_cons_zero, List.set_cons_succ]
                        refine wpAnyH_take (i := 25) (oi := { dst := some 10, op := Op.assign (Operand.tmp 93), type := 4, pos := "law.go:252", after := #[{ on := 24, ground := Ground.data }, { on := 22, ground := Ground.chain }, { on := 0, ground := Ground.phase }, { on := 1, ground := Ground.phase }, { on := 2, ground := Ground.phase }, { on := 3, ground := Ground.phase }, { on := 4, ground := Ground.phase }, { on := 5, ground := Ground.phase }, { on := 6, ground := Ground.phase }, { on := 7, ground := Ground.phase }, { on := 8, ground := Ground.phase }, { on := 9, ground := Ground.phase }, { on := 10, ground := Ground.phase }, { on := 11, ground := Ground.phase }, { on := 12, ground := Ground.phase }, { on := 13, ground := Ground.phase }, { on := 14, ground := Ground.phase }, { on := 15, ground := Ground.phase }, { on := 16, ground := Ground.phase }, { on := 17, ground := Ground.phase }, { on := 18, ground := Ground.phase }, { on := 19, ground := Ground.phase }, { on := 20, ground := Ground.phase }, { on := 21, ground := Ground.phase }, { on := 22, ground := Ground.phase }, { on := 23, ground := Ground.phase }, { on := 24, ground := Ground.phase }], guard := none }) (v := ?vv34) rfl (by kernel_rfl) (by kernel_rfl) (by kernel_rfl) (fun _ _ _ h => h) (Or.inl ⟨by rfl, ?hyy34⟩) (by assumption) ?rest34
                        case hyy34 => ((intro w hSw); (try dsimp only at hSw); go_simp; (try with_reducible rfl))
                        try simp only [Act.put, List.setIfInBounds_toArray, List.set_cons_zero, List.set_cons_succ]
                        refine wpAnyH_done (by kernel_rfl) ?_ _
                        go_wp2
                        go_roundw
                        case rel => exact ⟨j + 1, HN.out, by go_num, by omega, HBR.out.trans (hc6.mono HBR.out.size)⟩
                        case measure => simp [intOf]; omega
                      exact AllReadyH.nil
                    | true =>
                      have HN : Hid (Value.bool (ol y.id x.id) = .bool (why2 q' x (j + 1))) := Lib.hid (by rw [HON.out, hwy, hcf]; rfl)
                      rw [hcf] at HC
                      clear hwy HON hcf
                      go_wp2_with fail
                      refine wp_region_held_drew (S := fun w' => w'.cell? ⟨gw, ow + j * 4, none⟩ = some (.string y.key) ∧ w'.cell? ⟨gw, ow + j * 4 + 1, none⟩ = some (.int .i64 y.id.n) ∧ w'.cell? ⟨gw, ow + j * 4 + 2, none⟩ = some (.int .i64 y.id.c) ∧ w'.cell? ⟨gw, ow + j * 4 + 3, none⟩ = some (.int .i64 y.mode) ∧ w'.cell? ⟨gw, ow + k * 4, none⟩ = some (.string x.key) ∧ w'.cell? ⟨gw, ow + k * 4 + 1, none⟩ = some (.int .i64 x.id.n) ∧ w'.cell? ⟨gw, ow + k * 4 + 2, none⟩ = some (.int .i64 x.id.c) ∧ w'.cell? ⟨gw, ow + k * 4 + 3, none⟩ = some (.int .i64 x.mode)) (by kernel_rfl) (by with_reducible exact hS.out _ hD) (fun hHeld => ?_)
                      refine wpAnyH_take (i := 0) (oi := { dst := some 69, op := Op.move (Operand.tmp 10), type := 4, pos := "law.go:252", after := #[], guard := none }) (v := ?vv35) rfl (by kernel_rfl) (by kernel_rfl) (by kernel_rfl) (fun _ _ _ h => h) (Or.inl ⟨by rfl, ?hyy35⟩) (by assumption) ?rest35
                      case hyy35 => ((intro w hSw); (try dsimp only at hSw); go_simp; (try with_reducible rfl))
                      try simp only [Act.put, List.setIfInBounds_toArray, List.set_cons_zero, List.set_cons_succ]
                      refine wpAnyH_take (i := 1) (oi := { dst := some 70, op := Op.move (Operand.tmp 69), type := 4, pos := "law.go:252", after := #[{ on := 0, ground := Ground.data }], guard := none }) (v := ?vv36) rfl (by kernel_rfl) (by kernel_rfl) (by kernel_rfl) (fun _ _ _ h => h) (Or.inl ⟨by rfl, ?hyy36⟩) (by assumption) ?rest36
                      case hyy36 => ((intro w hSw); (try dsimp only at hSw); go_simp; (try with_reducible rfl))
                      try simp only [Act.put, List.setIfInBounds_toArray, List.set_cons_zero, List.set_cons_succ]
                      refine wpAnyH_take (i := 2) (oi := { dst := some 71, op := Op.move (Operand.tmp 8), type := 28, pos := "law.go:252", after := #[{ on := 1, ground := Ground.guard }], guard := some (1, false) }) (v := ?vv37) rfl (by kernel_rfl) (by kernel_rfl) (by kernel_rfl) (fun _ _ _ h => h) (Or.inl ⟨by rfl, ?hyy37⟩) (by assumption) ?rest37
                      case hyy37 => ((intro w hSw); (try dsimp only at hSw); go_simp; (try with_reducible rfl))
                      try simp only [Act.put, List.setIfInBounds_toArray, List.set_cons_zero, List.set_cons_succ]
                      refine wpAnyH_take (i := 3) (oi := { dst := some 72, op := Op.move (Operand.tmp 12), type := 3, pos := "law.go:252", after := #[{ on := 1, ground := Ground.guard }], guard := some (1, false) }) (v := ?vv38) rfl (by kernel_rfl) (by kernel_rfl) (by kernel_rfl) (fun _ _ _ h => h) (Or.inl ⟨by rfl, ?hyy38⟩) (by assumption) ?rest38
                      case hyy38 => ((intro w hSw); (try dsimp only at hSw); go_simp; (try with_reducible rfl))
                      try simp only [Act.put, List.setIfInBounds_toArray, List.set_cons_zero, List.set_cons_succ]
                      refine wpAnyH_take (i := 4) (oi := { dst := some 73, op := Op.indexAddr 28 (Operand.tmp 71) (Operand.tmp 72), type := 0, pos := "law.go:252", after := #[{ on := 2, ground := Ground.data }, { on := 3, ground := Ground.data }, { on := 1, ground := Ground.guard }], guard := some (1, false) }) (v := ?vv39) rfl (by kernel_rfl) (by kernel_rfl) (by kernel_rfl) (fun _ _ _ h => h) (Or.inl ⟨by rfl, ?hyy39⟩) (by assumption) ?rest39
                      case hyy39 => ((intro w hSw); (try dsimp only at hSw); go_simp; (try with_reducible rfl))
                      try simp only [Act.put, List.setIfInBounds_toArray, List.set_cons_zero, List.set_cons_succ]
                      refine wpAnyH_take (i := 5) (oi := { dst := some 74, op := Op.load 39 (Operand.tmp 73), type := 39, pos := "law.go:252", after := #[{ on := 4, ground := Ground.data }, { on := 1, ground := Ground.guard }], guard := some (1, false) }) (v := ?vv40) rfl (by kernel_rfl) (by kernel_rfl) (by kernel_rfl) (fun _ _ _ h => h) (Or.inl ⟨by rfl, ?hyy40⟩) (by assumption) ?rest40
                      case hyy40 => ((intro w hSw); (try dsimp only at hSw); go_simp; (try with_reducible rfl))
                      try simp only [Act.put, List.setIfInBounds_toArray, List.set_cons_zero, List.set_cons_succ]
                      refine wpAnyH_take (i := 6) (oi := { dst := some 75, op := Op.move (Operand.tmp 8), type := 28, pos := "law.go:252", after := #[{ on := 1, ground := Ground.guard }], guard := some (1, false) }) (v := ?vv41) rfl (by kernel_rfl) (by kernel_rfl) (by kernel_rfl) (fun _ _ _ h => h) (Or.inl ⟨by rfl, ?hyy41⟩) (by assumption) ?rest41
                      case hyy41 => ((intro w hSw); (try dsimp only at hSw); go_simp; (try with_reducible rfl))
                      try simp only [Act.put, List.setIfInBounds_toArray, List.set_cons_zero, List.set_cons_succ]
                      refine wpAnyH_take (i := 7) (oi := { dst := some 76, op := Op.move (Operand.tmp 9), type := 3, pos := "law.go:252", after := #[{ on := 1, ground := Ground.guard }], guard := some (1, false) }) (v := ?vv42) rfl (by kernel_rfl) (by kernel_rfl) (by kernel_rfl) (fun _ _ _ h => h) (Or.inl ⟨by rfl, ?hyy42⟩) (by assumption) ?rest42
                      case hyy42 => ((intro w hSw); (try dsimp only at hSw); go_simp; (try with_reducible rfl))
                      try simp only [Act.put, List.setIfInBounds_toArray, List.set_cons_zero, List.set_cons_succ]
                      refine wpAnyH_take (i := 8) (oi := { dst := some 77, op := Op.indexAddr 28 (Operand.tmp 75) (Operand.tmp 76), type := 0, pos := "law.go:252", after := #[{ on := 6, ground := Ground.data }, { on := 7, ground := Ground.data }, { on := 1, ground := Ground.guard }], guard := some (1, false) }) (v := ?vv43) rfl (by kernel_rfl) (by kernel_rfl) (by kernel_rfl) (fun _ _ _ h => h) (Or.inl ⟨by rfl, ?hyy43⟩) (by assumption) ?rest43
                      case hyy43 => ((intro w hSw); (try dsimp only at hSw); go_simp; (try with_reducible rfl))
                      try simp only [Act.put, List.setIfInBounds_toArray, List.set_cons_zero, List.set_cons_succ]
                      refine wpAnyH_take (i := 9) (oi := { dst := some 78, op := Op.load 39 (Operand.tmp 77), type := 39, pos := "law.go:252", after := #[{ on := 8, ground := Ground.data }, { on := 1, ground := Ground.guard }], guard := some (1, false) }) (v := ?vv44) rfl (by kernel_rfl) (by kernel_rfl) (by kernel_rfl) (fun _ _ _ h => h) (Or.inl ⟨by rfl, ?hyy44⟩) (by assumption) ?rest44
                      case hyy44 => ((intro w hSw); (try dsimp only at hSw); go_simp; (try with_reducible rfl))
                      try simp only [Act.put, List.setIfInBounds_toArray, List.set_cons_zero, List.set_cons_succ]
                      refine wpAnyH_ready (rs := [10]) (by kernel_rfl) (by simp) ?_
                      refine AllReadyH.cons (o := { dst := some 79, op := Op.call { callee := Callee.value (Operand.func 12), args := #[Operand.tmp 74, Operand.tmp 78], argTypes := #[39, 39] }, type := 4, pos := "law.go:252", after := #[{ on := 5, ground := Ground.data }, { on := 9, ground := Ground.data }, { on := 1, ground := Ground.chain }, { on := 1, ground := Ground.guard }], guard := some (1, false) }) rfl (fun K hK => ?_) ?_
                      ·
                        go_simp
                        go_at_call 12
                        refine (HC.out _).mono ?_
                        rintro e w6 ⟨rfl, hb6⟩
                        have hc6 : Below wr.heap.size wr w6 := hD.trans (hb6.mono hD.size)
                        clear hb6
                        go_wp2_with fail
                        refine hK.out _ _ (by with_reducible exact hS.out _ hc6) (fun hHeld => ?_)
                        clear hK K
                        try simp only [Act.put, List.setIfInBounds_toArray, List.set_cons_zero, List.set_cons_succ]
                        refine wpAnyH_take (i := 11) (oi := { dst := some 80, op := Op.move (Operand.tmp 79), type := 4, pos := "law.go:252", after := #[{ on := 10, ground := Ground.data }, { on := 10, ground := Ground.chain }, { on := 1, ground := Ground.guard }], guard := some (1, false) }) (v := ?vv45) rfl (by kernel_rfl) (by kernel_rfl) (by kernel_rfl) (fun _ _ _ h => h) (Or.inl ⟨by rfl, ?hyy45⟩) (by assumption) ?rest45
                        case hyy45 => ((intro w hSw); (try dsimp only at hSw); go_simp; (try with_reducible rfl))
                        try simp only [Act.put, List.setIfInBounds_toArray, List.set_cons_zero, List.set_cons_succ]
                        refine wpAnyH_take (i := 12) (oi := { dst := some 81, op := Op.move (Operand.tmp 8), type := 28, pos := "law.go:252", after := #[{ on := 11, ground := Ground.guard }], guard := some (11, true) }) (v := ?vv46) rfl (by kernel_rfl) (by kernel_rfl) (by kernel_rfl) (fun _ _ _ h => h) (Or.inl ⟨by rfl, ?hyy46⟩) (by assumption) ?rest46
                        case hyy46 => ((intro w hSw); (try dsimp only at hSw); go_simp; (try with_reducible rfl))
                        try simp only [Act.put, List.setIfInBounds_toArray, List.set_cons_zero, List.set_cons_succ]
                        refine wpAnyH_take (i := 13) (oi := { dst := some 82, op := Op.move (Operand.tmp 12), type := 3, pos := "law.go:252", after := #[{ on := 11, ground := Ground.guard }], guard := some (11, true) }) (v := ?vv47) rfl (by kernel_rfl) (by kernel_rfl) (by kernel_rfl) (fun _ _ _ h => h) (Or.inl ⟨by rfl, ?hyy47⟩) (by assumption) ?rest47
                        case hyy47 => ((intro w hSw); (try dsimp only at hSw); go_simp; (try with_reducible rfl))
                        try simp only [Act.put, List.setIfInBounds_toArray, List.set_cons_zero, List.set_cons_succ]
                        refine wpAnyH_take (i := 14) (oi := { dst := some 83, op := Op.indexAddr 28 (Operand.tmp 81) (Operand.tmp 82), type := 0, pos := "law.go:252", after := #[{ on := 12, ground := Ground.data }, { on := 13, ground := Ground.data }, { on := 11, ground := Ground.guard }], guard := some (11, true) }) (v := ?vv48) rfl (by kernel_rfl) (by kernel_rfl) (by kernel_rfl) (fun _ _ _ h => h) (Or.inl ⟨by rfl, ?hyy48⟩) (by assumption) ?rest48
                        case hyy48 => ((intro w hSw); (try dsimp only at hSw); go_simp; (try with_reducible rfl))
                        try simp only [Act.put, List.setIfInBounds_toArray, List.set_cons_zero, List.set_cons_succ]
                        refine wpAnyH_take (i := 15) (oi := { dst := some 84, op := Op.fieldAddr 39 (Operand.tmp 83) 1, type := 0, pos := "law.go:252", after := #[{ on := 14, ground := Ground.data }, { on := 11, ground := Ground.guard }], guard := some (11, true) }) (v := ?vv49) rfl (by kernel_rfl) (by kernel_rfl) (by kernel_rfl) (fun _ _ _ h => h) (Or.inl ⟨by rfl, ?hyy49⟩) (by assumption) ?rest49
                        case hyy49 => ((intro w hSw); (try dsimp only at hSw); go_simp; (try with_reducible rfl))
                        try simp only [Act.put, List.setIfInBounds_toArray, List.set_cons_zero, List.set_cons_succ]
                        refine wpAnyH_take (i := 16) (oi := { dst := some 85, op := Op.load 34 (Operand.tmp 84), type := 34, pos := "law.go:252", after := #[{ on := 15, ground := Ground.data }, { on := 11, ground := Ground.guard }], guard := some (11, true) }) (v := ?vv50) rfl (by kernel_rfl) (by kernel_rfl) (by kernel_rfl) (fun _ _ _ h => h) (Or.inl ⟨by rfl, ?hyy50⟩) (by assumption) ?rest50
                        case hyy50 => ((intro w hSw); (try dsimp only at hSw); go_simp; (try with_reducible rfl))
                        try simp only [Act.put, List.setIfInBounds_toArray, List.set_cons_zero, List.set_cons_succ]
                        refine wpAnyH_take (i := 17) (oi := { dst := some 86, op := Op.move (Operand.tmp 8), type := 28, pos := "law.go:252", after := #[{ on := 11, ground := Ground.guard }], guard := some (11, true) }) (v := ?vv51) rfl (by kernel_rfl) (by kernel_rfl) (by kernel_rfl) (fun _ _ _ h => h) (Or.inl ⟨by rfl, ?hyy51⟩) (by assumption) ?rest51
                        case hyy51 => ((intro w hSw); (try dsimp only at hSw); go_simp; (try with_reducible rfl))
                        try simp only [Act.put, List.setIfInBounds_toArray, List.set_cons_zero, List.set_cons_succ]
                        refine wpAnyH_take (i := 18) (oi := { dst := some 87, op := Op.move (Operand.tmp 9), type := 3, pos := "law.go:252", after := #[{ on := 11, ground := Ground.guard }], guard := some (11, true) }) (v := ?vv52) rfl (by kernel_rfl) (by kernel_rfl) (by kernel_rfl) (fun _ _ _ h => h) (Or.inl ⟨by rfl, ?hyy52⟩) (by assumption) ?rest52
                        case hyy52 => ((intro w hSw); (try dsimp only at hSw); go_simp; (try with_reducible rfl))
                        try simp only [Act.put, List.setIfInBounds_toArray, List.set_cons_zero, List.set_cons_succ]
                        refine wpAnyH_take (i := 19) (oi := { dst := some 88, op := Op.indexAddr 28 (Operand.tmp 86) (Operand.tmp 87), type := 0, pos := "law.go:252", after := #[{ on := 17, ground := Ground.data }, { on := 18, ground := Ground.data }, { on := 11, ground := Ground.guard }], guard := some (11, true) }) (v := ?vv53) rfl (by kernel_rfl) (by kernel_rfl) (by kernel_rfl) (fun _ _ _ h => h) (Or.inl ⟨by rfl, ?hyy53⟩) (by assumption) ?rest53
                        case hyy53 => ((intro w hSw); (try dsimp only at hSw); go_simp; (try with_reducible rfl))
                        try simp only [Act.put, List.setIfInBounds_toArray, List.set_cons_zero, List.set_cons_succ]
                        refine wpAnyH_take (i := 20) (oi := { dst := some 89, op := Op.fieldAddr 39 (Operand.tmp 88) 1, type := 0, pos := "law.go:252", after := #[{ on := 19, ground := Ground.data }, { on := 11, ground := Ground.guard }], guard := some (11, true) }) (v := ?vv54) rfl (by kernel_rfl) (by kernel_rfl) (by kernel_rfl) (fun _ _ _ h => h) (Or.inl ⟨by rfl, ?hyy54⟩) (by assumption) ?rest54
                        case hyy54 => ((intro w hSw); (try dsimp only at hSw); go_simp; (try with_reducible rfl))
                        try simp only [Act.put, List.setIfInBounds_toArray, List.set_cons_zero, List.set_cons_succ]
                        refine wpAnyH_take (i := 21) (oi := { dst := some 90, op := Op.load 34 (Operand.tmp 89), type := 34, pos := "law.go:252", after := #[{ on := 20, ground := Ground.data }, { on := 11, ground := Ground.guard }], guard := some (11, true) }) (v := ?vv55) rfl (by kernel_rfl) (by kernel_rfl) (by kernel_rfl) (fun _ _ _ h => h) (Or.inl ⟨by rfl, ?hyy55⟩) (by assumption) ?rest55
                        case hyy55 => ((intro w hSw); (try dsimp only at hSw); go_simp; (try with_reducible rfl))
                        try simp only [Act.put, List.setIfInBounds_toArray, List.set_cons_zero, List.set_cons_succ]
                        refine wpAnyH_ready (rs := [22]) (by kernel_rfl) (by simp) ?_
                        refine AllReadyH.cons (o := { dst := some 91, op := Op.call { callee := Callee.value (Operand.func 13), args := #[Operand.tmp 85, Operand.tmp 90], argTypes := #[34, 34] }, type := 4, pos := "law.go:252", after := #[{ on := 16, ground := Ground.data }, { on := 21, ground := Ground.data }, { on := 11, ground := Ground.chain }, { on := 11, ground := Ground.guard }], guard := some (11, true) }) rfl (fun K hK => ?_) ?_
                        ·
                          go_simp
                          go_at_call 13
                          refine (HO2.out _).mono ?_
                          rintro e w7 ⟨rfl, hb7⟩
                          have hc7 : Below wr.heap.size wr w7 := hc6.trans (hb7.mono hc6.size)
                          clear hb7
                          go_wp2_with fail
                          refine hK.out _ _ (by with_reducible exact hS.out _ hc7) (fun hHeld => ?_)
                          clear hK K
                          try simp only [Act.put, List.setIfInBounds_toArray, List.set_cons_zero, List.set_cons_succ]
                          refine wpAnyH_take (i := 23) (oi := { dst := some 92, op := Op.pick (Operand.tmp 80) (Operand.tmp 91) (Operand.const (Value.bool false)), type := 4, pos := "law.go:252", after := #[{ on := 11, ground := Ground.data }, { on := 22, ground := Ground.data }, { on := 1, ground := Ground.guard }], guard := some (1, false) }) (v := ?vv56) rfl (by kernel_rfl) (by kernel_rfl) (by kernel_rfl) (fun _ _ _ h => h) (Or.inl ⟨by rfl, ?hyy56⟩) (by assumption) ?rest56
                          case hyy56 => ((intro w hSw); (try dsimp only at hSw); go_simp; (try with_reducible rfl))
                          try simp only [Act.put, List.setIfInBounds_toArray, List.set_cons_zero, List.set_cons_succ]
                          refine wpAnyH_take (i := 24) (oi := { dst := some 93, op := Op.pick (Operand.tmp 70) (Operand.const (Value.bool true)) (Operand.tmp 92), type := 4, pos := "law.go:252", after := #[{ on := 1, ground := Ground.data }, { on := 23, ground := Ground.data }], guard := none }) (v := ?vv57) rfl (by kernel_rfl) (by kernel_rfl) (by kernel_rfl) (fun _ _ _ h => h) (Or.inl ⟨by rfl, ?hyy57⟩) (by assumption) ?rest57
                          case hyy57 => ((intro w hSw); (try dsimp only at hSw); go_simp; (try with_reducible rfl))
                          try simp only [Act.put, List.setIfInBounds_toArray, List.set_cons_zero, List.set_cons_succ]
                          refine wpAnyH_take (i := 25) (oi := { dst := some 10, op := Op.assign (Operand.tmp 93), type := 4, pos := "law.go:252", after := #[{ on := 24, ground := Ground.data }, { on := 22, ground := Ground.chain }, { on := 0, ground := Ground.phase }, { on := 1, ground := Ground.phase }, { on := 2, ground := Ground.phase }, { on := 3, ground := Ground.phase }, { on := 4, ground := Ground.phase }, { on := 5, ground := Ground.phase }, { on := 6, ground := Ground.phase }, { on := 7, ground := Ground.phase }, { on := 8, ground := Ground.phase }, { on := 9, ground := Ground.phase }, { on := 10, ground := Ground.phase }, { on := 11, ground := Ground.phase }, { on := 12, ground := Ground.phase }, { on := 13, ground := Ground.phase }, { on := 14, ground := Ground.phase }, { on := 15, ground := Ground.phase }, { on := 16, ground := Ground.phase }, { on := 17, ground := Ground.phase }, { on := 18, ground := Ground.phase }, { on := 19, ground := Ground.phase }, { on := 20, ground := Ground.phase }, { on := 21, ground := Ground.phase }, { on := 22, ground := Ground.phase }, { on := 23, ground := Ground.phase }, { on := 24, ground := Ground.phase }], guard := none }) (v := ?vv58) rfl (by kernel_rfl) (by kernel_rfl) (by kernel_rfl) (fun _ _ _ h => h) (Or.inl ⟨by rfl, ?hyy58⟩) (by assumption) ?rest58
                          case hyy58 => ((intro w hSw); (try dsimp only at hSw); go_simp; (try with_reducible rfl))
                          try simp only [Act.put, List.setIfInBounds_toArray, List.set_cons_zero, List.set_cons_succ]
                          refine wpAnyH_done (by kernel_rfl) ?_ _
                          go_wp2
                          go_roundw
                          case rel => exact ⟨j + 1, HN.out, by go_num, by omega, HBR.out.trans (hc7.mono HBR.out.size)⟩
                          case measure => simp [intOf]; omega
                        exact AllReadyH.nil
                      exact AllReadyH.nil
                · have jU : ¬ (j : Int) < (q'.wait.length : Int) := by omega
                  have hjj : j = q'.wait.length := by omega
                  have hyes : why2 q' x j = true := by rw [hjj]; exact why_end HS2.out.inv (by rw [← HXK.out]; exact gr_mem hlt)
                  rw [hyes]
                  clear hjj hyes
                  go_wp2
                  go_roundw
                  case rel => exact ⟨k + 1, by go_num, by omega, HBR.out⟩
                  case measure => simp [intOf]; omega
        · have kU : ¬ (k : Int) < (q'.wait.length : Int) := by omega
          go_wp2
          go_roundw
          case rel => exact ⟨kk + 1, q', m', by go_num, by omega, HX4.out.below HBW.out, HS2.out, HQ2.out, by rw [HQ2.out]; exact HQ1.out⟩
          case measure => simp [intOf]; omega
    · have hz : decide (kk < os.length) = false ∨ (decide (kk < os.length) = true ∧ decide ((kk : Int) < 200) = false) := by
        by_cases h1 : kk < os.length
        · exact .inr ⟨decide_eq_true (by omega), decide_eq_false (by omega)⟩
        · exact .inl (decide_eq_false (by omega))
      have HE : Hid (NeRel W d (.int .i64 0) wr) := Lib.hid ⟨0, q, m, rfl, HX.out, HS.out.inv, by have h1 := HM1.out; have h2 := HM2.out; omega⟩
      clear hgo HX HS HM1 HM2
      obtain ⟨wo, hwo⟩ : ∃ wo : World, wo = wr := ⟨_, rfl⟩
      rw [← hwo] at HE ⊢
      clear hwo
      rcases hz with z1 | ⟨z1, z2⟩
      all_goals
        go_wp2
        go_loopw [13] (NeRel W d) (fun i _ => 300 - (intOf i).toNat)
        case atStart => exact HE.out
        case round =>
          clear HE
          obtain ⟨k, q, m, rfl, hx, hi, hn⟩ := hrel
          have HX2 := Lib.hid hx
          have HI := Lib.hid hi
          clear hx hi
          have k1 : (k : Int) < 300 := by omega
          have k0 : (0 : Int) ≤ (k : Int) := by omega
          have HH := Lib.hid (held_any HX2.out.tb)
          go_wp2_with fail
          refine HH.out.mono ?_
          clear HH
          rintro e w3 ⟨Ah, ch, rfl, ho, hb, hf⟩
          have HX3 := Lib.hid (HX2.out.below hb)
          have HR3 := Lib.hid ho
          have HX3a := Lib.hid (HX2.out.fresh (T' := ob Ah) hb (fun k hk => ⟨hf k hk, own_lt ho k hk⟩))
          have HLO : Hid (∀ k ∈ ob Ah, k ∈ ob Ah ++ [] ∧ W.heap.size ≤ k) := Lib.hid (fun k hk => ⟨List.mem_append.2 (.inl hk), Nat.le_trans HX2.out.bel.size (hf k hk)⟩)
          clear ho hb hf HX2 HX3
          have HH := Lib.hid (waiting_any HX3a.out.tb)
          go_wp2_with fail
          refine HH.out.mono ?_
          clear HH
          rintro e w4 ⟨Aw, cw, rfl, ho, hb, hf⟩
          have HX4 := Lib.hid (HX3a.out.below hb)
          have HRH := Lib.hid (own_below HR3.out hb)
          have HRW := Lib.hid (Reads.of_own ho)
          clear ho hb hf HR3
          obtain ⟨N, hN⟩ : ∃ N, N = q.held.length + q.wait.length := ⟨_, rfl⟩
          have HN := Lib.hid hN
          have hN40 : N ≤ 40 := by omega
          have hlh : Hid (q.held.length ≤ 40 ∧ q.wait.length ≤ 40) := Lib.hid (by omega)
          clear hN
          go_upto_region 27 with (at_builtin; refine wpList_app rfl (.tmp 101) (.tmp 103) 28 28 rfl 39 i0 _ 4 40 Try.underlying28 hi0 hz0 hy0 hx0 rfl (by omega) Ah q.held.length ch (rc lkR q.held) rfl HRH.out _ q.wait.length (rc lkR q.wait) rfl (Src.ofReads Try.underlying28 HRW.out (rc_one _)) (by simp only [maxLen]; have := hlh.out; omega) (by have := hlh.out; omega) ?_; intro A5 c5 w5 ho5 hk5 hf5; rw [← rc_app] at ho5)
          have HX5 := Lib.hid ((HX4.out.kept hk5 HLO.out).less (T' := []) (by simp))
          rw [← HN.out] at ho5
          rw [← HN.out]
          have HA := Lib.hid ho5
          clear ho5 hk5 hf5 HX4 HX3a HRH HRW HLO
          by_cases h0 : N = 0
          · have hz := none_left HI.out.mid (by rw [List.length_append, ← HN.out]; exact h0)
            have HZ1 := Lib.hid hz.1
            have HZ2 := Lib.hid hz.2.1
            have HZ3 := Lib.hid hz.2.2
            rw [h0]
            clear hz h0 hN40 HN HA
            have HH := Lib.hid (prepared_any HX5.out.tb)
            rw [HZ1.out] at HH
            go_wp2_with fail
            refine HH.out.mono ?_
            clear HH
            rintro e w6 ⟨A6, c6, rfl, _, hb, _⟩
            have HX6 := Lib.hid (HX5.out.below hb)
            clear hb HX5
            have HH := Lib.hid (wounded_any HX6.out.tb)
            rw [HZ2.out] at HH
            go_wp2_with fail
            refine HH.out.mono ?_
            clear HH
            rintro e w7 ⟨A7, c7, rfl, _, hb, _⟩
            have HX7 := Lib.hid (HX6.out.below hb)
            clear hb HX6
            have HH := Lib.hid (edges_any HX7.out.tb)
            unfold EdgesEnds at HH
            rw [HZ3.out] at HH
            go_wp2_with fail
            refine HH.out.mono ?_
            clear HH
            rintro e w8 ⟨A8, c8, rfl, _, _, hb⟩
            have HX8 := Lib.hid (HX7.out.below hb)
            clear hb HX7
            go_wp2
            go_ret
            exact ⟨rfl, HX8.out.bel⟩
          · have z0 : ((N : Int) == 0) = false := by simpa using h0
            have z1 : decide ((N : Int) = 0) = false := decide_eq_false (by omega)
            by_cases hp : k < ps.length
            · have kU : (k : Int) < (ps.length : Int) := by omega
              obtain ⟨ad, rfl, _, p0⟩ := (HP.out.below HX5.out.bel).numbI hp
              obtain ⟨v, hv⟩ : ∃ v, v = ps.getD k 0 := ⟨_, rfl⟩
              rw [← hv] at p0
              obtain ⟨kp, hkp, hpk⟩ := pick_lt v (N := N) (by omega) hN40
              have nL : (0 : Int) ≤ (kp : Int) := by omega
              clear hv
              obtain ⟨g, off, rfl, _, a0, a1, a2, a3⟩ := rdL (Reads.of_own HA.out) (k := kp) (by rw [List.length_append, ← HN.out]; omega)
              obtain ⟨x, hx⟩ : ∃ x, x = gr lkR (q.held ++ q.wait) kp := ⟨_, rfl⟩
              have HM : Hid (x ∈ q.held ++ q.wait) := Lib.hid (by rw [hx]; exact gr_mem (by rw [List.length_append, ← HN.out]; omega))
              rw [← hx] at a0 a1 a2 a3
              have HC := Lib.hid (end_any HX5.out.tb x.id)
              unfold idV at HC
              have nU : (kp : Int) < (N : Int) := by omega
              clear hx
              go_wp2_with fail
              refine HC.out.mono ?_
              clear HC
              rintro e w6 ⟨A6, c6, rfl, _, _, m6, ht, hmv, _⟩
              have HX6 := Lib.hid (HX5.out.step ht hmv)
              have HD6 := Lib.hid (end_drops HI.out.mid.good HM.out)
              clear ht hmv a0 a1 a2 a3
              go_wp2
              go_roundw
              case rel => exact ⟨k + 1, _, m6, by go_num, HX6.out, end_inv HI.out _, by have := HD6.out; have := HN.out; omega⟩
              case measure => simp [intOf]; omega
            · have kU : ¬ (k : Int) < (ps.length : Int) := by omega
              obtain ⟨g, off, rfl, _, a0, a1, a2, a3⟩ := rdL (Reads.of_own HA.out) (k := 0) (by rw [List.length_append, ← HN.out]; omega)
              obtain ⟨x, hx⟩ : ∃ x, x = gr lkR (q.held ++ q.wait) 0 := ⟨_, rfl⟩
              have HM : Hid (x ∈ q.held ++ q.wait) := Lib.hid (by rw [hx]; exact gr_mem (by rw [List.length_append, ← HN.out]; omega))
              rw [← hx] at a0 a1 a2 a3
              have HC := Lib.hid (end_any HX5.out.tb x.id)
              unfold idV at HC
              have nU : (0 : Int) < (N : Int) := by omega
              clear hx
              go_wp2_with fail
              refine HC.out.mono ?_
              clear HC
              rintro e w6 ⟨A6, c6, rfl, _, _, m6, ht, hmv, _⟩
              have HX6 := Lib.hid (HX5.out.step ht hmv)
              have HD6 := Lib.hid (end_drops HI.out.mid.good HM.out)
              clear ht hmv a0 a1 a2 a3
              go_wp2
              go_roundw
              case rel => exact ⟨k + 1, _, m6, by go_num, HX6.out, end_inv HI.out _, by have := HD6.out; have := HN.out; omega⟩
              case measure => simp [intOf]; omega
end Go.Proofs.Ytpidpdbjjdkhoaa
