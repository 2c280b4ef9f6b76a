/- Locks, Restore, the reference: ordered, rising, Right, known. -/
import Derived.Test.YtpidpdbjjdkhoaaGreatGyC
import Derived.Test.YtpidpdbjjdkhoaaGreatGzE
namespace Go.Proofs.YtpidpdbjjdkhoaaGreat
open Go.RowKit
set_option linter.unusedSimpArgs false
set_option linter.unusedVariables false
attribute [local go_sem ↓] Go.wp_at_zero Go.wp_at_succ

def ordQ (l : List Lk) (k : Nat) (x : Lk) : Bool := (soundE x != 0) || (decide (0 < k) && !ah (gr lkR l (k - 1)) x)
def risQ (l : List Idn) (k : Nat) (x : Idn) : Bool := !idOk x || (decide (0 < k) && !ol (gr idR l (k - 1)) x)
def rightB (q : Tb) (e : Edg) : Bool := ol e.h e.w || (hasI q.prep e.h || hasI q.hurt e.h)
def knownB (q : Tb) (i : Idn) : Bool := (q.held.any fun y => eqI y.id i) || (wantsL q i).isSome
set_option maxHeartbeats 8000000 in
set_option maxRecDepth 100000 in
theorem ordered_any (A : Option Addr) (c : Nat) (l : List Lk) (w : World) (hr : Reads w w.heap.size 4 A l.length (rc lkR l)) (hl : l.length ≤ 8796093022208) :
    Calls Tryz.prog 74 #[.slice A l.length c] w (BoolIs (nb lkR l (ordQ l)) w) := by
  have HR := Lib.hid hr
  clear hr
  go_enter Tryz.func74, Tryz.ntmps74
  go_wp2
  go_loopw [3] (FsRel lkR l (ordQ l) (fun _ wr => Below w.heap.size w wr)) (fun i _ => l.length - (intOf i).toNat)
  case atStart => exact ⟨0, rfl, Nat.zero_le _, fun j hj => by omega, Below.refl _ _⟩
  case round =>
    obtain ⟨k, rfl, hk, hno, hb⟩ := hrel
    have HNO := Lib.hid hno
    have HBR := Lib.hid hb
    clear hno hb
    by_cases hlt : k < l.length
    · 
      obtain ⟨b, off, hA, _, a0, a1, a2, a3⟩ := rdL HR.out hlt
      subst hA
      obtain ⟨x, hx⟩ : ∃ x, x = gr lkR l k := ⟨_, rfl⟩
      have HX := Lib.hid hx
      clear hx a0 a1 a2 a3
      have kL : (0 : Int) ≤ (k : Int) := by omega
      have kU : (k : Int) < (l.length : Int) := by omega
      have hD : Below wr.heap.size wr wr.drew := below_drewN (Below.refl _ _) 1
      have HLK := Lib.hid (fun y w => rlock_any y w)
      unfold idV IntIs at HLK
      by_cases hs : soundE x = 0 → False
      ·
        have HRR : Hid (nb lkR l (ordQ l) = false) := Lib.hid (nb_no hlt (by rw [← HX.out]; unfold ordQ; have h := hs; cases hq : (soundE x != 0) with | true => rfl | false => exact absurd (by simpa using hq) h))
        obtain ⟨q, e1⟩ : ∃ q, soundE x = q := ⟨_, rfl⟩
        have z1 : ¬ q = 0 := fun h => hs (e1.trans h)
        have z1a : (q != 0) = true := by simp [z1]
        have z1b : (q == 0) = false := by simp [z1]
        have hS : Hid (∀ w', Below wr.heap.size wr w' → (w'.cell? ⟨b, off + k * 4, none⟩ = some (.string x.key) ∧ w'.cell? ⟨b, off + k * 4 + 1, none⟩ = some (.int .i64 x.id.n) ∧ w'.cell? ⟨b, off + k * 4 + 2, none⟩ = some (.int .i64 x.id.c) ∧ w'.cell? ⟨b, off + k * 4 + 3, none⟩ = some (.int .i64 x.mode))) := Lib.hid (fun w' hb => by
          obtain ⟨b1, off1, hA1, _, c0, c1, c2, c3⟩ := rdL (HR.out.below (HBR.out.trans (hb.mono HBR.out.size))) hlt
          injection hA1 with hA1
          injection hA1 with e1 e2
          subst e1 e2
          rw [← HX.out] at c0 c1 c2 c3
          exact ⟨c0, c1, c2, c3⟩)
        clear hs
        go_wp2_with fail
        refine wp_region_heldH (by kernel_rfl) hS (hD) (fun hHeld => ?_)
        refine takes [0, 1, 2, 3, 4, 5, 6, 7, 8, 9, 10, 11, 12, 13, 14] 19 (by kernel_rfl) (by assumption) ?_
        iterate 15 (refine tkY rfl (fun _ _ _ h => h) rfl (by ((intro w hSw); (try dsimp only at hSw); go_simp; (try with_reducible rfl))) ?_; try simp only [Act.put, List.setIfInBounds_toArray, List.set_cons_zero, List.set_cons_succ])
        refine tkE ?_
        refine wpAnyH_ready (rs := [15]) (by kernel_rfl) (by simp) ?_
        refine readyC rfl (fun K hK => ?_) ?_
        ·
          go_simp
          go_at_call 87
          refine (HLK.out x _).mono ?_
          rintro e w3 ⟨he, hb_⟩
          rw [e1] at he
          subst he
          have HB_w3 := Lib.hid (hD.trans (hb_.mono hD.size))
          clear hb_
          go_wp2_with fail
          refine hK.out _ _ (by with_reducible exact hS.out _ HB_w3.out) (fun hHeld => ?_)
          clear hK K
          try simp only [Act.put, List.setIfInBounds_toArray, List.set_cons_zero, List.set_cons_succ]
          refine takes [16, 17, 18, 19, 20, 21, 22, 23, 24, 25, 26, 27, 28, 29, 30, 31, 32, 33] 0 (by kernel_rfl) (by assumption) ?_
          iterate 2 (refine tkY rfl (fun _ _ _ h => h) rfl (by ((intro w hSw); (try dsimp only at hSw); go_simp; (try with_reducible rfl))) ?_; try simp only [Act.put, List.setIfInBounds_toArray, List.set_cons_zero, List.set_cons_succ])
          iterate 15 (refine tkN rfl (fun _ _ _ h => h) rfl ?_; try simp only [Act.put, List.setIfInBounds_toArray, List.set_cons_zero, List.set_cons_succ])
          refine tkY rfl (fun _ _ _ h => h) rfl (by ((intro w hSw); (try dsimp only at hSw); go_simp; (try with_reducible rfl))) ?_; try simp only [Act.put, List.setIfInBounds_toArray, List.set_cons_zero, List.set_cons_succ]
          refine tkE ?_
          refine wpAnyH_done (by kernel_rfl) ?_ _
          have HBE := Lib.hid (HBR.out.trans (HB_w3.out.mono HBR.out.size))
          go_wp2
          go_ret
          exact ⟨ret_bool HRR.out.symm, HBE.out⟩
        exact AllReadyH.nil
      ·
        have e1 : soundE x = 0 := Classical.not_not.1 hs
        by_cases h0 : 0 < k
        ·
          obtain ⟨j, rfl⟩ : ∃ j, k = j + 1 := ⟨k - 1, by omega⟩
          obtain ⟨y, hy⟩ : ∃ y, y = gr lkR l j := ⟨_, rfl⟩
          have HY := Lib.hid hy
          clear hy
          have z2 : (j : Int) + 1 < (l.length : Int) := by omega
          have z3 : (0 : Int) ≤ (j : Int) + 1 := by omega
          have z8 : (0 : Int) < (j : Int) + 1 := by omega
          have z9 : decide ((0 : Int) < (j : Int) + 1) = true := decide_eq_true (by omega)
          have z4 : IntKind.i64.wrap (j : Int) = (j : Int) := IntWalk.i64_in _ (by omega)
          have z5 : ((j : Int) + 1).toNat = j + 1 := by omega
          have z6 : (0 : Int) ≤ (j : Int) := by omega
          have z7 : (j : Int) < (l.length : Int) := by omega
          have hS : Hid (∀ w', Below wr.heap.size wr w' → (w'.cell? ⟨b, off + j * 4, none⟩ = some (.string y.key) ∧ w'.cell? ⟨b, off + j * 4 + 1, none⟩ = some (.int .i64 y.id.n) ∧ w'.cell? ⟨b, off + j * 4 + 2, none⟩ = some (.int .i64 y.id.c) ∧ w'.cell? ⟨b, off + j * 4 + 3, none⟩ = some (.int .i64 y.mode) ∧ w'.cell? ⟨b, off + (j + 1) * 4, none⟩ = some (.string x.key) ∧ w'.cell? ⟨b, off + (j + 1) * 4 + 1, none⟩ = some (.int .i64 x.id.n) ∧ w'.cell? ⟨b, off + (j + 1) * 4 + 2, none⟩ = some (.int .i64 x.id.c) ∧ w'.cell? ⟨b, off + (j + 1) * 4 + 3, none⟩ = some (.int .i64 x.mode))) := Lib.hid (fun w' hb => by
            obtain ⟨b1, off1, hA1, _, c0, c1, c2, c3⟩ := rdL (HR.out.below (HBR.out.trans (hb.mono HBR.out.size))) (show j < l.length by omega)
            obtain ⟨b2, off2, hA2, _, d0, d1, d2, d3⟩ := rdL (HR.out.below (HBR.out.trans (hb.mono HBR.out.size))) hlt
            injection hA1 with hA1
            injection hA1 with e1 e2
            injection hA2 with hA2
            injection hA2 with e3 e4
            subst e1 e2 e3 e4
            rw [← HY.out] at c0 c1 c2 c3
            rw [← HX.out] at d0 d1 d2 d3
            exact ⟨c0, c1, c2, c3, d0, d1, d2, d3⟩)
          clear kL kU
          have HAH := Lib.hid (fun y x w => rahead_any y x w)
          unfold lkV BoolIs at HAH
          cases e2 : ah y x with
          | true =>
            have HP : Hid (ordQ l (j + 1) (gr lkR l (j + 1)) = false) := Lib.hid (by rw [← HX.out]; unfold ordQ; rw [show j + 1 - 1 = j by omega, ← HY.out, e2]; rw [e1]; simp)
            clear hs h0
            go_wp2_with fail
            refine wp_region_heldH (by kernel_rfl) hS (hD) (fun hHeld => ?_)
            refine takes [0, 1, 2, 3, 4, 5, 6, 7, 8, 9, 10, 11, 12, 13, 14] 19 (by kernel_rfl) (by assumption) ?_
            iterate 15 (refine tkY rfl (fun _ _ _ h => h) rfl (by ((intro w hSw); (try dsimp only at hSw); go_simp; (try with_reducible rfl))) ?_; try simp only [Act.put, List.setIfInBounds_toArray, List.set_cons_zero, List.set_cons_succ])
            refine tkE ?_
            refine wpAnyH_ready (rs := [15]) (by kernel_rfl) (by simp) ?_
            refine readyC rfl (fun K hK => ?_) ?_
            ·
              go_simp
              go_at_call 87
              refine (HLK.out x _).mono ?_
              rintro e w3 ⟨he, hb_⟩
              rw [e1] at he
              subst he
              have HB_w3 := Lib.hid (hD.trans (hb_.mono hD.size))
              clear hb_
              go_wp2_with fail
              refine hK.out _ _ (by with_reducible exact hS.out _ HB_w3.out) (fun hHeld => ?_)
              clear hK K
              try simp only [Act.put, List.setIfInBounds_toArray, List.set_cons_zero, List.set_cons_succ]
              refine takes [16, 17, 18, 19, 20, 21, 22, 23, 24, 25, 26, 27, 28, 29] 4 (by kernel_rfl) (by assumption) ?_
              iterate 14 (refine tkY rfl (fun _ _ _ h => h) rfl (by ((intro w hSw); (try dsimp only at hSw); go_simp; (try with_reducible rfl))) ?_; try simp only [Act.put, List.setIfInBounds_toArray, List.set_cons_zero, List.set_cons_succ])
              refine tkE ?_
              refine wpAnyH_ready (rs := [30]) (by kernel_rfl) (by simp) ?_
              refine readyC rfl (fun K hK => ?_) ?_
              ·
                go_simp
                go_at_call 90
                refine (HAH.out y x _).mono ?_
                rintro e w4 ⟨he, hb_⟩
                rw [e2] at he
                subst he
                have HB_w4 := Lib.hid (HB_w3.out.trans (hb_.mono HB_w3.out.size))
                clear hb_
                go_wp2_with fail
                refine hK.out _ _ (by with_reducible exact hS.out _ HB_w4.out) (fun hHeld => ?_)
                clear hK K
                try simp only [Act.put, List.setIfInBounds_toArray, List.set_cons_zero, List.set_cons_succ]
                refine takes [31, 32, 33] 0 (by kernel_rfl) (by assumption) ?_
                iterate 3 (refine tkY rfl (fun _ _ _ h => h) rfl (by ((intro w hSw); (try dsimp only at hSw); go_simp; (try with_reducible rfl))) ?_; try simp only [Act.put, List.setIfInBounds_toArray, List.set_cons_zero, List.set_cons_succ])
                refine tkE ?_
                refine wpAnyH_done (by kernel_rfl) ?_ _
                have HBE := Lib.hid (HBR.out.trans (HB_w4.out.mono HBR.out.size))
                go_wp2
                go_roundw
                case rel => exact ⟨j + 1 + 1, by go_num, by omega, fs_on HNO.out HP.out, HBE.out⟩
                case measure => simp [intOf]; omega
              exact AllReadyH.nil
            exact AllReadyH.nil
          | false =>
            have HRR : Hid (nb lkR l (ordQ l) = false) := Lib.hid (nb_no hlt (by rw [← HX.out]; unfold ordQ; rw [show j + 1 - 1 = j by omega, ← HY.out, e2]; simp))
            clear hs h0
            go_wp2_with fail
            refine wp_region_heldH (by kernel_rfl) hS (hD) (fun hHeld => ?_)
            refine takes [0, 1, 2, 3, 4, 5, 6, 7, 8, 9, 10, 11, 12, 13, 14] 19 (by kernel_rfl) (by assumption) ?_
            iterate 15 (refine tkY rfl (fun _ _ _ h => h) rfl (by ((intro w hSw); (try dsimp only at hSw); go_simp; (try with_reducible rfl))) ?_; try simp only [Act.put, List.setIfInBounds_toArray, List.set_cons_zero, List.set_cons_succ])
            refine tkE ?_
            refine wpAnyH_ready (rs := [15]) (by kernel_rfl) (by simp) ?_
            refine readyC rfl (fun K hK => ?_) ?_
            ·
              go_simp
              go_at_call 87
              refine (HLK.out x _).mono ?_
              rintro e w3 ⟨he, hb_⟩
              rw [e1] at he
              subst he
              have HB_w3 := Lib.hid (hD.trans (hb_.mono hD.size))
              clear hb_
              go_wp2_with fail
              refine hK.out _ _ (by with_reducible exact hS.out _ HB_w3.out) (fun hHeld => ?_)
              clear hK K
              try simp only [Act.put, List.setIfInBounds_toArray, List.set_cons_zero, List.set_cons_succ]
              refine takes [16, 17, 18, 19, 20, 21, 22, 23, 24, 25, 26, 27, 28, 29] 4 (by kernel_rfl) (by assumption) ?_
              iterate 14 (refine tkY rfl (fun _ _ _ h => h) rfl (by ((intro w hSw); (try dsimp only at hSw); go_simp; (try with_reducible rfl))) ?_; try simp only [Act.put, List.setIfInBounds_toArray, List.set_cons_zero, List.set_cons_succ])
              refine tkE ?_
              refine wpAnyH_ready (rs := [30]) (by kernel_rfl) (by simp) ?_
              refine readyC rfl (fun K hK => ?_) ?_
              ·
                go_simp
                go_at_call 90
                refine (HAH.out y x _).mono ?_
                rintro e w4 ⟨he, hb_⟩
                rw [e2] at he
                subst he
                have HB_w4 := Lib.hid (HB_w3.out.trans (hb_.mono HB_w3.out.size))
                clear hb_
                go_wp2_with fail
                refine hK.out _ _ (by with_reducible exact hS.out _ HB_w4.out) (fun hHeld => ?_)
                clear hK K
                try simp only [Act.put, List.setIfInBounds_toArray, List.set_cons_zero, List.set_cons_succ]
                refine takes [31, 32, 33] 0 (by kernel_rfl) (by assumption) ?_
                iterate 3 (refine tkY rfl (fun _ _ _ h => h) rfl (by ((intro w hSw); (try dsimp only at hSw); go_simp; (try with_reducible rfl))) ?_; try simp only [Act.put, List.setIfInBounds_toArray, List.set_cons_zero, List.set_cons_succ])
                refine tkE ?_
                refine wpAnyH_done (by kernel_rfl) ?_ _
                have HBE := Lib.hid (HBR.out.trans (HB_w4.out.mono HBR.out.size))
                go_wp2
                go_ret
                exact ⟨ret_bool HRR.out.symm, HBE.out⟩
              exact AllReadyH.nil
            exact AllReadyH.nil
        ·
          have HP : Hid (ordQ l k (gr lkR l k) = false) := Lib.hid (by rw [← HX.out]; unfold ordQ; rw [decide_eq_false h0]; rw [e1]; rfl)
          have z8 : ¬ (0 : Int) < (k : Int) := by omega
          have z9 : decide ((0 : Int) < (k : Int)) = false := decide_eq_false z8
          have z8n : ¬ 0 < k := h0
          have z9n : decide (0 < k) = false := decide_eq_false h0
          have hS : Hid (∀ w', Below wr.heap.size wr w' → (w'.cell? ⟨b, off + k * 4, none⟩ = some (.string x.key) ∧ w'.cell? ⟨b, off + k * 4 + 1, none⟩ = some (.int .i64 x.id.n) ∧ w'.cell? ⟨b, off + k * 4 + 2, none⟩ = some (.int .i64 x.id.c) ∧ w'.cell? ⟨b, off + k * 4 + 3, none⟩ = some (.int .i64 x.mode))) := Lib.hid (fun w' hb => by
            obtain ⟨b1, off1, hA1, _, c0, c1, c2, c3⟩ := rdL (HR.out.below (HBR.out.trans (hb.mono HBR.out.size))) hlt
            injection hA1 with hA1
            injection hA1 with e1 e2
            subst e1 e2
            rw [← HX.out] at c0 c1 c2 c3
            exact ⟨c0, c1, c2, c3⟩)
          clear hs
          go_wp2_with fail
          refine wp_region_heldH (by kernel_rfl) hS (hD) (fun hHeld => ?_)
          refine takes [0, 1, 2, 3, 4, 5, 6, 7, 8, 9, 10, 11, 12, 13, 14] 19 (by kernel_rfl) (by assumption) ?_
          iterate 15 (refine tkY rfl (fun _ _ _ h => h) rfl (by ((intro w hSw); (try dsimp only at hSw); go_simp; (try with_reducible rfl))) ?_; try simp only [Act.put, List.setIfInBounds_toArray, List.set_cons_zero, List.set_cons_succ])
          refine tkE ?_
          refine wpAnyH_ready (rs := [15]) (by kernel_rfl) (by simp) ?_
          refine readyC rfl (fun K hK => ?_) ?_
          ·
            go_simp
            go_at_call 87
            refine (HLK.out x _).mono ?_
            rintro e w3 ⟨he, hb_⟩
            rw [e1] at he
            subst he
            have HB_w3 := Lib.hid (hD.trans (hb_.mono hD.size))
            clear hb_
            go_wp2_with fail
            refine hK.out _ _ (by with_reducible exact hS.out _ HB_w3.out) (fun hHeld => ?_)
            clear hK K
            try simp only [Act.put, List.setIfInBounds_toArray, List.set_cons_zero, List.set_cons_succ]
            refine takes [16, 17, 18, 19, 20, 21, 22, 23, 24, 25, 26, 27, 28, 29, 30, 31, 32, 33] 0 (by kernel_rfl) (by assumption) ?_
            iterate 5 (refine tkY rfl (fun _ _ _ h => h) rfl (by ((intro w hSw); (try dsimp only at hSw); go_simp; (try with_reducible rfl))) ?_; try simp only [Act.put, List.setIfInBounds_toArray, List.set_cons_zero, List.set_cons_succ])
            iterate 11 (refine tkN rfl (fun _ _ _ h => h) rfl ?_; try simp only [Act.put, List.setIfInBounds_toArray, List.set_cons_zero, List.set_cons_succ])
            iterate 2 (refine tkY rfl (fun _ _ _ h => h) rfl (by ((intro w hSw); (try dsimp only at hSw); go_simp; (try with_reducible rfl))) ?_; try simp only [Act.put, List.setIfInBounds_toArray, List.set_cons_zero, List.set_cons_succ])
            refine tkE ?_
            refine wpAnyH_done (by kernel_rfl) ?_ _
            have HBE := Lib.hid (HBR.out.trans (HB_w3.out.mono HBR.out.size))
            go_wp2
            go_roundw
            case rel => exact ⟨k + 1, by go_num, by omega, fs_on HNO.out HP.out, HBE.out⟩
            case measure => simp [intOf]; omega
          exact AllReadyH.nil
    · have kU : ¬ (k : Int) < (l.length : Int) := by omega
      go_wp2
      go_ret
      exact ⟨ret_bool (nb_yes (k := k) (by omega) HNO.out).symm, HBR.out⟩
set_option maxHeartbeats 8000000 in
set_option maxRecDepth 100000 in
theorem rising_any (A : Option Addr) (c : Nat) (l : List Idn) (w : World) (hr : Reads w w.heap.size 2 A l.length (rc idR l)) (hl : l.length ≤ 8796093022208) :
    Calls Tryz.prog 75 #[.slice A l.length c] w (BoolIs (nb idR l (risQ l)) w) := by
  have HR := Lib.hid hr
  clear hr
  go_enter Tryz.func75, Tryz.ntmps75
  go_wp2
  go_loopw [3] (FsRel idR l (risQ l) (fun _ wr => Below w.heap.size w wr)) (fun i _ => l.length - (intOf i).toNat)
  case atStart => exact ⟨0, rfl, Nat.zero_le _, fun j hj => by omega, Below.refl _ _⟩
  case round =>
    obtain ⟨k, rfl, hk, hno, hb⟩ := hrel
    have HNO := Lib.hid hno
    have HBR := Lib.hid hb
    clear hno hb
    by_cases hlt : k < l.length
    · 
      obtain ⟨b, off, hA, _, a0, a1⟩ := rdI HR.out hlt
      subst hA
      obtain ⟨x, hx⟩ : ∃ x, x = gr idR l k := ⟨_, rfl⟩
      have HX := Lib.hid hx
      clear hx a0 a1
      have kL : (0 : Int) ≤ (k : Int) := by omega
      have kU : (k : Int) < (l.length : Int) := by omega
      have hD : Below wr.heap.size wr wr.drew := below_drewN (Below.refl _ _) 1
      have HLK := Lib.hid (fun y w => rgood_any y w)
      unfold idV BoolIs at HLK
      by_cases hs : idOk x = true → False
      ·
        have HRR : Hid (nb idR l (risQ l) = false) := Lib.hid (nb_no hlt (by rw [← HX.out]; unfold risQ; have h := hs; cases hq : idOk x with | false => rfl | true => exact absurd hq h))
        have e1 : idOk x = false := by cases hq : idOk x with | false => rfl | true => exact absurd hq hs
        have hS : Hid (∀ w', Below wr.heap.size wr w' → (w'.cell? ⟨b, off + k * 2, none⟩ = some (.int .i64 x.n) ∧ w'.cell? ⟨b, off + k * 2 + 1, none⟩ = some (.int .i64 x.c))) := Lib.hid (fun w' hb => by
          obtain ⟨b1, off1, hA1, _, c0, c1⟩ := rdI (HR.out.below (HBR.out.trans (hb.mono HBR.out.size))) hlt
          injection hA1 with hA1
          injection hA1 with e1 e2
          subst e1 e2
          rw [← HX.out] at c0 c1
          exact ⟨c0, c1⟩)
        clear hs
        go_wp2_with fail
        refine wp_region_heldH (by kernel_rfl) hS (hD) (fun hHeld => ?_)
        refine takes [0, 1, 2, 3] 19 (by kernel_rfl) (by assumption) ?_
        iterate 4 (refine tkY rfl (fun _ _ _ h => h) rfl (by ((intro w hSw); (try dsimp only at hSw); go_simp; (try with_reducible rfl))) ?_; try simp only [Act.put, List.setIfInBounds_toArray, List.set_cons_zero, List.set_cons_succ])
        refine tkE ?_
        refine wpAnyH_ready (rs := [4]) (by kernel_rfl) (by simp) ?_
        refine readyC rfl (fun K hK => ?_) ?_
        ·
          go_simp
          go_at_call 100
          refine (HLK.out x _).mono ?_
          rintro e w3 ⟨he, hb_⟩
          rw [e1] at he
          subst he
          have HB_w3 := Lib.hid (hD.trans (hb_.mono hD.size))
          clear hb_
          go_wp2_with fail
          refine hK.out _ _ (by with_reducible exact hS.out _ HB_w3.out) (fun hHeld => ?_)
          clear hK K
          try simp only [Act.put, List.setIfInBounds_toArray, List.set_cons_zero, List.set_cons_succ]
          refine takes [5, 6, 7, 8, 9, 10, 11, 12, 13, 14, 15, 16, 17, 18, 19, 20, 21, 22] 0 (by kernel_rfl) (by assumption) ?_
          iterate 2 (refine tkY rfl (fun _ _ _ h => h) rfl (by ((intro w hSw); (try dsimp only at hSw); go_simp; (try with_reducible rfl))) ?_; try simp only [Act.put, List.setIfInBounds_toArray, List.set_cons_zero, List.set_cons_succ])
          iterate 15 (refine tkN rfl (fun _ _ _ h => h) rfl ?_; try simp only [Act.put, List.setIfInBounds_toArray, List.set_cons_zero, List.set_cons_succ])
          refine tkY rfl (fun _ _ _ h => h) rfl (by ((intro w hSw); (try dsimp only at hSw); go_simp; (try with_reducible rfl))) ?_; try simp only [Act.put, List.setIfInBounds_toArray, List.set_cons_zero, List.set_cons_succ]
          refine tkE ?_
          refine wpAnyH_done (by kernel_rfl) ?_ _
          have HBE := Lib.hid (HBR.out.trans (HB_w3.out.mono HBR.out.size))
          go_wp2
          go_ret
          exact ⟨ret_bool HRR.out.symm, HBE.out⟩
        exact AllReadyH.nil
      ·
        have e1 : idOk x = true := Classical.not_not.1 hs
        by_cases h0 : 0 < k
        ·
          obtain ⟨j, rfl⟩ : ∃ j, k = j + 1 := ⟨k - 1, by omega⟩
          obtain ⟨y, hy⟩ : ∃ y, y = gr idR l j := ⟨_, rfl⟩
          have HY := Lib.hid hy
          clear hy
          have z2 : (j : Int) + 1 < (l.length : Int) := by omega
          have z3 : (0 : Int) ≤ (j : Int) + 1 := by omega
          have z8 : (0 : Int) < (j : Int) + 1 := by omega
          have z9 : decide ((0 : Int) < (j : Int) + 1) = true := decide_eq_true (by omega)
          have z4 : IntKind.i64.wrap (j : Int) = (j : Int) := IntWalk.i64_in _ (by omega)
          have z5 : ((j : Int) + 1).toNat = j + 1 := by omega
          have z6 : (0 : Int) ≤ (j : Int) := by omega
          have z7 : (j : Int) < (l.length : Int) := by omega
          have hS : Hid (∀ w', Below wr.heap.size wr w' → (w'.cell? ⟨b, off + j * 2, none⟩ = some (.int .i64 y.n) ∧ w'.cell? ⟨b, off + j * 2 + 1, none⟩ = some (.int .i64 y.c) ∧ w'.cell? ⟨b, off + (j + 1) * 2, none⟩ = some (.int .i64 x.n) ∧ w'.cell? ⟨b, off + (j + 1) * 2 + 1, none⟩ = some (.int .i64 x.c))) := Lib.hid (fun w' hb => by
            obtain ⟨b1, off1, hA1, _, c0, c1⟩ := rdI (HR.out.below (HBR.out.trans (hb.mono HBR.out.size))) (show j < l.length by omega)
            obtain ⟨b2, off2, hA2, _, d0, d1⟩ := rdI (HR.out.below (HBR.out.trans (hb.mono HBR.out.size))) hlt
            injection hA1 with hA1
            injection hA1 with e1 e2
            injection hA2 with hA2
            injection hA2 with e3 e4
            subst e1 e2 e3 e4
            rw [← HY.out] at c0 c1
            rw [← HX.out] at d0 d1
            exact ⟨c0, c1, d0, d1⟩)
          clear kL kU
          have HAH := Lib.hid (fun y x w => rolder_any y x w)
          unfold idV BoolIs at HAH
          cases e2 : ol y x with
          | true =>
            have HP : Hid (risQ l (j + 1) (gr idR l (j + 1)) = false) := Lib.hid (by rw [← HX.out]; unfold risQ; rw [show j + 1 - 1 = j by omega, ← HY.out, e2]; rw [e1]; simp)
            clear hs h0
            go_wp2_with fail
            refine wp_region_heldH (by kernel_rfl) hS (hD) (fun hHeld => ?_)
            refine takes [0, 1, 2, 3] 19 (by kernel_rfl) (by assumption) ?_
            iterate 4 (refine tkY rfl (fun _ _ _ h => h) rfl (by ((intro w hSw); (try dsimp only at hSw); go_simp; (try with_reducible rfl))) ?_; try simp only [Act.put, List.setIfInBounds_toArray, List.set_cons_zero, List.set_cons_succ])
            refine tkE ?_
            refine wpAnyH_ready (rs := [4]) (by kernel_rfl) (by simp) ?_
            refine readyC rfl (fun K hK => ?_) ?_
            ·
              go_simp
              go_at_call 100
              refine (HLK.out x _).mono ?_
              rintro e w3 ⟨he, hb_⟩
              rw [e1] at he
              subst he
              have HB_w3 := Lib.hid (hD.trans (hb_.mono hD.size))
              clear hb_
              go_wp2_with fail
              refine hK.out _ _ (by with_reducible exact hS.out _ HB_w3.out) (fun hHeld => ?_)
              clear hK K
              try simp only [Act.put, List.setIfInBounds_toArray, List.set_cons_zero, List.set_cons_succ]
              refine takes [5, 6, 7, 8, 9, 10, 11, 12, 13, 14, 15, 16, 17, 18] 4 (by kernel_rfl) (by assumption) ?_
              iterate 14 (refine tkY rfl (fun _ _ _ h => h) rfl (by ((intro w hSw); (try dsimp only at hSw); go_simp; (try with_reducible rfl))) ?_; try simp only [Act.put, List.setIfInBounds_toArray, List.set_cons_zero, List.set_cons_succ])
              refine tkE ?_
              refine wpAnyH_ready (rs := [19]) (by kernel_rfl) (by simp) ?_
              refine readyC rfl (fun K hK => ?_) ?_
              ·
                go_simp
                go_at_call 48
                refine (HAH.out y x _).mono ?_
                rintro e w4 ⟨he, hb_⟩
                rw [e2] at he
                subst he
                have HB_w4 := Lib.hid (HB_w3.out.trans (hb_.mono HB_w3.out.size))
                clear hb_
                go_wp2_with fail
                refine hK.out _ _ (by with_reducible exact hS.out _ HB_w4.out) (fun hHeld => ?_)
                clear hK K
                try simp only [Act.put, List.setIfInBounds_toArray, List.set_cons_zero, List.set_cons_succ]
                refine takes [20, 21, 22] 0 (by kernel_rfl) (by assumption) ?_
                iterate 3 (refine tkY rfl (fun _ _ _ h => h) rfl (by ((intro w hSw); (try dsimp only at hSw); go_simp; (try with_reducible rfl))) ?_; try simp only [Act.put, List.setIfInBounds_toArray, List.set_cons_zero, List.set_cons_succ])
                refine tkE ?_
                refine wpAnyH_done (by kernel_rfl) ?_ _
                have HBE := Lib.hid (HBR.out.trans (HB_w4.out.mono HBR.out.size))
                go_wp2
                go_roundw
                case rel => exact ⟨j + 1 + 1, by go_num, by omega, fs_on HNO.out HP.out, HBE.out⟩
                case measure => simp [intOf]; omega
              exact AllReadyH.nil
            exact AllReadyH.nil
          | false =>
            have HRR : Hid (nb idR l (risQ l) = false) := Lib.hid (nb_no hlt (by rw [← HX.out]; unfold risQ; rw [show j + 1 - 1 = j by omega, ← HY.out, e2]; simp))
            clear hs h0
            go_wp2_with fail
            refine wp_region_heldH (by kernel_rfl) hS (hD) (fun hHeld => ?_)
            refine takes [0, 1, 2, 3] 19 (by kernel_rfl) (by assumption) ?_
            iterate 4 (refine tkY rfl (fun _ _ _ h => h) rfl (by ((intro w hSw); (try dsimp only at hSw); go_simp; (try with_reducible rfl))) ?_; try simp only [Act.put, List.setIfInBounds_toArray, List.set_cons_zero, List.set_cons_succ])
            refine tkE ?_
            refine wpAnyH_ready (rs := [4]) (by kernel_rfl) (by simp) ?_
            refine readyC rfl (fun K hK => ?_) ?_
            ·
              go_simp
              go_at_call 100
              refine (HLK.out x _).mono ?_
              rintro e w3 ⟨he, hb_⟩
              rw [e1] at he
              subst he
              have HB_w3 := Lib.hid (hD.trans (hb_.mono hD.size))
              clear hb_
              go_wp2_with fail
              refine hK.out _ _ (by with_reducible exact hS.out _ HB_w3.out) (fun hHeld => ?_)
              clear hK K
              try simp only [Act.put, List.setIfInBounds_toArray, List.set_cons_zero, List.set_cons_succ]
              refine takes [5, 6, 7, 8, 9, 10, 11, 12, 13, 14, 15, 16, 17, 18] 4 (by kernel_rfl) (by assumption) ?_
              iterate 14 (refine tkY rfl (fun _ _ _ h => h) rfl (by ((intro w hSw); (try dsimp only at hSw); go_simp; (try with_reducible rfl))) ?_; try simp only [Act.put, List.setIfInBounds_toArray, List.set_cons_zero, List.set_cons_succ])
              refine tkE ?_
              refine wpAnyH_ready (rs := [19]) (by kernel_rfl) (by simp) ?_
              refine readyC rfl (fun K hK => ?_) ?_
              ·
                go_simp
                go_at_call 48
                refine (HAH.out y x _).mono ?_
                rintro e w4 ⟨he, hb_⟩
                rw [e2] at he
                subst he
                have HB_w4 := Lib.hid (HB_w3.out.trans (hb_.mono HB_w3.out.size))
                clear hb_
                go_wp2_with fail
                refine hK.out _ _ (by with_reducible exact hS.out _ HB_w4.out) (fun hHeld => ?_)
                clear hK K
                try simp only [Act.put, List.setIfInBounds_toArray, List.set_cons_zero, List.set_cons_succ]
                refine takes [20, 21, 22] 0 (by kernel_rfl) (by assumption) ?_
                iterate 3 (refine tkY rfl (fun _ _ _ h => h) rfl (by ((intro w hSw); (try dsimp only at hSw); go_simp; (try with_reducible rfl))) ?_; try simp only [Act.put, List.setIfInBounds_toArray, List.set_cons_zero, List.set_cons_succ])
                refine tkE ?_
                refine wpAnyH_done (by kernel_rfl) ?_ _
                have HBE := Lib.hid (HBR.out.trans (HB_w4.out.mono HBR.out.size))
                go_wp2
                go_ret
                exact ⟨ret_bool HRR.out.symm, HBE.out⟩
              exact AllReadyH.nil
            exact AllReadyH.nil
        ·
          have HP : Hid (risQ l k (gr idR l k) = false) := Lib.hid (by rw [← HX.out]; unfold risQ; rw [decide_eq_false h0]; rw [e1]; rfl)
          have z8 : ¬ (0 : Int) < (k : Int) := by omega
          have z9 : decide ((0 : Int) < (k : Int)) = false := decide_eq_false z8
          have z8n : ¬ 0 < k := h0
          have z9n : decide (0 < k) = false := decide_eq_false h0
          have hS : Hid (∀ w', Below wr.heap.size wr w' → (w'.cell? ⟨b, off + k * 2, none⟩ = some (.int .i64 x.n) ∧ w'.cell? ⟨b, off + k * 2 + 1, none⟩ = some (.int .i64 x.c))) := Lib.hid (fun w' hb => by
            obtain ⟨b1, off1, hA1, _, c0, c1⟩ := rdI (HR.out.below (HBR.out.trans (hb.mono HBR.out.size))) hlt
            injection hA1 with hA1
            injection hA1 with e1 e2
            subst e1 e2
            rw [← HX.out] at c0 c1
            exact ⟨c0, c1⟩)
          clear hs
          go_wp2_with fail
          refine wp_region_heldH (by kernel_rfl) hS (hD) (fun hHeld => ?_)
          refine takes [0, 1, 2, 3] 19 (by kernel_rfl) (by assumption) ?_
          iterate 4 (refine tkY rfl (fun _ _ _ h => h) rfl (by ((intro w hSw); (try dsimp only at hSw); go_simp; (try with_reducible rfl))) ?_; try simp only [Act.put, List.setIfInBounds_toArray, List.set_cons_zero, List.set_cons_succ])
          refine tkE ?_
          refine wpAnyH_ready (rs := [4]) (by kernel_rfl) (by simp) ?_
          refine readyC rfl (fun K hK => ?_) ?_
          ·
            go_simp
            go_at_call 100
            refine (HLK.out x _).mono ?_
            rintro e w3 ⟨he, hb_⟩
            rw [e1] at he
            subst he
            have HB_w3 := Lib.hid (hD.trans (hb_.mono hD.size))
            clear hb_
            go_wp2_with fail
            refine hK.out _ _ (by with_reducible exact hS.out _ HB_w3.out) (fun hHeld => ?_)
            clear hK K
            try simp only [Act.put, List.setIfInBounds_toArray, List.set_cons_zero, List.set_cons_succ]
            refine takes [5, 6, 7, 8, 9, 10, 11, 12, 13, 14, 15, 16, 17, 18, 19, 20, 21, 22] 0 (by kernel_rfl) (by assumption) ?_
            iterate 5 (refine tkY rfl (fun _ _ _ h => h) rfl (by ((intro w hSw); (try dsimp only at hSw); go_simp; (try with_reducible rfl))) ?_; try simp only [Act.put, List.setIfInBounds_toArray, List.set_cons_zero, List.set_cons_succ])
            iterate 11 (refine tkN rfl (fun _ _ _ h => h) rfl ?_; try simp only [Act.put, List.setIfInBounds_toArray, List.set_cons_zero, List.set_cons_succ])
            iterate 2 (refine tkY rfl (fun _ _ _ h => h) rfl (by ((intro w hSw); (try dsimp only at hSw); go_simp; (try with_reducible rfl))) ?_; try simp only [Act.put, List.setIfInBounds_toArray, List.set_cons_zero, List.set_cons_succ])
            refine tkE ?_
            refine wpAnyH_done (by kernel_rfl) ?_ _
            have HBE := Lib.hid (HBR.out.trans (HB_w3.out.mono HBR.out.size))
            go_wp2
            go_roundw
            case rel => exact ⟨k + 1, by go_num, by omega, fs_on HNO.out HP.out, HBE.out⟩
            case measure => simp [intOf]; omega
          exact AllReadyH.nil
    · have kU : ¬ (k : Int) < (l.length : Int) := by omega
      go_wp2
      go_ret
      exact ⟨ret_bool (nb_yes (k := k) (by omega) HNO.out).symm, HBR.out⟩
def edV (x : Edg) : Value := .agg #[.string x.key, .int .i64 x.w.n, .int .i64 x.w.c, .int .i64 x.h.n, .int .i64 x.h.c]
set_option maxHeartbeats 8000000 in
set_option maxRecDepth 100000 in
theorem right_any {w : World} {g : Nat} {q : Tb} {m : TbM} (h : RfAt w g q m) (x : Edg) : Calls Tryz.prog 77 #[.pointer (some ⟨g, 0, none⟩), edV x] w (BoolIs (rightB q x) w) := by
  have HH := Lib.hid h
  clear h
  unfold edV
  go_enter Tryz.func77, Tryz.ntmps77
  go_upto_region 1 with fail
  have k1 := Blk.new w 66 #[.string x.key, .int .i64 x.w.n, .int .i64 x.w.c, .int .i64 x.h.n, .int .i64 x.h.c]
  have HB := Lib.hid (below_alloc w (.cells #[.string x.key, .int .i64 x.w.n, .int .i64 x.w.c, .int .i64 x.h.n, .int .i64 x.h.c] 66))
  obtain ⟨w2, hw2⟩ : ∃ w2, w2 = (w.alloc (.cells #[.string x.key, .int .i64 x.w.n, .int .i64 x.w.c, .int .i64 x.h.n, .int .i64 x.h.c] 66)) := ⟨_, rfl⟩
  obtain ⟨p1, hp1⟩ : ∃ p1, p1 = w.heap.size := ⟨_, rfl⟩
  rw [← hw2] at HB k1
  rw [← hp1] at k1
  rw [← hw2]
  rw [← hp1]
  clear hw2 hp1
  have HF2 := Lib.hid (HH.out.below HB.out)
  have HK1 := Lib.hid k1
  have hfm := HF2.out.fm
  have hD : Below w2.heap.size w2 w2.drew := below_drewN (Below.refl _ _) 1
  have hS : Hid (∀ w', Below w2.heap.size w2 w' → (w'.cell? ⟨p1, 0, none⟩ = some (.string x.key) ∧ w'.cell? ⟨p1, 1, none⟩ = some (.int .i64 x.w.n) ∧ w'.cell? ⟨p1, 2, none⟩ = some (.int .i64 x.w.c) ∧ w'.cell? ⟨p1, 3, none⟩ = some (.int .i64 x.h.n) ∧ w'.cell? ⟨p1, 4, none⟩ = some (.int .i64 x.h.c) ∧ w'.cell? ⟨g, 3, none⟩ = some (.slice m.ap q.prep.length m.cp) ∧ w'.cell? ⟨g, 4, none⟩ = some (.slice m.au q.hurt.length m.cu))) := Lib.hid (fun w' hb => ⟨(HK1.out.below hb HK1.out.lt).cell 0, (HK1.out.below hb HK1.out.lt).cell 1, (HK1.out.below hb HK1.out.lt).cell 2, (HK1.out.below hb HK1.out.lt).cell 3, (HK1.out.below hb HK1.out.lt).cell 4, (HF2.out.below hb).c3, (HF2.out.below hb).c4⟩)
  have HOL := Lib.hid (fun W => rolder_any x.h x.w W)
  have HC1 := Lib.hid (fun W (hb : Below w2.heap.size w2 W) => has_any m.ap m.cp q.prep x.h W (Reads.of_own (HF2.out.below hb).op) hfm.1)
  have HC2 := Lib.hid (fun W (hb : Below w2.heap.size w2 W) => has_any m.au m.cu q.hurt x.h W (Reads.of_own (HF2.out.below hb).ou) hfm.2)
  unfold idV BoolIs at HOL HC1 HC2
  clear k1 hfm
  cases e1 : ol x.h x.w with
  | true =>
    have HRR : Hid (rightB q x = true) := Lib.hid (by unfold rightB; rw [e1]; rfl)
    refine wp_region_heldH (by kernel_rfl) hS (hD) (fun hHeld => ?_)
    refine takes [0, 1, 2, 3] 20 (by kernel_rfl) (by assumption) ?_
    iterate 4 (refine tkY rfl (fun _ _ _ h => h) rfl (by ((intro w hSw); (try dsimp only at hSw); go_simp; (try with_reducible rfl))) ?_; try simp only [Act.put, List.setIfInBounds_toArray, List.set_cons_zero, List.set_cons_succ])
    refine tkE ?_
    refine wpAnyH_ready (rs := [4]) (by kernel_rfl) (by simp) ?_
    refine readyC rfl (fun K hK => ?_) ?_
    ·
      go_simp
      go_at_call 48
      refine (HOL.out _).mono ?_
      rintro e w3 ⟨he, hb_⟩
      rw [e1] at he
      subst he
      have HB_w3 := Lib.hid (hD.trans (hb_.mono hD.size))
      clear hb_
      go_wp2_with fail
      refine hK.out _ _ (by with_reducible exact hS.out _ HB_w3.out) (fun hHeld => ?_)
      clear hK K
      try simp only [Act.put, List.setIfInBounds_toArray, List.set_cons_zero, List.set_cons_succ]
      refine takes [5, 6, 7, 8, 9, 10, 11, 12, 13, 14, 15, 16, 17, 18, 19, 20, 21, 22, 23] 0 (by kernel_rfl) (by assumption) ?_
      refine tkY rfl (fun _ _ _ h => h) rfl (by ((intro w hSw); (try dsimp only at hSw); go_simp; (try with_reducible rfl))) ?_; try simp only [Act.put, List.setIfInBounds_toArray, List.set_cons_zero, List.set_cons_succ]
      iterate 7 (refine tkN rfl (fun _ _ _ h => h) rfl ?_; try simp only [Act.put, List.setIfInBounds_toArray, List.set_cons_zero, List.set_cons_succ])
      iterate 2 (refine tkY rfl (fun _ _ _ h => h) rfl (by ((intro w hSw); (try dsimp only at hSw); go_simp; (try with_reducible rfl))) ?_; try simp only [Act.put, List.setIfInBounds_toArray, List.set_cons_zero, List.set_cons_succ])
      iterate 7 (refine tkN rfl (fun _ _ _ h => h) rfl ?_; try simp only [Act.put, List.setIfInBounds_toArray, List.set_cons_zero, List.set_cons_succ])
      iterate 2 (refine tkY rfl (fun _ _ _ h => h) rfl (by ((intro w hSw); (try dsimp only at hSw); go_simp; (try with_reducible rfl))) ?_; try simp only [Act.put, List.setIfInBounds_toArray, List.set_cons_zero, List.set_cons_succ])
      refine tkE ?_
      refine wpAnyH_done (by kernel_rfl) ?_ _
      have HBE := Lib.hid (HB.out.trans (HB_w3.out.mono HB.out.size))
      go_wp2
      go_ret
      exact ⟨ret_bool HRR.out.symm, HBE.out⟩
    exact AllReadyH.nil
  | false =>
    cases e2 : hasI q.prep x.h with
    | true =>
      have HRR : Hid (rightB q x = true) := Lib.hid (by unfold rightB; rw [e1, e2]; rfl)
      refine wp_region_heldH (by kernel_rfl) hS (hD) (fun hHeld => ?_)
      refine takes [0, 1, 2, 3] 20 (by kernel_rfl) (by assumption) ?_
      iterate 4 (refine tkY rfl (fun _ _ _ h => h) rfl (by ((intro w hSw); (try dsimp only at hSw); go_simp; (try with_reducible rfl))) ?_; try simp only [Act.put, List.setIfInBounds_toArray, List.set_cons_zero, List.set_cons_succ])
      refine tkE ?_
      refine wpAnyH_ready (rs := [4]) (by kernel_rfl) (by simp) ?_
      refine readyC rfl (fun K hK => ?_) ?_
      ·
        go_simp
        go_at_call 48
        refine (HOL.out _).mono ?_
        rintro e w3 ⟨he, hb_⟩
        rw [e1] at he
        subst he
        have HB_w3 := Lib.hid (hD.trans (hb_.mono hD.size))
        clear hb_
        go_wp2_with fail
        refine hK.out _ _ (by with_reducible exact hS.out _ HB_w3.out) (fun hHeld => ?_)
        clear hK K
        try simp only [Act.put, List.setIfInBounds_toArray, List.set_cons_zero, List.set_cons_succ]
        refine takes [5, 6, 7, 8, 9, 10, 11] 12 (by kernel_rfl) (by assumption) ?_
        iterate 7 (refine tkY rfl (fun _ _ _ h => h) rfl (by ((intro w hSw); (try dsimp only at hSw); go_simp; (try with_reducible rfl))) ?_; try simp only [Act.put, List.setIfInBounds_toArray, List.set_cons_zero, List.set_cons_succ])
        refine tkE ?_
        refine wpAnyH_ready (rs := [12]) (by kernel_rfl) (by simp) ?_
        refine readyC rfl (fun K hK => ?_) ?_
        ·
          go_simp
          go_at_call 49
          refine (HC1.out _ HB_w3.out).mono ?_
          rintro e w4 ⟨he, hb_⟩
          rw [e2] at he
          subst he
          have HB_w4 := Lib.hid (HB_w3.out.trans (hb_.mono HB_w3.out.size))
          clear hb_
          go_wp2_with fail
          refine hK.out _ _ (by with_reducible exact hS.out _ HB_w4.out) (fun hHeld => ?_)
          clear hK K
          try simp only [Act.put, List.setIfInBounds_toArray, List.set_cons_zero, List.set_cons_succ]
          refine takes [13, 14, 15, 16, 17, 18, 19, 20, 21, 22, 23] 0 (by kernel_rfl) (by assumption) ?_
          iterate 2 (refine tkY rfl (fun _ _ _ h => h) rfl (by ((intro w hSw); (try dsimp only at hSw); go_simp; (try with_reducible rfl))) ?_; try simp only [Act.put, List.setIfInBounds_toArray, List.set_cons_zero, List.set_cons_succ])
          iterate 7 (refine tkN rfl (fun _ _ _ h => h) rfl ?_; try simp only [Act.put, List.setIfInBounds_toArray, List.set_cons_zero, List.set_cons_succ])
          iterate 2 (refine tkY rfl (fun _ _ _ h => h) rfl (by ((intro w hSw); (try dsimp only at hSw); go_simp; (try with_reducible rfl))) ?_; try simp only [Act.put, List.setIfInBounds_toArray, List.set_cons_zero, List.set_cons_succ])
          refine tkE ?_
          refine wpAnyH_done (by kernel_rfl) ?_ _
          have HBE := Lib.hid (HB.out.trans (HB_w4.out.mono HB.out.size))
          go_wp2
          go_ret
          exact ⟨ret_bool HRR.out.symm, HBE.out⟩
        exact AllReadyH.nil
      exact AllReadyH.nil
    | false =>
      cases e3 : hasI q.hurt x.h with
      | true =>
        have HRR : Hid (rightB q x = true) := Lib.hid (by unfold rightB; rw [e1, e2, e3]; rfl)
        refine wp_region_heldH (by kernel_rfl) hS (hD) (fun hHeld => ?_)
        refine takes [0, 1, 2, 3] 20 (by kernel_rfl) (by assumption) ?_
        iterate 4 (refine tkY rfl (fun _ _ _ h => h) rfl (by ((intro w hSw); (try dsimp only at hSw); go_simp; (try with_reducible rfl))) ?_; try simp only [Act.put, List.setIfInBounds_toArray, List.set_cons_zero, List.set_cons_succ])
        refine tkE ?_
        refine wpAnyH_ready (rs := [4]) (by kernel_rfl) (by simp) ?_
        refine readyC rfl (fun K hK => ?_) ?_
        ·
          go_simp
          go_at_call 48
          refine (HOL.out _).mono ?_
          rintro e w3 ⟨he, hb_⟩
          rw [e1] at he
          subst he
          have HB_w3 := Lib.hid (hD.trans (hb_.mono hD.size))
          clear hb_
          go_wp2_with fail
          refine hK.out _ _ (by with_reducible exact hS.out _ HB_w3.out) (fun hHeld => ?_)
          clear hK K
          try simp only [Act.put, List.setIfInBounds_toArray, List.set_cons_zero, List.set_cons_succ]
          refine takes [5, 6, 7, 8, 9, 10, 11] 12 (by kernel_rfl) (by assumption) ?_
          iterate 7 (refine tkY rfl (fun _ _ _ h => h) rfl (by ((intro w hSw); (try dsimp only at hSw); go_simp; (try with_reducible rfl))) ?_; try simp only [Act.put, List.setIfInBounds_toArray, List.set_cons_zero, List.set_cons_succ])
          refine tkE ?_
          refine wpAnyH_ready (rs := [12]) (by kernel_rfl) (by simp) ?_
          refine readyC rfl (fun K hK => ?_) ?_
          ·
            go_simp
            go_at_call 49
            refine (HC1.out _ HB_w3.out).mono ?_
            rintro e w4 ⟨he, hb_⟩
            rw [e2] at he
            subst he
            have HB_w4 := Lib.hid (HB_w3.out.trans (hb_.mono HB_w3.out.size))
            clear hb_
            go_wp2_with fail
            refine hK.out _ _ (by with_reducible exact hS.out _ HB_w4.out) (fun hHeld => ?_)
            clear hK K
            try simp only [Act.put, List.setIfInBounds_toArray, List.set_cons_zero, List.set_cons_succ]
            refine takes [13, 14, 15, 16, 17, 18, 19, 20] 3 (by kernel_rfl) (by assumption) ?_
            iterate 8 (refine tkY rfl (fun _ _ _ h => h) rfl (by ((intro w hSw); (try dsimp only at hSw); go_simp; (try with_reducible rfl))) ?_; try simp only [Act.put, List.setIfInBounds_toArray, List.set_cons_zero, List.set_cons_succ])
            refine tkE ?_
            refine wpAnyH_ready (rs := [21]) (by kernel_rfl) (by simp) ?_
            refine readyC rfl (fun K hK => ?_) ?_
            ·
              go_simp
              go_at_call 49
              refine (HC2.out _ HB_w4.out).mono ?_
              rintro e w5 ⟨he, hb_⟩
              rw [e3] at he
              subst he
              have HB_w5 := Lib.hid (HB_w4.out.trans (hb_.mono HB_w4.out.size))
              clear hb_
              go_wp2_with fail
              refine hK.out _ _ (by with_reducible exact hS.out _ HB_w5.out) (fun hHeld => ?_)
              clear hK K
              try simp only [Act.put, List.setIfInBounds_toArray, List.set_cons_zero, List.set_cons_succ]
              refine takes [22, 23] 0 (by kernel_rfl) (by assumption) ?_
              iterate 2 (refine tkY rfl (fun _ _ _ h => h) rfl (by ((intro w hSw); (try dsimp only at hSw); go_simp; (try with_reducible rfl))) ?_; try simp only [Act.put, List.setIfInBounds_toArray, List.set_cons_zero, List.set_cons_succ])
              refine tkE ?_
              refine wpAnyH_done (by kernel_rfl) ?_ _
              have HBE := Lib.hid (HB.out.trans (HB_w5.out.mono HB.out.size))
              go_wp2
              go_ret
              exact ⟨ret_bool HRR.out.symm, HBE.out⟩
            exact AllReadyH.nil
          exact AllReadyH.nil
        exact AllReadyH.nil
      | false =>
        have HRR : Hid (rightB q x = false) := Lib.hid (by unfold rightB; rw [e1, e2, e3]; rfl)
        refine wp_region_heldH (by kernel_rfl) hS (hD) (fun hHeld => ?_)
        refine takes [0, 1, 2, 3] 20 (by kernel_rfl) (by assumption) ?_
        iterate 4 (refine tkY rfl (fun _ _ _ h => h) rfl (by ((intro w hSw); (try dsimp only at hSw); go_simp; (try with_reducible rfl))) ?_; try simp only [Act.put, List.setIfInBounds_toArray, List.set_cons_zero, List.set_cons_succ])
        refine tkE ?_
        refine wpAnyH_ready (rs := [4]) (by kernel_rfl) (by simp) ?_
        refine readyC rfl (fun K hK => ?_) ?_
        ·
          go_simp
          go_at_call 48
          refine (HOL.out _).mono ?_
          rintro e w3 ⟨he, hb_⟩
          rw [e1] at he
          subst he
          have HB_w3 := Lib.hid (hD.trans (hb_.mono hD.size))
          clear hb_
          go_wp2_with fail
          refine hK.out _ _ (by with_reducible exact hS.out _ HB_w3.out) (fun hHeld => ?_)
          clear hK K
          try simp only [Act.put, List.setIfInBounds_toArray, List.set_cons_zero, List.set_cons_succ]
          refine takes [5, 6, 7, 8, 9, 10, 11] 12 (by kernel_rfl) (by assumption) ?_
          iterate 7 (refine tkY rfl (fun _ _ _ h => h) rfl (by ((intro w hSw); (try dsimp only at hSw); go_simp; (try with_reducible rfl))) ?_; try simp only [Act.put, List.setIfInBounds_toArray, List.set_cons_zero, List.set_cons_succ])
          refine tkE ?_
          refine wpAnyH_ready (rs := [12]) (by kernel_rfl) (by simp) ?_
          refine readyC rfl (fun K hK => ?_) ?_
          ·
            go_simp
            go_at_call 49
            refine (HC1.out _ HB_w3.out).mono ?_
            rintro e w4 ⟨he, hb_⟩
            rw [e2] at he
            subst he
            have HB_w4 := Lib.hid (HB_w3.out.trans (hb_.mono HB_w3.out.size))
            clear hb_
            go_wp2_with fail
            refine hK.out _ _ (by with_reducible exact hS.out _ HB_w4.out) (fun hHeld => ?_)
            clear hK K
            try simp only [Act.put, List.setIfInBounds_toArray, List.set_cons_zero, List.set_cons_succ]
            refine takes [13, 14, 15, 16, 17, 18, 19, 20] 3 (by kernel_rfl) (by assumption) ?_
            iterate 8 (refine tkY rfl (fun _ _ _ h => h) rfl (by ((intro w hSw); (try dsimp only at hSw); go_simp; (try with_reducible rfl))) ?_; try simp only [Act.put, List.setIfInBounds_toArray, List.set_cons_zero, List.set_cons_succ])
            refine tkE ?_
            refine wpAnyH_ready (rs := [21]) (by kernel_rfl) (by simp) ?_
            refine readyC rfl (fun K hK => ?_) ?_
            ·
              go_simp
              go_at_call 49
              refine (HC2.out _ HB_w4.out).mono ?_
              rintro e w5 ⟨he, hb_⟩
              rw [e3] at he
              subst he
              have HB_w5 := Lib.hid (HB_w4.out.trans (hb_.mono HB_w4.out.size))
              clear hb_
              go_wp2_with fail
              refine hK.out _ _ (by with_reducible exact hS.out _ HB_w5.out) (fun hHeld => ?_)
              clear hK K
              try simp only [Act.put, List.setIfInBounds_toArray, List.set_cons_zero, List.set_cons_succ]
              refine takes [22, 23] 0 (by kernel_rfl) (by assumption) ?_
              iterate 2 (refine tkY rfl (fun _ _ _ h => h) rfl (by ((intro w hSw); (try dsimp only at hSw); go_simp; (try with_reducible rfl))) ?_; try simp only [Act.put, List.setIfInBounds_toArray, List.set_cons_zero, List.set_cons_succ])
              refine tkE ?_
              refine wpAnyH_done (by kernel_rfl) ?_ _
              have HBE := Lib.hid (HB.out.trans (HB_w5.out.mono HB.out.size))
              go_wp2
              go_ret
              exact ⟨ret_bool HRR.out.symm, HBE.out⟩
            exact AllReadyH.nil
          exact AllReadyH.nil
        exact AllReadyH.nil
theorem known_held {q : Tb} {i : Idn} {k : Nat} (hk : k < q.held.length) (h : eqI (gr lkR q.held k).id i = true) : knownB q i = true := by
  unfold knownB
  rw [List.any_eq_true.2 ⟨_, gr_mem (R := lkR) hk, h⟩]; rfl
theorem known_wait {q : Tb} {i : Idn} {k : Nat} (hk : q.held.length ≤ k) (h : ∀ j, j < k → eqI (gr lkR q.held j).id i = false) : knownB q i = (wantsL q i).isSome := by
  unfold knownB
  have : (q.held.any fun y => eqI y.id i) = false := by
    rw [List.any_eq_false]
    intro y hy
    obtain ⟨j, hj, rfl⟩ := List.mem_iff_getElem.1 hy
    have h1 := h j (by omega)
    rw [gr_at hj] at h1
    rw [h1]; simp
  rw [this]; rfl
set_option maxHeartbeats 8000000 in
set_option maxRecDepth 100000 in
theorem known_any {w : World} {g : Nat} {q : Tb} {m : TbM} (h : RfAt w g q m) (i : Idn) : Calls Tryz.prog 78 #[.pointer (some ⟨g, 0, none⟩), idV i] w (BoolIs (knownB q i) w) := by
  have HH := Lib.hid h
  have HE := Lib.hid (fun (y : Lk) w => run_eqI y.id i w)
  clear h
  unfold idV
  go_enter Tryz.func78, Tryz.ntmps78
  go_upto_region 1 with fail
  have k1 := Blk.new w 29 #[.int .i64 i.n, .int .i64 i.c]
  have HB := Lib.hid (below_alloc w (.cells #[.int .i64 i.n, .int .i64 i.c] 29))
  obtain ⟨w2, hw2⟩ : ∃ w2, w2 = (w.alloc (.cells #[.int .i64 i.n, .int .i64 i.c] 29)) := ⟨_, rfl⟩
  obtain ⟨p1, hp1⟩ : ∃ p1, p1 = w.heap.size := ⟨_, rfl⟩
  rw [← hw2] at HB k1
  rw [← hp1] at k1
  rw [← hw2]
  rw [← hp1]
  clear hw2 hp1
  have HF2 := Lib.hid (HH.out.below HB.out)
  have HK1 := Lib.hid k1
  have hfh := HF2.out.fh
  clear k1
  go_wp2
  go_loopw [5] (FsRel lkR q.held (fun (_ : Nat) (y : Lk) => eqI y.id i) (fun _ wr => Below w2.heap.size w2 wr)) (fun i _ => q.held.length - (intOf i).toNat)
  case atStart => exact ⟨0, rfl, Nat.zero_le _, fun j hj => by omega, Below.refl _ _⟩
  case round =>
    obtain ⟨k, rfl, hk, hno, hb⟩ := hrel
    have HNO := Lib.hid hno
    have HBR := Lib.hid hb
    have HT := Lib.hid (HF2.out.below hb)
    clear hno hb
    by_cases hlt : k < q.held.length
    · 
      obtain ⟨b, off, hA, _, a0, a1, a2, a3⟩ := rdL (Reads.of_own HT.out.oh) hlt
      obtain ⟨y, hy⟩ : ∃ y, y = gr lkR q.held k := ⟨_, rfl⟩
      have HY := Lib.hid hy
      have hS : Hid (∀ w', Below wr.heap.size wr w' → (w'.cell? ⟨g, 1, none⟩ = some (.slice m.ah q.held.length m.ch) ∧ w'.cell? ⟨p1, 0, none⟩ = some (.int .i64 i.n) ∧ w'.cell? ⟨p1, 1, none⟩ = some (.int .i64 i.c) ∧ w'.cell? ⟨b, off + k * 4 + 1, none⟩ = some (.int .i64 y.id.n) ∧ w'.cell? ⟨b, off + k * 4 + 2, none⟩ = some (.int .i64 y.id.c))) := Lib.hid (fun w' hb => by
        obtain ⟨b1, off1, hA1, _, c0, c1, c2, c3⟩ := rdL (Reads.of_own (HT.out.below hb).oh) hlt
        rw [hA] at hA1
        injection hA1 with hA1
        injection hA1 with e1 e2
        subst e1 e2
        rw [← HY.out] at c1 c2
        exact ⟨(HT.out.below hb).c1, (HK1.out.below (HBR.out.trans (hb.mono HBR.out.size)) HK1.out.lt).cell 0, (HK1.out.below (HBR.out.trans (hb.mono HBR.out.size)) HK1.out.lt).cell 1, c1, c2⟩)
      have hD : Below wr.heap.size wr wr.drew := below_drewN (Below.refl _ _) 1
      have y1 := HT.out.c1
      have kL : (0 : Int) ≤ (k : Int) := by omega
      have kU : (k : Int) < (q.held.length : Int) := by omega
      have he := HE.out y
      clear hy a0 a1 a2 a3
      cases e1 : eqI y.id i with
      | true =>
        have HRR : Hid (knownB q i = true) := Lib.hid (known_held hlt (by rw [← HY.out]; exact e1))
        rw [e1] at he
        clear e1
        go_wp2_with fail
        refine wp_region_heldH (by kernel_rfl) hS (hD) (fun hHeld => ?_)
        refine takes [0, 1, 2, 3, 4, 5, 6, 7, 8, 9] 0 (by kernel_rfl) (by assumption) ?_
        iterate 10 (refine tkY rfl (fun _ _ _ h => h) rfl (by ((intro w hSw); (try dsimp only at hSw); go_simp; (try with_reducible rfl))) ?_; try simp only [Act.put, List.setIfInBounds_toArray, List.set_cons_zero, List.set_cons_succ])
        refine tkE ?_
        refine wpAnyH_done (by kernel_rfl) ?_ _
        have HBE := Lib.hid (HB.out.trans ((HBR.out.trans (hD.mono HBR.out.size)).mono HB.out.size))
        go_wp2
        go_ret
        exact ⟨ret_bool HRR.out.symm, HBE.out⟩
      | false =>
        have HP : Hid (eqI (gr lkR q.held k).id i = false) := Lib.hid (by rw [← HY.out]; exact e1)
        rw [e1] at he
        clear e1
        go_wp2_with fail
        refine wp_region_heldH (by kernel_rfl) hS (hD) (fun hHeld => ?_)
        refine takes [0, 1, 2, 3, 4, 5, 6, 7, 8, 9] 0 (by kernel_rfl) (by assumption) ?_
        iterate 10 (refine tkY rfl (fun _ _ _ h => h) rfl (by ((intro w hSw); (try dsimp only at hSw); go_simp; (try with_reducible rfl))) ?_; try simp only [Act.put, List.setIfInBounds_toArray, List.set_cons_zero, List.set_cons_succ])
        refine tkE ?_
        refine wpAnyH_done (by kernel_rfl) ?_ _
        have HBE := Lib.hid (HBR.out.trans (hD.mono HBR.out.size))
        go_wp2
        go_roundw
        case rel => exact ⟨k + 1, by go_num, by omega, fs_on (p := fun (_ : Nat) (y : Lk) => eqI y.id i) HNO.out HP.out, HBE.out⟩
        case measure => simp [intOf]; omega
    · have kU : ¬ (k : Int) < (q.held.length : Int) := by omega
      have HRR : Hid (knownB q i = (wantsL q i).isSome) := Lib.hid (known_wait (k := k) (by omega) HNO.out)
      have HW := Lib.hid (rwaits_any HT.out i)
      unfold idV WantEnds lkV at HW
      obtain ⟨z, hz⟩ : ∃ z, z = (wantsL q i).getD zeroL := ⟨_, rfl⟩
      obtain ⟨v, hv⟩ : ∃ v, v = (wantsL q i).isSome := ⟨_, rfl⟩
      rw [← hz, ← hv] at HW
      rw [← hv] at HRR
      have y1 := HT.out.c1
      have HK3 := Lib.hid (HK1.out.below HBR.out HK1.out.lt)
      have x0 : wr.cell? ⟨p1, 0, none⟩ = some (.int .i64 i.n) := HK3.out.cell 0
      have x1 : wr.cell? ⟨p1, 1, none⟩ = some (.int .i64 i.c) := HK3.out.cell 1
      clear hz hv
      go_wp2_with fail
      refine HW.out.mono ?_
      rintro e w4 ⟨rfl, hb4⟩
      have HB4 := Lib.hid (HB.out.trans ((HBR.out.trans (hb4.mono HBR.out.size)).mono HB.out.size))
      clear hb4 x0 x1 y1 HW
      have HBW := Lib.hid (below_alloc w4 (.cells #[.string z.key, .int .i64 z.id.n, .int .i64 z.id.c, .int .i64 z.mode] 62))
      go_wp2
      go_ret
      exact ⟨ret_bool HRR.out.symm, HB4.out.trans (HBW.out.mono HB4.out.size)⟩
end Go.Proofs.YtpidpdbjjdkhoaaGreat
