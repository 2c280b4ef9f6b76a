/- Locks, Restore: the lists, each by itself. -/
import Derived.Test.YtpidpdbjjdkhoaaGreatGyA
import Derived.Test.YtpidpdbjjdkhoaaGreatLkQ
import Derived.Test.YtpidpdbjjdkhoaaGreatLkT
namespace Go.Proofs.YtpidpdbjjdkhoaaGreat
open Go.RowKit
set_option linter.unusedSimpArgs false
set_option linter.unusedVariables false
attribute [local go_sem ↓] Go.wp_at_zero Go.wp_at_succ

/-- each member stands ahead of the next one -/
def riseB {α : Type} (R : RowT α) (lt : α → α → Bool) (l : List α) : Bool := (List.range (l.length - 1)).all fun j => lt (gr R l j) (gr R l (j + 1))
theorem rise_yes {α : Type} {R : RowT α} {lt : α → α → Bool} {l : List α} {k : Nat} (hk : l.length ≤ k) (h : ∀ j, j + 1 < k → lt (gr R l j) (gr R l (j + 1)) = true) : riseB R lt l = true := by
  unfold riseB
  rw [List.all_eq_true]
  intro j hj
  have := List.mem_range.1 hj
  exact h j (by omega)
theorem rise_no {α : Type} {R : RowT α} {lt : α → α → Bool} {l : List α} {k : Nat} (hk : k + 1 < l.length) (h : lt (gr R l k) (gr R l (k + 1)) = false) : riseB R lt l = false := by
  unfold riseB
  rw [List.all_eq_false]
  exact ⟨k, List.mem_range.2 (by omega), by rw [h]; simp⟩
def RsRel {α : Type} (R : RowT α) (lt : α → α → Bool) (l : List α) (w : World) (i : Value) (wr : World) : Prop :=
  ∃ k : Nat, i = .int .i64 ((k : Int) + 1) ∧ (k + 1 ≤ l.length ∨ k = 0) ∧ (∀ j, j + 1 < k + 1 → lt (gr R l j) (gr R l (j + 1)) = true) ∧ Below w.heap.size w wr
set_option maxHeartbeats 4000000 in
set_option maxRecDepth 100000 in
theorem riseL_any (A : Option Addr) (c : Nat) (l : List Lk) (w : World) (hr : Reads w w.heap.size 4 A l.length (rc lkR l)) (hl : l.length ≤ 8796093022208) :
    Calls Tryz.prog 69 #[.slice A l.length c, .func (.func 64) #[] #[]] w (BoolIs (riseB lkR ah l) w) := by
  have HR := Lib.hid hr
  have HC := Lib.hid (fun x y w => order_any x y w)
  clear hr
  unfold lkV at HC
  go_enter Tryz.func69, Tryz.ntmps69
  go_wp2
  go_loopw [5] (RsRel lkR ah l w) (fun i _ => l.length - (intOf i).toNat)
  case atStart => exact ⟨0, rfl, .inr rfl, fun j hj => by omega, Below.refl _ _⟩
  case round =>
    obtain ⟨k, rfl, hk, hno, hb⟩ := hrel
    have HNO := Lib.hid hno
    have HBR := Lib.hid hb
    clear hno hb
    by_cases hlt : k + 1 < l.length
    · obtain ⟨b, off, rfl, _, a0, a1, a2, a3⟩ := rdL HR.out (show k < l.length by omega)
      obtain ⟨b_, off_, hA', _, b0, b1, b2, b3⟩ := rdL HR.out hlt
      injection hA' with hA'
      injection hA' with e1 e2
      subst e1 e2
      have HS0 : Hid (∀ w', Below w.heap.size w w' → (w'.cell? ⟨b, off + k * 4, none⟩ = some (.string (gr lkR l k).key) ∧ w'.cell? ⟨b, off + k * 4 + 1, none⟩ = some (.int .i64 (gr lkR l k).id.n) ∧ w'.cell? ⟨b, off + k * 4 + 2, none⟩ = some (.int .i64 (gr lkR l k).id.c) ∧ w'.cell? ⟨b, off + k * 4 + 3, none⟩ = some (.int .i64 (gr lkR l k).mode) ∧ w'.cell? ⟨b, off + (k + 1) * 4, none⟩ = some (.string (gr lkR l (k + 1)).key) ∧ w'.cell? ⟨b, off + (k + 1) * 4 + 1, none⟩ = some (.int .i64 (gr lkR l (k + 1)).id.n) ∧ w'.cell? ⟨b, off + (k + 1) * 4 + 2, none⟩ = some (.int .i64 (gr lkR l (k + 1)).id.c) ∧ w'.cell? ⟨b, off + (k + 1) * 4 + 3, none⟩ = some (.int .i64 (gr lkR l (k + 1)).mode))) := Lib.hid (fun w' hb => by
        obtain ⟨b1, off1, hA1, _, c0, c1, c2, c3⟩ := rdL (HR.out.below hb) (show k < l.length by omega)
        obtain ⟨b2, off2, hA2, _, d0, d1, d2, d3⟩ := rdL (HR.out.below hb) hlt
        injection hA1 with hA1
        injection hA1 with e1 e2
        injection hA2 with hA2
        injection hA2 with e3 e4
        subst e1 e2 e3 e4
        exact ⟨c0, c1, c2, c3, d0, d1, d2, d3⟩)
      have HLT : Hid (cmpL (gr lkR l k) (gr lkR l (k + 1)) < 0 ↔ ah (gr lkR l k) (gr lkR l (k + 1)) = true) := Lib.hid cmpL_neg
      obtain ⟨x, hx⟩ : ∃ x, x = gr lkR l k := ⟨_, rfl⟩
      obtain ⟨y, hy⟩ : ∃ y, y = gr lkR l (k + 1) := ⟨_, rfl⟩
      rw [← hx, ← hy] at HLT HS0
      have HX := Lib.hid hx
      have HY := Lib.hid hy
      have hS : Hid (∀ w', Below wr.heap.size wr w' → (w'.cell? ⟨b, off + k * 4, none⟩ = some (.string x.key) ∧ w'.cell? ⟨b, off + k * 4 + 1, none⟩ = some (.int .i64 x.id.n) ∧ w'.cell? ⟨b, off + k * 4 + 2, none⟩ = some (.int .i64 x.id.c) ∧ w'.cell? ⟨b, off + k * 4 + 3, none⟩ = some (.int .i64 x.mode) ∧ w'.cell? ⟨b, off + (k + 1) * 4, none⟩ = some (.string y.key) ∧ w'.cell? ⟨b, off + (k + 1) * 4 + 1, none⟩ = some (.int .i64 y.id.n) ∧ w'.cell? ⟨b, off + (k + 1) * 4 + 2, none⟩ = some (.int .i64 y.id.c) ∧ w'.cell? ⟨b, off + (k + 1) * 4 + 3, none⟩ = some (.int .i64 y.mode))) := Lib.hid (fun w' hb => HS0.out w' (HBR.out.trans (hb.mono HBR.out.size)))
      have hD : Below wr.heap.size wr wr.drew := below_drewN (Below.refl _ _) 1
      clear hx hy a0 a1 a2 a3 b0 b1 b2 b3
      have z1 : decide ((k : Int) + 1 < (l.length : Int)) = true := decide_eq_true (by omega)
      have z2 : (k : Int) + 1 < (l.length : Int) := by omega
      have z3 : (0 : Int) ≤ (k : Int) + 1 := by omega
      have z4 : IntKind.i64.wrap (k : Int) = (k : Int) := IntWalk.i64_in _ (by omega)
      have z5 : ((k : Int) + 1).toNat = k + 1 := by omega
      have z6 : (0 : Int) ≤ (k : Int) := by omega
      have z7 : (k : Int) < (l.length : Int) := by omega
      obtain ⟨q, hq⟩ : ∃ q, q = cmpL x y := ⟨_, rfl⟩
      rw [← hq] at HLT
      have HC2 := Lib.hid (HC.out x y)
      rw [← hq] at HC2
      clear hq HC
      go_wp2_with fail
      by_cases hn : q < 0
      · have zq : decide (0 ≤ q) = false := decide_eq_false (by omega)
        have HT := Lib.hid (HLT.out.1 hn)
        clear hn
        refine wp_region_heldH (by kernel_rfl) hS (hD) (fun hHeld => ?_)
        refine takes [0, 1, 2, 3, 4, 5, 6, 7, 8, 9] 2 (by kernel_rfl) (by assumption) ?_
        iterate 10 (refine tkY rfl (fun _ _ _ h => h) rfl (by ((intro w hSw); (try dsimp only at hSw); go_simp; (try with_reducible rfl))) ?_; try simp only [Act.put, List.setIfInBounds_toArray, List.set_cons_zero, List.set_cons_succ])
        refine tkE ?_
        refine wpAnyH_ready (rs := [10]) (by kernel_rfl) (by simp) ?_
        refine readyC rfl (fun K hK => ?_) ?_
        ·
          go_simp
          go_at_call 64
          refine (HC2.out _).mono ?_
          rintro e w3 ⟨rfl, hb3⟩
          have HB3 := Lib.hid (hD.trans (hb3.mono hD.size))
          clear hb3
          go_wp2_with fail
          refine hK.out _ _ (by with_reducible exact hS.out _ HB3.out) (fun hHeld => ?_)
          clear hK K
          try simp only [Act.put, List.setIfInBounds_toArray, List.set_cons_zero, List.set_cons_succ]
          refine takes [11] 0 (by kernel_rfl) (by assumption) ?_
          refine tkY rfl (fun _ _ _ h => h) rfl (by ((intro w hSw); (try dsimp only at hSw); go_simp; (try with_reducible rfl))) ?_; try simp only [Act.put, List.setIfInBounds_toArray, List.set_cons_zero, List.set_cons_succ]
          refine tkE ?_
          refine wpAnyH_done (by kernel_rfl) ?_ _
          go_wp2
          go_roundw
          case rel =>
            refine ⟨k + 1, by go_num, .inl (by omega), ?_, HBR.out.trans (HB3.out.mono HBR.out.size)⟩
            intro j hj
            by_cases e : j = k
            · rw [e, ← HX.out, ← HY.out]; exact HT.out
            · exact HNO.out j (by omega)
          case measure => simp [intOf]; omega
        exact AllReadyH.nil
      · have zq : decide (0 ≤ q) = true := decide_eq_true (by omega)
        have HT : Hid (ah x y = false) := Lib.hid (by cases h : ah x y with | false => rfl | true => exact absurd (HLT.out.2 h) hn)
        clear hn
        refine wp_region_heldH (by kernel_rfl) hS (hD) (fun hHeld => ?_)
        refine takes [0, 1, 2, 3, 4, 5, 6, 7, 8, 9] 2 (by kernel_rfl) (by assumption) ?_
        iterate 10 (refine tkY rfl (fun _ _ _ h => h) rfl (by ((intro w hSw); (try dsimp only at hSw); go_simp; (try with_reducible rfl))) ?_; try simp only [Act.put, List.setIfInBounds_toArray, List.set_cons_zero, List.set_cons_succ])
        refine tkE ?_
        refine wpAnyH_ready (rs := [10]) (by kernel_rfl) (by simp) ?_
        refine readyC rfl (fun K hK => ?_) ?_
        ·
          go_simp
          go_at_call 64
          refine (HC2.out _).mono ?_
          rintro e w3 ⟨rfl, hb3⟩
          have HB3 := Lib.hid (hD.trans (hb3.mono hD.size))
          clear hb3
          go_wp2_with fail
          refine hK.out _ _ (by with_reducible exact hS.out _ HB3.out) (fun hHeld => ?_)
          clear hK K
          try simp only [Act.put, List.setIfInBounds_toArray, List.set_cons_zero, List.set_cons_succ]
          refine takes [11] 0 (by kernel_rfl) (by assumption) ?_
          refine tkY rfl (fun _ _ _ h => h) rfl (by ((intro w hSw); (try dsimp only at hSw); go_simp; (try with_reducible rfl))) ?_; try simp only [Act.put, List.setIfInBounds_toArray, List.set_cons_zero, List.set_cons_succ]
          refine tkE ?_
          refine wpAnyH_done (by kernel_rfl) ?_ _
          go_wp2
          go_ret
          exact ⟨ret_bool (rise_no hlt (by rw [← HX.out, ← HY.out]; exact HT.out)).symm, HBR.out.trans (HB3.out.mono HBR.out.size)⟩
        exact AllReadyH.nil
    · have z1 : decide ((k : Int) + 1 < (l.length : Int)) = false := decide_eq_false (by omega)
      have z2 : ¬ (k : Int) + 1 < (l.length : Int) := by omega
      go_wp2
      go_ret
      exact ⟨ret_bool (rise_yes (k := k + 1) (by omega) HNO.out).symm, HBR.out⟩
set_option maxHeartbeats 4000000 in
set_option maxRecDepth 100000 in
theorem riseI_any (A : Option Addr) (c : Nat) (l : List Idn) (w : World) (hr : Reads w w.heap.size 2 A l.length (rc idR l)) (hl : l.length ≤ 8796093022208) :
    Calls Tryz.prog 70 #[.slice A l.length c, .func (.func 71) #[] #[]] w (BoolIs (riseB idR ol l) w) := by
  have HR := Lib.hid hr
  have HC := Lib.hid (fun x y w => age_cmp x y w)
  clear hr
  unfold idV at HC
  go_enter Tryz.func70, Tryz.ntmps70
  go_wp2
  go_loopw [5] (RsRel idR ol l w) (fun i _ => l.length - (intOf i).toNat)
  case atStart => exact ⟨0, rfl, .inr rfl, fun j hj => by omega, Below.refl _ _⟩
  case round =>
    obtain ⟨k, rfl, hk, hno, hb⟩ := hrel
    have HNO := Lib.hid hno
    have HBR := Lib.hid hb
    clear hno hb
    by_cases hlt : k + 1 < l.length
    · obtain ⟨b, off, rfl, _, a0, a1⟩ := rdI HR.out (show k < l.length by omega)
      obtain ⟨b_, off_, hA', _, b0, b1⟩ := rdI HR.out hlt
      injection hA' with hA'
      injection hA' with e1 e2
      subst e1 e2
      have HS0 : Hid (∀ w', Below w.heap.size w w' → (w'.cell? ⟨b, off + k * 2, none⟩ = some (.int .i64 (gr idR l k).n) ∧ w'.cell? ⟨b, off + k * 2 + 1, none⟩ = some (.int .i64 (gr idR l k).c) ∧ w'.cell? ⟨b, off + (k + 1) * 2, none⟩ = some (.int .i64 (gr idR l (k + 1)).n) ∧ w'.cell? ⟨b, off + (k + 1) * 2 + 1, none⟩ = some (.int .i64 (gr idR l (k + 1)).c))) := Lib.hid (fun w' hb => by
        obtain ⟨b1, off1, hA1, _, c0, c1⟩ := rdI (HR.out.below hb) (show k < l.length by omega)
        obtain ⟨b2, off2, hA2, _, d0, d1⟩ := rdI (HR.out.below hb) hlt
        injection hA1 with hA1
        injection hA1 with e1 e2
        injection hA2 with hA2
        injection hA2 with e3 e4
        subst e1 e2 e3 e4
        exact ⟨c0, c1, d0, d1⟩)
      have HLT : Hid (cmpI (gr idR l k) (gr idR l (k + 1)) < 0 ↔ ol (gr idR l k) (gr idR l (k + 1)) = true) := Lib.hid cmpI_neg
      obtain ⟨x, hx⟩ : ∃ x, x = gr idR l k := ⟨_, rfl⟩
      obtain ⟨y, hy⟩ : ∃ y, y = gr idR l (k + 1) := ⟨_, rfl⟩
      rw [← hx, ← hy] at HLT HS0
      have HX := Lib.hid hx
      have HY := Lib.hid hy
      have hS : Hid (∀ w', Below wr.heap.size wr w' → (w'.cell? ⟨b, off + k * 2, none⟩ = some (.int .i64 x.n) ∧ w'.cell? ⟨b, off + k * 2 + 1, none⟩ = some (.int .i64 x.c) ∧ w'.cell? ⟨b, off + (k + 1) * 2, none⟩ = some (.int .i64 y.n) ∧ w'.cell? ⟨b, off + (k + 1) * 2 + 1, none⟩ = some (.int .i64 y.c))) := Lib.hid (fun w' hb => HS0.out w' (HBR.out.trans (hb.mono HBR.out.size)))
      have hD : Below wr.heap.size wr wr.drew := below_drewN (Below.refl _ _) 1
      clear hx hy a0 a1 b0 b1
      have z1 : decide ((k : Int) + 1 < (l.length : Int)) = true := decide_eq_true (by omega)
      have z2 : (k : Int) + 1 < (l.length : Int) := by omega
      have z3 : (0 : Int) ≤ (k : Int) + 1 := by omega
      have z4 : IntKind.i64.wrap (k : Int) = (k : Int) := IntWalk.i64_in _ (by omega)
      have z5 : ((k : Int) + 1).toNat = k + 1 := by omega
      have z6 : (0 : Int) ≤ (k : Int) := by omega
      have z7 : (k : Int) < (l.length : Int) := by omega
      obtain ⟨q, hq⟩ : ∃ q, q = cmpI x y := ⟨_, rfl⟩
      rw [← hq] at HLT
      have HC2 := Lib.hid (HC.out x y)
      rw [← hq] at HC2
      clear hq HC
      go_wp2_with fail
      by_cases hn : q < 0
      · have zq : decide (0 ≤ q) = false := decide_eq_false (by omega)
        have HT := Lib.hid (HLT.out.1 hn)
        clear hn
        refine wp_region_heldH (by kernel_rfl) hS (hD) (fun hHeld => ?_)
        refine takes [0, 1, 2, 3, 4, 5, 6, 7, 8, 9] 2 (by kernel_rfl) (by assumption) ?_
        iterate 10 (refine tkY rfl (fun _ _ _ h => h) rfl (by ((intro w hSw); (try dsimp only at hSw); go_simp; (try with_reducible rfl))) ?_; try simp only [Act.put, List.setIfInBounds_toArray, List.set_cons_zero, List.set_cons_succ])
        refine tkE ?_
        refine wpAnyH_ready (rs := [10]) (by kernel_rfl) (by simp) ?_
        refine readyC rfl (fun K hK => ?_) ?_
        ·
          go_simp
          go_at_call 71
          refine (HC2.out _).mono ?_
          rintro e w3 ⟨rfl, hb3⟩
          have HB3 := Lib.hid (hD.trans (hb3.mono hD.size))
          clear hb3
          go_wp2_with fail
          refine hK.out _ _ (by with_reducible exact hS.out _ HB3.out) (fun hHeld => ?_)
          clear hK K
          try simp only [Act.put, List.setIfInBounds_toArray, List.set_cons_zero, List.set_cons_succ]
          refine takes [11] 0 (by kernel_rfl) (by assumption) ?_
          refine tkY rfl (fun _ _ _ h => h) rfl (by ((intro w hSw); (try dsimp only at hSw); go_simp; (try with_reducible rfl))) ?_; try simp only [Act.put, List.setIfInBounds_toArray, List.set_cons_zero, List.set_cons_succ]
          refine tkE ?_
          refine wpAnyH_done (by kernel_rfl) ?_ _
          go_wp2
          go_roundw
          case rel =>
            refine ⟨k + 1, by go_num, .inl (by omega), ?_, HBR.out.trans (HB3.out.mono HBR.out.size)⟩
            intro j hj
            by_cases e : j = k
            · rw [e, ← HX.out, ← HY.out]; exact HT.out
            · exact HNO.out j (by omega)
          case measure => simp [intOf]; omega
        exact AllReadyH.nil
      · have zq : decide (0 ≤ q) = true := decide_eq_true (by omega)
        have HT : Hid (ol x y = false) := Lib.hid (by cases h : ol x y with | false => rfl | true => exact absurd (HLT.out.2 h) hn)
        clear hn
        refine wp_region_heldH (by kernel_rfl) hS (hD) (fun hHeld => ?_)
        refine takes [0, 1, 2, 3, 4, 5, 6, 7, 8, 9] 2 (by kernel_rfl) (by assumption) ?_
        iterate 10 (refine tkY rfl (fun _ _ _ h => h) rfl (by ((intro w hSw); (try dsimp only at hSw); go_simp; (try with_reducible rfl))) ?_; try simp only [Act.put, List.setIfInBounds_toArray, List.set_cons_zero, List.set_cons_succ])
        refine tkE ?_
        refine wpAnyH_ready (rs := [10]) (by kernel_rfl) (by simp) ?_
        refine readyC rfl (fun K hK => ?_) ?_
        ·
          go_simp
          go_at_call 71
          refine (HC2.out _).mono ?_
          rintro e w3 ⟨rfl, hb3⟩
          have HB3 := Lib.hid (hD.trans (hb3.mono hD.size))
          clear hb3
          go_wp2_with fail
          refine hK.out _ _ (by with_reducible exact hS.out _ HB3.out) (fun hHeld => ?_)
          clear hK K
          try simp only [Act.put, List.setIfInBounds_toArray, List.set_cons_zero, List.set_cons_succ]
          refine takes [11] 0 (by kernel_rfl) (by assumption) ?_
          refine tkY rfl (fun _ _ _ h => h) rfl (by ((intro w hSw); (try dsimp only at hSw); go_simp; (try with_reducible rfl))) ?_; try simp only [Act.put, List.setIfInBounds_toArray, List.set_cons_zero, List.set_cons_succ]
          refine tkE ?_
          refine wpAnyH_done (by kernel_rfl) ?_ _
          go_wp2
          go_ret
          exact ⟨ret_bool (rise_no hlt (by rw [← HX.out, ← HY.out]; exact HT.out)).symm, HBR.out.trans (HB3.out.mono HBR.out.size)⟩
        exact AllReadyH.nil
    · have z1 : decide ((k : Int) + 1 < (l.length : Int)) = false := decide_eq_false (by omega)
      have z2 : ¬ (k : Int) + 1 < (l.length : Int) := by omega
      go_wp2
      go_ret
      exact ⟨ret_bool (rise_yes (k := k + 1) (by omega) HNO.out).symm, HBR.out⟩
/-- a table whose lists are as they may be -/
structure TbW (w : World) (d : Nat) (q : Tb) (m : TbM) : Prop where
  blk : Blk w d 47 (tbC q m)
  oh : w.ownsRow 0 62 4 (.slice m.ah q.held.length m.ch) q.held.length (rc lkR q.held)
  ow : w.ownsRow 0 62 4 (.slice m.aw q.wait.length m.cw) q.wait.length (rc lkR q.wait)
  op : w.ownsRow 0 29 2 (.slice m.ap q.prep.length m.cp) q.prep.length (rc idR q.prep)
  ou : w.ownsRow 0 29 2 (.slice m.au q.hurt.length m.cu) q.hurt.length (rc idR q.hurt)
  shw : ∀ k ∈ ob m.ah, k ∉ ob m.aw
  spu : ∀ k ∈ ob m.ap, k ∉ ob m.au
  fh : q.held.length + q.wait.length ≤ 1000
  fm : q.prep.length ≤ 8796093022208 ∧ q.hurt.length ≤ 8796093022208
theorem TbW.good {w : World} {d : Nat} {q : Tb} {m : TbM} (h : TbW w d q m) (hg : Good q) : TbAt w d q m := ⟨h.blk, h.oh, h.ow, h.op, h.ou, h.shw, h.spu, hg, h.fh, h.fm⟩
theorem TbW.below {w w' : World} {d : Nat} {q : Tb} {m : TbM} (h : TbW w d q m) (hb : Below w.heap.size w w') : TbW w' d q m :=
  have hk := Kept.of_below (S := []) hb
  ⟨hk.blk h.blk (by simp), hk.own h.oh (by simp), hk.own h.ow (by simp), hk.own h.op (by simp), hk.own h.ou (by simp), h.shw, h.spu, h.fh, h.fm⟩
theorem contfI (g : Nat) (lb : Array Value) (eg : ∀ args w, (callFunc g args).run Tryz.prog w = .ok (.enter g args) w) (p : Idn → Bool) (A : Option Addr) (c B : Nat) (l : List Idn) (w : World) (hr : Reads w B 2 A l.length (rc idR l)) (hB : B ≤ w.heap.size) (hl : l.length ≤ 8796093022208)
    (h : ∀ x W, Below w.heap.size w W → Calls Tryz.prog g (#[idV x] ++ lb) W (BoolIs (p x) W)) :
    Calls Tryz.prog 68 #[.slice A l.length c, .func (.func g) #[] lb] w (BoolIs (l.any p) w) := by
  have HI := Lib.hid (idxfI g lb eg p (PureSt [] w) [] (pure_qI (fun x W hk => h x W hk.below0)) A c B l w hr hB (by simp) ⟨rfl, Kept.refl _ _⟩ hl)
  clear hr h
  go_enter Tryz.func68, Tryz.ntmps68
  go_wp2_with fail
  refine HI.out.mono ?_
  rintro e w1 ⟨r, S', rfl, hr, hs⟩
  have HA := Lib.hid (idx_anyI hr)
  have HM := Lib.hid hs
  clear hr hs
  go_wp2
  go_ret
  exact ⟨ret_bool HA.out.1, HM.out.none⟩
def badL (x : Lk) : Bool := soundE x != 0
def badI (x : Idn) : Bool := idE x != 0
set_option maxHeartbeats 1000000 in
theorem lists1 (x : Lk) (w : World) : Calls Tryz.prog 65 #[lkV x] w (BoolIs (badL x) w) := by
  have HC := Lib.hid (fun w => sound_any x w)
  have HR : Hid ((soundE x != 0) = badL x) := Lib.hid rfl
  unfold lkV at HC ⊢
  obtain ⟨q, hq⟩ : ∃ q, q = soundE x := ⟨_, rfl⟩
  rw [← hq] at HC HR
  clear hq
  go_enter Tryz.func65, Tryz.ntmps65
  go_upto_region 1 with fail
  have HB := Lib.hid (below_alloc w (.cells #[.string x.key, .int .i64 x.id.n, .int .i64 x.id.c, .int .i64 x.mode] 62))
  have k1 := Blk.new w 62 #[.string x.key, .int .i64 x.id.n, .int .i64 x.id.c, .int .i64 x.mode]
  have HB1 := Lib.hid (below_alloc w (.cells #[.string x.key, .int .i64 x.id.n, .int .i64 x.id.c, .int .i64 x.mode] 62))
  obtain ⟨w2, hw2⟩ : ∃ w2, w2 = (w.alloc (.cells #[.string x.key, .int .i64 x.id.n, .int .i64 x.id.c, .int .i64 x.mode] 62)) := ⟨_, rfl⟩
  obtain ⟨p1, hp1⟩ : ∃ p1, p1 = w.heap.size := ⟨_, rfl⟩
  rw [← hw2] at HB1 k1
  rw [← hp1] at k1
  rw [← hw2]
  rw [← hp1]
  clear hw2 hp1
  have x10 : w2.cell? ⟨p1, 0, none⟩ = some (.string x.key) := k1.cell 0
  have x11 : w2.cell? ⟨p1, 1, none⟩ = some (.int .i64 x.id.n) := k1.cell 1
  have x12 : w2.cell? ⟨p1, 2, none⟩ = some (.int .i64 x.id.c) := k1.cell 2
  have x13 : w2.cell? ⟨p1, 3, none⟩ = some (.int .i64 x.mode) := k1.cell 3
  clear k1
  go_wp2_with fail
  refine (HC.out _).mono ?_
  rintro e w3 ⟨rfl, hb3⟩
  have HB3 := Lib.hid (HB1.out.trans (hb3.mono HB1.out.size))
  clear hb3
  go_wp2
  go_ret
  exact ⟨ret_bool HR.out, HB3.out⟩
set_option maxHeartbeats 1000000 in
theorem lists2 (x : Idn) (w : World) : Calls Tryz.prog 66 #[idV x] w (BoolIs (badI x) w) := by
  have HC := Lib.hid (fun w => check_any x w)
  have HR : Hid ((idE x != 0) = badI x) := Lib.hid rfl
  unfold idV at HC ⊢
  obtain ⟨q, hq⟩ : ∃ q, q = idE x := ⟨_, rfl⟩
  rw [← hq] at HC HR
  clear hq
  go_enter Tryz.func66, Tryz.ntmps66
  go_upto_region 1 with fail
  have HB := Lib.hid (below_alloc w (.cells #[.int .i64 x.n, .int .i64 x.c] 29))
  have k1 := Blk.new w 29 #[.int .i64 x.n, .int .i64 x.c]
  have HB1 := Lib.hid (below_alloc w (.cells #[.int .i64 x.n, .int .i64 x.c] 29))
  obtain ⟨w2, hw2⟩ : ∃ w2, w2 = (w.alloc (.cells #[.int .i64 x.n, .int .i64 x.c] 29)) := ⟨_, rfl⟩
  obtain ⟨p1, hp1⟩ : ∃ p1, p1 = w.heap.size := ⟨_, rfl⟩
  rw [← hw2] at HB1 k1
  rw [← hp1] at k1
  rw [← hw2]
  rw [← hp1]
  clear hw2 hp1
  have x10 : w2.cell? ⟨p1, 0, none⟩ = some (.int .i64 x.n) := k1.cell 0
  have x11 : w2.cell? ⟨p1, 1, none⟩ = some (.int .i64 x.c) := k1.cell 1
  clear k1
  go_wp2_with fail
  refine (HC.out _).mono ?_
  rintro e w3 ⟨rfl, hb3⟩
  have HB3 := Lib.hid (HB1.out.trans (hb3.mono HB1.out.size))
  clear hb3
  go_wp2
  go_ret
  exact ⟨ret_bool HR.out, HB3.out⟩
def listsB (q : Tb) : Bool := !(q.held.any badL) && (!(q.wait.any badL) && (!(q.prep.any badI) && (!(q.hurt.any badI) && ((riseB lkR ah q.held) && ((riseB lkR ah q.wait) && ((riseB idR ol q.prep) && (riseB idR ol q.hurt)))))))
set_option maxHeartbeats 8000000 in
set_option maxRecDepth 100000 in
theorem lists_any {w : World} {d : Nat} {q : Tb} {m : TbM} (h : TbW w d q m) : Calls Tryz.prog 31 #[.pointer (some ⟨d, 0, none⟩)] w (BoolIs (listsB q) w) := by
  have HT := Lib.hid h
  have HB0 : Hid (Below w.heap.size w w) := Lib.hid (Below.refl _ _)
  clear h
  have H0 := Lib.hid (fun w' (hb : Below w.heap.size w w') => anyQ 65 #[] (enters_of Tryz.func65 (by kernel_rfl) rfl) badL m.ah m.ch w'.heap.size q.held w' (Reads.of_own (HT.out.below hb).oh) (Nat.le_refl _) (by have := HT.out.fh; omega) (fun x W _ => lists1 x W))
  have H1 := Lib.hid (fun w' (hb : Below w.heap.size w w') => anyQ 65 #[] (enters_of Tryz.func65 (by kernel_rfl) rfl) badL m.aw m.cw w'.heap.size q.wait w' (Reads.of_own (HT.out.below hb).ow) (Nat.le_refl _) (by have := HT.out.fh; omega) (fun x W _ => lists1 x W))
  have H2 := Lib.hid (fun w' (hb : Below w.heap.size w w') => contfI 66 #[] (enters_of Tryz.func66 (by kernel_rfl) rfl) badI m.ap m.cp w'.heap.size q.prep w' (Reads.of_own (HT.out.below hb).op) (Nat.le_refl _) (by have := HT.out.fm; omega) (fun x W _ => lists2 x W))
  have H3 := Lib.hid (fun w' (hb : Below w.heap.size w w') => contfI 66 #[] (enters_of Tryz.func66 (by kernel_rfl) rfl) badI m.au m.cu w'.heap.size q.hurt w' (Reads.of_own (HT.out.below hb).ou) (Nat.le_refl _) (by have := HT.out.fm; omega) (fun x W _ => lists2 x W))
  have H4 := Lib.hid (fun w' (hb : Below w.heap.size w w') => riseL_any m.ah m.ch q.held w' (Reads.of_own (HT.out.below hb).oh) (by have := HT.out.fh; omega))
  have H5 := Lib.hid (fun w' (hb : Below w.heap.size w w') => riseL_any m.aw m.cw q.wait w' (Reads.of_own (HT.out.below hb).ow) (by have := HT.out.fh; omega))
  have H6 := Lib.hid (fun w' (hb : Below w.heap.size w w') => riseI_any m.ap m.cp q.prep w' (Reads.of_own (HT.out.below hb).op) (by have := HT.out.fm; omega))
  have H7 := Lib.hid (fun w' (hb : Below w.heap.size w w') => riseI_any m.au m.cu q.hurt w' (Reads.of_own (HT.out.below hb).ou) (by have := HT.out.fm; omega))
  cases e0 : (q.held.any badL) with
  | true =>
    have HR : Hid (listsB q = false) := Lib.hid (by unfold listsB; rw [e0]; rfl)
    rw [e0] at H0
    clear e0
    go_enter Tryz.func31, Tryz.ntmps31
    have y := (HT.out.blk.cell 1)
    change w.cell? ⟨d, 1, none⟩ = some (.slice m.ah q.held.length m.ch) at y
    go_wp2_with fail
    clear y
    refine (H0.out w HB0.out).mono ?_
    rintro e w1 ⟨rfl, hb_⟩
    have HB1 := Lib.hid (HB0.out.trans (hb_.mono HB0.out.size))
    clear hb_
    go_wp2
    go_ret
    exact ⟨ret_bool HR.out.symm, HB1.out⟩
  | false =>
    cases e1 : (q.wait.any badL) with
    | true =>
      have HR : Hid (listsB q = false) := Lib.hid (by unfold listsB; rw [e0, e1]; rfl)
      rw [e0] at H0
      rw [e1] at H1
      clear e0 e1
      go_enter Tryz.func31, Tryz.ntmps31
      have y := (HT.out.blk.cell 1)
      change w.cell? ⟨d, 1, none⟩ = some (.slice m.ah q.held.length m.ch) at y
      go_wp2_with fail
      clear y
      refine (H0.out w HB0.out).mono ?_
      rintro e w1 ⟨rfl, hb_⟩
      have HB1 := Lib.hid (HB0.out.trans (hb_.mono HB0.out.size))
      clear hb_
      have y : w1.cell? ⟨d, 2, none⟩ = some (.slice m.aw q.wait.length m.cw) := (HT.out.below HB1.out).blk.cell 2
      go_wp2_with fail
      clear y
      refine (H1.out w1 HB1.out).mono ?_
      rintro e w2 ⟨rfl, hb_⟩
      have HB2 := Lib.hid (HB1.out.trans (hb_.mono HB1.out.size))
      clear hb_
      go_wp2
      go_ret
      exact ⟨ret_bool HR.out.symm, HB2.out⟩
    | false =>
      cases e2 : (q.prep.any badI) with
      | true =>
        have HR : Hid (listsB q = false) := Lib.hid (by unfold listsB; rw [e0, e1, e2]; rfl)
        rw [e0] at H0
        rw [e1] at H1
        rw [e2] at H2
        clear e0 e1 e2
        go_enter Tryz.func31, Tryz.ntmps31
        have y := (HT.out.blk.cell 1)
        change w.cell? ⟨d, 1, none⟩ = some (.slice m.ah q.held.length m.ch) at y
        go_wp2_with fail
        clear y
        refine (H0.out w HB0.out).mono ?_
        rintro e w1 ⟨rfl, hb_⟩
        have HB1 := Lib.hid (HB0.out.trans (hb_.mono HB0.out.size))
        clear hb_
        have y : w1.cell? ⟨d, 2, none⟩ = some (.slice m.aw q.wait.length m.cw) := (HT.out.below HB1.out).blk.cell 2
        go_wp2_with fail
        clear y
        refine (H1.out w1 HB1.out).mono ?_
        rintro e w2 ⟨rfl, hb_⟩
        have HB2 := Lib.hid (HB1.out.trans (hb_.mono HB1.out.size))
        clear hb_
        have y : w2.cell? ⟨d, 3, none⟩ = some (.slice m.ap q.prep.length m.cp) := (HT.out.below HB2.out).blk.cell 3
        go_wp2_with fail
        clear y
        refine (H2.out w2 HB2.out).mono ?_
        rintro e w3 ⟨rfl, hb_⟩
        have HB3 := Lib.hid (HB2.out.trans (hb_.mono HB2.out.size))
        clear hb_
        go_wp2
        go_ret
        exact ⟨ret_bool HR.out.symm, HB3.out⟩
      | false =>
        cases e3 : (q.hurt.any badI) with
        | true =>
          have HR : Hid (listsB q = false) := Lib.hid (by unfold listsB; rw [e0, e1, e2, e3]; rfl)
          rw [e0] at H0
          rw [e1] at H1
          rw [e2] at H2
          rw [e3] at H3
          clear e0 e1 e2 e3
          go_enter Tryz.func31, Tryz.ntmps31
          have y := (HT.out.blk.cell 1)
          change w.cell? ⟨d, 1, none⟩ = some (.slice m.ah q.held.length m.ch) at y
          go_wp2_with fail
          clear y
          refine (H0.out w HB0.out).mono ?_
          rintro e w1 ⟨rfl, hb_⟩
          have HB1 := Lib.hid (HB0.out.trans (hb_.mono HB0.out.size))
          clear hb_
          have y : w1.cell? ⟨d, 2, none⟩ = some (.slice m.aw q.wait.length m.cw) := (HT.out.below HB1.out).blk.cell 2
          go_wp2_with fail
          clear y
          refine (H1.out w1 HB1.out).mono ?_
          rintro e w2 ⟨rfl, hb_⟩
          have HB2 := Lib.hid (HB1.out.trans (hb_.mono HB1.out.size))
          clear hb_
          have y : w2.cell? ⟨d, 3, none⟩ = some (.slice m.ap q.prep.length m.cp) := (HT.out.below HB2.out).blk.cell 3
          go_wp2_with fail
          clear y
          refine (H2.out w2 HB2.out).mono ?_
          rintro e w3 ⟨rfl, hb_⟩
          have HB3 := Lib.hid (HB2.out.trans (hb_.mono HB2.out.size))
          clear hb_
          have y : w3.cell? ⟨d, 4, none⟩ = some (.slice m.au q.hurt.length m.cu) := (HT.out.below HB3.out).blk.cell 4
          go_wp2_with fail
          clear y
          refine (H3.out w3 HB3.out).mono ?_
          rintro e w4 ⟨rfl, hb_⟩
          have HB4 := Lib.hid (HB3.out.trans (hb_.mono HB3.out.size))
          clear hb_
          go_wp2
          go_ret
          exact ⟨ret_bool HR.out.symm, HB4.out⟩
        | false =>
          cases e4 : (riseB lkR ah q.held) with
          | false =>
            have HR : Hid (listsB q = false) := Lib.hid (by unfold listsB; rw [e0, e1, e2, e3, e4]; rfl)
            rw [e0] at H0
            rw [e1] at H1
            rw [e2] at H2
            rw [e3] at H3
            rw [e4] at H4
            clear e0 e1 e2 e3 e4
            go_enter Tryz.func31, Tryz.ntmps31
            have y := (HT.out.blk.cell 1)
            change w.cell? ⟨d, 1, none⟩ = some (.slice m.ah q.held.length m.ch) at y
            go_wp2_with fail
            clear y
            refine (H0.out w HB0.out).mono ?_
            rintro e w1 ⟨rfl, hb_⟩
            have HB1 := Lib.hid (HB0.out.trans (hb_.mono HB0.out.size))
            clear hb_
            have y : w1.cell? ⟨d, 2, none⟩ = some (.slice m.aw q.wait.length m.cw) := (HT.out.below HB1.out).blk.cell 2
            go_wp2_with fail
            clear y
            refine (H1.out w1 HB1.out).mono ?_
            rintro e w2 ⟨rfl, hb_⟩
            have HB2 := Lib.hid (HB1.out.trans (hb_.mono HB1.out.size))
            clear hb_
            have y : w2.cell? ⟨d, 3, none⟩ = some (.slice m.ap q.prep.length m.cp) := (HT.out.below HB2.out).blk.cell 3
            go_wp2_with fail
            clear y
            refine (H2.out w2 HB2.out).mono ?_
            rintro e w3 ⟨rfl, hb_⟩
            have HB3 := Lib.hid (HB2.out.trans (hb_.mono HB2.out.size))
            clear hb_
            have y : w3.cell? ⟨d, 4, none⟩ = some (.slice m.au q.hurt.length m.cu) := (HT.out.below HB3.out).blk.cell 4
            go_wp2_with fail
            clear y
            refine (H3.out w3 HB3.out).mono ?_
            rintro e w4 ⟨rfl, hb_⟩
            have HB4 := Lib.hid (HB3.out.trans (hb_.mono HB3.out.size))
            clear hb_
            have y : w4.cell? ⟨d, 1, none⟩ = some (.slice m.ah q.held.length m.ch) := (HT.out.below HB4.out).blk.cell 1
            go_wp2_with fail
            clear y
            refine (H4.out w4 HB4.out).mono ?_
            rintro e w5 ⟨rfl, hb_⟩
            have HB5 := Lib.hid (HB4.out.trans (hb_.mono HB4.out.size))
            clear hb_
            go_wp2
            go_ret
            exact ⟨ret_bool HR.out.symm, HB5.out⟩
          | true =>
            cases e5 : (riseB lkR ah q.wait) with
            | false =>
              have HR : Hid (listsB q = false) := Lib.hid (by unfold listsB; rw [e0, e1, e2, e3, e4, e5]; rfl)
              rw [e0] at H0
              rw [e1] at H1
              rw [e2] at H2
              rw [e3] at H3
              rw [e4] at H4
              rw [e5] at H5
              clear e0 e1 e2 e3 e4 e5
              go_enter Tryz.func31, Tryz.ntmps31
              have y := (HT.out.blk.cell 1)
              change w.cell? ⟨d, 1, none⟩ = some (.slice m.ah q.held.length m.ch) at y
              go_wp2_with fail
              clear y
              refine (H0.out w HB0.out).mono ?_
              rintro e w1 ⟨rfl, hb_⟩
              have HB1 := Lib.hid (HB0.out.trans (hb_.mono HB0.out.size))
              clear hb_
              have y : w1.cell? ⟨d, 2, none⟩ = some (.slice m.aw q.wait.length m.cw) := (HT.out.below HB1.out).blk.cell 2
              go_wp2_with fail
              clear y
              refine (H1.out w1 HB1.out).mono ?_
              rintro e w2 ⟨rfl, hb_⟩
              have HB2 := Lib.hid (HB1.out.trans (hb_.mono HB1.out.size))
              clear hb_
              have y : w2.cell? ⟨d, 3, none⟩ = some (.slice m.ap q.prep.length m.cp) := (HT.out.below HB2.out).blk.cell 3
              go_wp2_with fail
              clear y
              refine (H2.out w2 HB2.out).mono ?_
              rintro e w3 ⟨rfl, hb_⟩
              have HB3 := Lib.hid (HB2.out.trans (hb_.mono HB2.out.size))
              clear hb_
              have y : w3.cell? ⟨d, 4, none⟩ = some (.slice m.au q.hurt.length m.cu) := (HT.out.below HB3.out).blk.cell 4
              go_wp2_with fail
              clear y
              refine (H3.out w3 HB3.out).mono ?_
              rintro e w4 ⟨rfl, hb_⟩
              have HB4 := Lib.hid (HB3.out.trans (hb_.mono HB3.out.size))
              clear hb_
              have y : w4.cell? ⟨d, 1, none⟩ = some (.slice m.ah q.held.length m.ch) := (HT.out.below HB4.out).blk.cell 1
              go_wp2_with fail
              clear y
              refine (H4.out w4 HB4.out).mono ?_
              rintro e w5 ⟨rfl, hb_⟩
              have HB5 := Lib.hid (HB4.out.trans (hb_.mono HB4.out.size))
              clear hb_
              have y : w5.cell? ⟨d, 2, none⟩ = some (.slice m.aw q.wait.length m.cw) := (HT.out.below HB5.out).blk.cell 2
              go_wp2_with fail
              clear y
              refine (H5.out w5 HB5.out).mono ?_
              rintro e w6 ⟨rfl, hb_⟩
              have HB6 := Lib.hid (HB5.out.trans (hb_.mono HB5.out.size))
              clear hb_
              go_wp2
              go_ret
              exact ⟨ret_bool HR.out.symm, HB6.out⟩
            | true =>
              cases e6 : (riseB idR ol q.prep) with
              | false =>
                have HR : Hid (listsB q = false) := Lib.hid (by unfold listsB; rw [e0, e1, e2, e3, e4, e5, e6]; rfl)
                rw [e0] at H0
                rw [e1] at H1
                rw [e2] at H2
                rw [e3] at H3
                rw [e4] at H4
                rw [e5] at H5
                rw [e6] at H6
                clear e0 e1 e2 e3 e4 e5 e6
                go_enter Tryz.func31, Tryz.ntmps31
                have y := (HT.out.blk.cell 1)
                change w.cell? ⟨d, 1, none⟩ = some (.slice m.ah q.held.length m.ch) at y
                go_wp2_with fail
                clear y
                refine (H0.out w HB0.out).mono ?_
                rintro e w1 ⟨rfl, hb_⟩
                have HB1 := Lib.hid (HB0.out.trans (hb_.mono HB0.out.size))
                clear hb_
                have y : w1.cell? ⟨d, 2, none⟩ = some (.slice m.aw q.wait.length m.cw) := (HT.out.below HB1.out).blk.cell 2
                go_wp2_with fail
                clear y
                refine (H1.out w1 HB1.out).mono ?_
                rintro e w2 ⟨rfl, hb_⟩
                have HB2 := Lib.hid (HB1.out.trans (hb_.mono HB1.out.size))
                clear hb_
                have y : w2.cell? ⟨d, 3, none⟩ = some (.slice m.ap q.prep.length m.cp) := (HT.out.below HB2.out).blk.cell 3
                go_wp2_with fail
                clear y
                refine (H2.out w2 HB2.out).mono ?_
                rintro e w3 ⟨rfl, hb_⟩
                have HB3 := Lib.hid (HB2.out.trans (hb_.mono HB2.out.size))
                clear hb_
                have y : w3.cell? ⟨d, 4, none⟩ = some (.slice m.au q.hurt.length m.cu) := (HT.out.below HB3.out).blk.cell 4
                go_wp2_with fail
                clear y
                refine (H3.out w3 HB3.out).mono ?_
                rintro e w4 ⟨rfl, hb_⟩
                have HB4 := Lib.hid (HB3.out.trans (hb_.mono HB3.out.size))
                clear hb_
                have y : w4.cell? ⟨d, 1, none⟩ = some (.slice m.ah q.held.length m.ch) := (HT.out.below HB4.out).blk.cell 1
                go_wp2_with fail
                clear y
                refine (H4.out w4 HB4.out).mono ?_
                rintro e w5 ⟨rfl, hb_⟩
                have HB5 := Lib.hid (HB4.out.trans (hb_.mono HB4.out.size))
                clear hb_
                have y : w5.cell? ⟨d, 2, none⟩ = some (.slice m.aw q.wait.length m.cw) := (HT.out.below HB5.out).blk.cell 2
                go_wp2_with fail
                clear y
                refine (H5.out w5 HB5.out).mono ?_
                rintro e w6 ⟨rfl, hb_⟩
                have HB6 := Lib.hid (HB5.out.trans (hb_.mono HB5.out.size))
                clear hb_
                have y : w6.cell? ⟨d, 3, none⟩ = some (.slice m.ap q.prep.length m.cp) := (HT.out.below HB6.out).blk.cell 3
                go_wp2_with fail
                clear y
                refine (H6.out w6 HB6.out).mono ?_
                rintro e w7 ⟨rfl, hb_⟩
                have HB7 := Lib.hid (HB6.out.trans (hb_.mono HB6.out.size))
                clear hb_
                go_wp2
                go_ret
                exact ⟨ret_bool HR.out.symm, HB7.out⟩
              | true =>
                cases e7 : (riseB idR ol q.hurt) with
                | false =>
                  have HR : Hid (listsB q = false) := Lib.hid (by unfold listsB; rw [e0, e1, e2, e3, e4, e5, e6, e7]; rfl)
                  rw [e0] at H0
                  rw [e1] at H1
                  rw [e2] at H2
                  rw [e3] at H3
                  rw [e4] at H4
                  rw [e5] at H5
                  rw [e6] at H6
                  rw [e7] at H7
                  clear e0 e1 e2 e3 e4 e5 e6 e7
                  go_enter Tryz.func31, Tryz.ntmps31
                  have y := (HT.out.blk.cell 1)
                  change w.cell? ⟨d, 1, none⟩ = some (.slice m.ah q.held.length m.ch) at y
                  go_wp2_with fail
                  clear y
                  refine (H0.out w HB0.out).mono ?_
                  rintro e w1 ⟨rfl, hb_⟩
                  have HB1 := Lib.hid (HB0.out.trans (hb_.mono HB0.out.size))
                  clear hb_
                  have y : w1.cell? ⟨d, 2, none⟩ = some (.slice m.aw q.wait.length m.cw) := (HT.out.below HB1.out).blk.cell 2
                  go_wp2_with fail
                  clear y
                  refine (H1.out w1 HB1.out).mono ?_
                  rintro e w2 ⟨rfl, hb_⟩
                  have HB2 := Lib.hid (HB1.out.trans (hb_.mono HB1.out.size))
                  clear hb_
                  have y : w2.cell? ⟨d, 3, none⟩ = some (.slice m.ap q.prep.length m.cp) := (HT.out.below HB2.out).blk.cell 3
                  go_wp2_with fail
                  clear y
                  refine (H2.out w2 HB2.out).mono ?_
                  rintro e w3 ⟨rfl, hb_⟩
                  have HB3 := Lib.hid (HB2.out.trans (hb_.mono HB2.out.size))
                  clear hb_
                  have y : w3.cell? ⟨d, 4, none⟩ = some (.slice m.au q.hurt.length m.cu) := (HT.out.below HB3.out).blk.cell 4
                  go_wp2_with fail
                  clear y
                  refine (H3.out w3 HB3.out).mono ?_
                  rintro e w4 ⟨rfl, hb_⟩
                  have HB4 := Lib.hid (HB3.out.trans (hb_.mono HB3.out.size))
                  clear hb_
                  have y : w4.cell? ⟨d, 1, none⟩ = some (.slice m.ah q.held.length m.ch) := (HT.out.below HB4.out).blk.cell 1
                  go_wp2_with fail
                  clear y
                  refine (H4.out w4 HB4.out).mono ?_
                  rintro e w5 ⟨rfl, hb_⟩
                  have HB5 := Lib.hid (HB4.out.trans (hb_.mono HB4.out.size))
                  clear hb_
                  have y : w5.cell? ⟨d, 2, none⟩ = some (.slice m.aw q.wait.length m.cw) := (HT.out.below HB5.out).blk.cell 2
                  go_wp2_with fail
                  clear y
                  refine (H5.out w5 HB5.out).mono ?_
                  rintro e w6 ⟨rfl, hb_⟩
                  have HB6 := Lib.hid (HB5.out.trans (hb_.mono HB5.out.size))
                  clear hb_
                  have y : w6.cell? ⟨d, 3, none⟩ = some (.slice m.ap q.prep.length m.cp) := (HT.out.below HB6.out).blk.cell 3
                  go_wp2_with fail
                  clear y
                  refine (H6.out w6 HB6.out).mono ?_
                  rintro e w7 ⟨rfl, hb_⟩
                  have HB7 := Lib.hid (HB6.out.trans (hb_.mono HB6.out.size))
                  clear hb_
                  have y : w7.cell? ⟨d, 4, none⟩ = some (.slice m.au q.hurt.length m.cu) := (HT.out.below HB7.out).blk.cell 4
                  go_wp2_with fail
                  clear y
                  refine (H7.out w7 HB7.out).mono ?_
                  rintro e w8 ⟨rfl, hb_⟩
                  have HB8 := Lib.hid (HB7.out.trans (hb_.mono HB7.out.size))
                  clear hb_
                  go_wp2
                  go_ret
                  exact ⟨ret_bool HR.out.symm, HB8.out⟩
                | true =>
                  have HR : Hid (listsB q = true) := Lib.hid (by unfold listsB; rw [e0, e1, e2, e3, e4, e5, e6, e7]; rfl)
                  rw [e0] at H0
                  rw [e1] at H1
                  rw [e2] at H2
                  rw [e3] at H3
                  rw [e4] at H4
                  rw [e5] at H5
                  rw [e6] at H6
                  rw [e7] at H7
                  clear e0 e1 e2 e3 e4 e5 e6 e7
                  go_enter Tryz.func31, Tryz.ntmps31
                  have y := (HT.out.blk.cell 1)
                  change w.cell? ⟨d, 1, none⟩ = some (.slice m.ah q.held.length m.ch) at y
                  go_wp2_with fail
                  clear y
                  refine (H0.out w HB0.out).mono ?_
                  rintro e w1 ⟨rfl, hb_⟩
                  have HB1 := Lib.hid (HB0.out.trans (hb_.mono HB0.out.size))
                  clear hb_
                  have y : w1.cell? ⟨d, 2, none⟩ = some (.slice m.aw q.wait.length m.cw) := (HT.out.below HB1.out).blk.cell 2
                  go_wp2_with fail
                  clear y
                  refine (H1.out w1 HB1.out).mono ?_
                  rintro e w2 ⟨rfl, hb_⟩
                  have HB2 := Lib.hid (HB1.out.trans (hb_.mono HB1.out.size))
                  clear hb_
                  have y : w2.cell? ⟨d, 3, none⟩ = some (.slice m.ap q.prep.length m.cp) := (HT.out.below HB2.out).blk.cell 3
                  go_wp2_with fail
                  clear y
                  refine (H2.out w2 HB2.out).mono ?_
                  rintro e w3 ⟨rfl, hb_⟩
                  have HB3 := Lib.hid (HB2.out.trans (hb_.mono HB2.out.size))
                  clear hb_
                  have y : w3.cell? ⟨d, 4, none⟩ = some (.slice m.au q.hurt.length m.cu) := (HT.out.below HB3.out).blk.cell 4
                  go_wp2_with fail
                  clear y
                  refine (H3.out w3 HB3.out).mono ?_
                  rintro e w4 ⟨rfl, hb_⟩
                  have HB4 := Lib.hid (HB3.out.trans (hb_.mono HB3.out.size))
                  clear hb_
                  have y : w4.cell? ⟨d, 1, none⟩ = some (.slice m.ah q.held.length m.ch) := (HT.out.below HB4.out).blk.cell 1
                  go_wp2_with fail
                  clear y
                  refine (H4.out w4 HB4.out).mono ?_
                  rintro e w5 ⟨rfl, hb_⟩
                  have HB5 := Lib.hid (HB4.out.trans (hb_.mono HB4.out.size))
                  clear hb_
                  have y : w5.cell? ⟨d, 2, none⟩ = some (.slice m.aw q.wait.length m.cw) := (HT.out.below HB5.out).blk.cell 2
                  go_wp2_with fail
                  clear y
                  refine (H5.out w5 HB5.out).mono ?_
                  rintro e w6 ⟨rfl, hb_⟩
                  have HB6 := Lib.hid (HB5.out.trans (hb_.mono HB5.out.size))
                  clear hb_
                  have y : w6.cell? ⟨d, 3, none⟩ = some (.slice m.ap q.prep.length m.cp) := (HT.out.below HB6.out).blk.cell 3
                  go_wp2_with fail
                  clear y
                  refine (H6.out w6 HB6.out).mono ?_
                  rintro e w7 ⟨rfl, hb_⟩
                  have HB7 := Lib.hid (HB6.out.trans (hb_.mono HB6.out.size))
                  clear hb_
                  have y : w7.cell? ⟨d, 4, none⟩ = some (.slice m.au q.hurt.length m.cu) := (HT.out.below HB7.out).blk.cell 4
                  go_wp2_with fail
                  clear y
                  refine (H7.out w7 HB7.out).mono ?_
                  rintro e w8 ⟨rfl, hb_⟩
                  have HB8 := Lib.hid (HB7.out.trans (hb_.mono HB7.out.size))
                  clear hb_
                  go_wp2
                  go_ret
                  exact ⟨ret_bool HR.out.symm, HB8.out⟩
end Go.Proofs.YtpidpdbjjdkhoaaGreat
