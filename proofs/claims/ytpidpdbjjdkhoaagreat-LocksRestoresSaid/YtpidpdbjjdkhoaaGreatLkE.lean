/- Locks: age.Compare, order, older, conflict, what is sound. -/
import Derived.Test.YtpidpdbjjdkhoaaGreatLkD
import Derived.Deep.RegionHeld3
import Derived.Deep.DrawnRows
namespace Go.Proofs.YtpidpdbjjdkhoaaGreat
open Go.RowKit
set_option linter.unusedSimpArgs false
set_option linter.unusedVariables false
attribute [local go_sem ↓] Go.wp_at_zero Go.wp_at_succ

theorem cmpI_or (x y : Idn) : cmpI x y = orz (cmpz x.n y.n) (cmpz x.c y.c) := rfl
theorem cmpL_or (x y : Lk) : cmpL x y = orz (cmpS x.key y.key) (cmpI x.id y.id) := rfl
def idV (x : Idn) : Value := .agg #[.int .i64 x.n, .int .i64 x.c]
def lkV (x : Lk) : Value := .agg #[.string x.key, .int .i64 x.id.n, .int .i64 x.id.c, .int .i64 x.mode]
def IntIs (r : Int) (w : World) (e : Ending) (w' : World) : Prop := e = .returned (.int .i64 r) ∧ Below w.heap.size w w'
def BoolIs (b : Bool) (w : World) (e : Ending) (w' : World) : Prop := e = .returned (.bool b) ∧ Below w.heap.size w w'
set_option maxHeartbeats 2000000 in
set_option maxRecDepth 100000 in
theorem age_cmp (x y : Idn) (w : World) : Calls Tryz.prog 71 #[idV x, idV y] w (IntIs (cmpI x y) w) := by
  obtain ⟨a, b⟩ := x
  obtain ⟨c, d⟩ := y
  have he := run_eqI ⟨a, b⟩ ⟨c, d⟩
  cases hq : eqI ⟨a, b⟩ ⟨c, d⟩ with
  | true =>
    have HR : Hid (cmpI ⟨a, b⟩ ⟨c, d⟩ = 0) := Lib.hid (cmpI_zero.2 (eqI_iff.1 hq))
    rw [hq] at he
    clear hq
    unfold idV
    go_enter Tryz.func71, Tryz.ntmps71
    go_wp2
    go_ret
    exact ⟨ret_int HR.out.symm, ((Below.refl _ _).alloc (Nat.le_refl _) _).alloc (by simp) _⟩
  | false =>
    rw [hq] at he
    have HR : Hid (cmpI ⟨a, b⟩ ⟨c, d⟩ = orz (cmpz a c) (cmpz b d)) := Lib.hid (cmpI_or _ _)
    clear hq
    unfold idV
    obtain ⟨g1, hg1⟩ : ∃ g1, g1 = cmpz a c := ⟨_, rfl⟩
    obtain ⟨g2, hg2⟩ : ∃ g2, g2 = cmpz b d := ⟨_, rfl⟩
    have H1 := Lib.hid (cmp_int a c)
    have H2 := Lib.hid (cmp_int b d)
    rw [← hg1] at H1 HR
    rw [← hg2] at H2 HR
    clear hg1 hg2
    go_enter Tryz.func71, Tryz.ntmps71
    go_wp2
    clear he
    have k1 := (Blk.new w 29 #[.int .i64 a, .int .i64 b]).alloc (.cells #[.int .i64 c, .int .i64 d] 29)
    have k2 := Blk.new (w.alloc (.cells #[.int .i64 a, .int .i64 b] 29)) 29 #[.int .i64 c, .int .i64 d]
    rw [World.size_alloc] at k2
    have HB := Lib.hid ((below_alloc w (.cells #[.int .i64 a, .int .i64 b] 29)).alloc (by simp) (.cells #[.int .i64 c, .int .i64 d] 29))
    obtain ⟨w2, hw2⟩ : ∃ w2, w2 = (w.alloc (.cells #[.int .i64 a, .int .i64 b] 29)).alloc (.cells #[.int .i64 c, .int .i64 d] 29) := ⟨_, rfl⟩
    obtain ⟨p1, hp1⟩ : ∃ p1, p1 = w.heap.size := ⟨_, rfl⟩
    obtain ⟨p2, hp2⟩ : ∃ p2, p2 = w.heap.size + 1 := ⟨_, rfl⟩
    rw [← hw2] at HB k1 k2
    rw [← hp1] at k1
    rw [← hp2] at k2
    rw [← hw2, ← hp1]
    rw [show p1 + 1 = p2 by rw [hp1, hp2]]
    clear hw2 hp1 hp2
    have hS : Hid (∀ w', Below w2.heap.size w2 w' → (w'.cell? ⟨p1, 0, none⟩ = some (.int .i64 a) ∧ w'.cell? ⟨p1, 1, none⟩ = some (.int .i64 b) ∧ w'.cell? ⟨p2, 0, none⟩ = some (.int .i64 c) ∧ w'.cell? ⟨p2, 1, none⟩ = some (.int .i64 d))) := Lib.hid (fun w' hb =>
      ⟨(k1.below hb k1.lt).cell 0, (k1.below hb k1.lt).cell 1, (k2.below hb k2.lt).cell 0, (k2.below hb k2.lt).cell 1⟩)
    have hD : Below w2.heap.size w2 w2.drew := below_drewN (Below.refl _ _) 1
    have hA : ∀ o, Below w2.heap.size w2 (w2.drew.alloc o) := fun o => hD.alloc hD.size o
    have hA2 : ∀ o, Below w2.heap.size w2 (w2.alloc o).drew := fun o => below_drewN ((Below.refl _ _).alloc (Nat.le_refl _) o) 1
    clear k1 k2
    go_region_held3 (fun w' => w'.cell? ⟨p1, 0, none⟩ = some (.int .i64 a) ∧ w'.cell? ⟨p1, 1, none⟩ = some (.int .i64 b) ∧ w'.cell? ⟨p2, 0, none⟩ = some (.int .i64 c) ∧ w'.cell? ⟨p2, 1, none⟩ = some (.int .i64 d))
      (first | with_reducible exact hS.out _ hD | with_reducible exact hS.out _ (hA _) | with_reducible exact hS.out _ (hA2 _))
      (first
        | (go_at_call 99; (with_reducible refine (H1.out _).mono ?_); rintro e w' ⟨rfl, rfl⟩)
        | (go_at_call 99; (with_reducible refine (H2.out _).mono ?_); rintro e w' ⟨rfl, rfl⟩)
        | (go_at_call 96; refine (or_any w2.heap.size g1 g2 _ (Blk.drew (Blk.new w2 _ _))).mono ?_; rintro e w' ⟨rfl, rfl⟩))
    all_goals
      go_wp2
      go_ret
      refine ⟨ret_int HR.out.symm, ?_⟩
      exact HB.out.trans ((hA2 _).mono HB.out.size)
end Go.Proofs.YtpidpdbjjdkhoaaGreat
