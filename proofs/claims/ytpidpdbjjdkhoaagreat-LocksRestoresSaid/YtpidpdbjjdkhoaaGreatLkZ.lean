/- Locks: the reference's Compare and Older. -/
import Derived.Test.YtpidpdbjjdkhoaaGreatLkX
namespace Go.Proofs.YtpidpdbjjdkhoaaGreat
open Go.RowKit
set_option linter.unusedSimpArgs false
set_option linter.unusedVariables false
attribute [local go_sem ↓] Go.wp_at_zero Go.wp_at_succ

theorem cmpI_1 {x y : Idn} (h : x.n < y.n) : cmpI x y = -1 := by unfold cmpI; rw [cmpz_lt h]; rfl
theorem cmpI_2 {x y : Idn} (h : y.n < x.n) : cmpI x y = 1 := by unfold cmpI; rw [cmpz_gt h]; rfl
theorem cmpz_eq0 {a b : Int} (h : ¬ a < b) (h2 : ¬ b < a) : cmpz a b = 0 := by unfold cmpz; rw [if_neg h, if_neg h2]
theorem cmpI_3 {x y : Idn} (h : ¬ x.n < y.n) (h2 : ¬ y.n < x.n) : cmpI x y = cmpz x.c y.c := by unfold cmpI; rw [cmpz_eq0 h h2]; rfl
set_option maxHeartbeats 2000000 in
theorem rcmp_any (x y : Idn) (w : World) : Calls Tryz.prog 89 #[idV x, idV y] w (IntIs (cmpI x y) w) := by
  unfold idV
  by_cases h1 : x.n < y.n
  · have HR := Lib.hid (cmpI_1 h1)
    have HB := Lib.hid ((below_alloc w (.cells #[.int .i64 x.n, .int .i64 x.c] 29)).alloc (by simp) (.cells #[.int .i64 y.n, .int .i64 y.c] 29))
    go_enter Tryz.func89, Tryz.ntmps89
    go_wp2
    go_ret
    exact ⟨ret_int HR.out.symm, HB.out⟩
  · by_cases h2 : y.n < x.n
    · have HR := Lib.hid (cmpI_2 h2)
      have HB := Lib.hid ((below_alloc w (.cells #[.int .i64 x.n, .int .i64 x.c] 29)).alloc (by simp) (.cells #[.int .i64 y.n, .int .i64 y.c] 29))
      go_enter Tryz.func89, Tryz.ntmps89
      go_wp2
      go_ret
      exact ⟨ret_int HR.out.symm, HB.out⟩
    · have HR0 := Lib.hid (cmpI_3 h1 h2)
      have HB := Lib.hid ((below_alloc w (.cells #[.int .i64 x.n, .int .i64 x.c] 29)).alloc (by simp) (.cells #[.int .i64 y.n, .int .i64 y.c] 29))
      by_cases h3 : x.c < y.c
      · have HR := Lib.hid (HR0.out.trans (cmpz_lt h3))
        go_enter Tryz.func89, Tryz.ntmps89
        go_wp2
        go_ret
        exact ⟨ret_int HR.out.symm, HB.out⟩
      · by_cases h4 : y.c < x.c
        · have HR := Lib.hid (HR0.out.trans (cmpz_gt h4))
          go_enter Tryz.func89, Tryz.ntmps89
          go_wp2
          go_ret
          exact ⟨ret_int HR.out.symm, HB.out⟩
        · have HR := Lib.hid (HR0.out.trans (cmpz_eq0 h3 h4))
          go_enter Tryz.func89, Tryz.ntmps89
          go_wp2
          go_ret
          exact ⟨ret_int HR.out.symm, HB.out⟩
set_option maxHeartbeats 1000000 in
theorem rolder_any (x y : Idn) (w : World) : Calls Tryz.prog 48 #[idV x, idV y] w (BoolIs (ol x y) w) := by
  have HR : Hid (decide (cmpI x y < 0) = ol x y) := Lib.hid (by rw [Bool.eq_iff_iff, decide_eq_true_iff, cmpI_neg])
  obtain ⟨g1, hg1⟩ : ∃ g1, g1 = cmpI x y := ⟨_, rfl⟩
  have H2 := Lib.hid (rcmp_any x y)
  unfold idV at H2
  rw [← hg1] at H2 HR
  clear hg1
  unfold idV
  go_enter Tryz.func48, Tryz.ntmps48
  go_upto_region 1 with fail
  have k1 := (Blk.new w 29 #[.int .i64 x.n, .int .i64 x.c]).alloc (.cells #[.int .i64 y.n, .int .i64 y.c] 29)
  have k2 := Blk.new (w.alloc (.cells #[.int .i64 x.n, .int .i64 x.c] 29)) 29 #[.int .i64 y.n, .int .i64 y.c]
  simp only [World.size_alloc] at k2
  have HB := Lib.hid ((below_alloc w (.cells #[.int .i64 x.n, .int .i64 x.c] 29)).alloc (by simp) (.cells #[.int .i64 y.n, .int .i64 y.c] 29))
  obtain ⟨w2, hw2⟩ : ∃ w2, w2 = ((w.alloc (.cells #[.int .i64 x.n, .int .i64 x.c] 29)).alloc (.cells #[.int .i64 y.n, .int .i64 y.c] 29)) := ⟨_, rfl⟩
  obtain ⟨p1, hp1⟩ : ∃ p1, p1 = w.heap.size := ⟨_, rfl⟩
  obtain ⟨p2, hp2⟩ : ∃ p2, p2 = w.heap.size + 1 := ⟨_, rfl⟩
  rw [← hw2] at HB k1 k2
  rw [← hp1] at k1
  rw [← hp2] at k2
  rw [← hw2]
  rw [← hp2]
  rw [← hp1]
  clear hw2 hp1 hp2
  have x10 : w2.cell? ⟨p1, 0, none⟩ = some (.int .i64 x.n) := k1.cell 0
  have x11 : w2.cell? ⟨p1, 1, none⟩ = some (.int .i64 x.c) := k1.cell 1
  have x20 : w2.cell? ⟨p2, 0, none⟩ = some (.int .i64 y.n) := k2.cell 0
  have x21 : w2.cell? ⟨p2, 1, none⟩ = some (.int .i64 y.c) := k2.cell 1
  clear k1 k2
  go_wp2_with fail
  refine (H2.out _).mono ?_
  rintro e w3 ⟨rfl, hb3⟩
  clear x10 x11 x20 x21
  go_wp2_with fail
  go_ret
  exact ⟨ret_bool HR.out, HB.out.trans (hb3.mono HB.out.size)⟩
end Go.Proofs.YtpidpdbjjdkhoaaGreat
