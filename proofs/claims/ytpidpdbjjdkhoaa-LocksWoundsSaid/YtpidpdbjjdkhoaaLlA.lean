/- Locks: the law's conflict. -/
import Derived.Test.YtpidpdbjjdkhoaaLkZ
namespace Go.Proofs.Ytpidpdbjjdkhoaa
open Go.RowKit
set_option linter.unusedSimpArgs false
set_option linter.unusedVariables false
attribute [local go_sem ↓] Go.wp_at_zero Go.wp_at_succ
set_option maxHeartbeats 4000000 in
theorem lconf_any (x y : Lk) (w : World) : Calls Try.prog 12 #[lkV x, lkV y] w (BoolIs (conf x y) w) := by
  have he := run_neI x.id y.id
  cases hk : (x.key.toList == y.key.toList) with
  | false =>
    have HR := Lib.hid (conf_key hk)
    unfold lkV
    go_enter Try.func12, Try.ntmps12
    go_upto_region 1 with fail
    have k1 := (Blk.new w 39 #[.string x.key, .int .i64 x.id.n, .int .i64 x.id.c, .int .i64 x.mode]).alloc (.cells #[.string y.key, .int .i64 y.id.n, .int .i64 y.id.c, .int .i64 y.mode] 39)
    have k2 := Blk.new (w.alloc (.cells #[.string x.key, .int .i64 x.id.n, .int .i64 x.id.c, .int .i64 x.mode] 39)) 39 #[.string y.key, .int .i64 y.id.n, .int .i64 y.id.c, .int .i64 y.mode]
    simp only [World.size_alloc] at k2
    have HB := Lib.hid ((below_alloc w (.cells #[.string x.key, .int .i64 x.id.n, .int .i64 x.id.c, .int .i64 x.mode] 39)).alloc (by simp) (.cells #[.string y.key, .int .i64 y.id.n, .int .i64 y.id.c, .int .i64 y.mode] 39))
    obtain ⟨w2, hw2⟩ : ∃ w2, w2 = ((w.alloc (.cells #[.string x.key, .int .i64 x.id.n, .int .i64 x.id.c, .int .i64 x.mode] 39)).alloc (.cells #[.string y.key, .int .i64 y.id.n, .int .i64 y.id.c, .int .i64 y.mode] 39)) := ⟨_, rfl⟩
    obtain ⟨p1, hp1⟩ : ∃ p1, p1 = w.heap.size := ⟨_, rfl⟩
    obtain ⟨p2, hp2⟩ : ∃ p2, p2 = w.heap.size + 1 := ⟨_, rfl⟩
    rw [← hw2] at HB k1 k2
    rw [← hp1] at k1
    rw [← hp2] at k2
    rw [← hw2]
    rw [← hp2]
    rw [← hp1]
    clear hw2 hp1 hp2
    have x10 : w2.cell? ⟨p1, 0, none⟩ = some (.string x.key) := k1.cell 0
    have x11 : w2.cell? ⟨p1, 1, none⟩ = some (.int .i64 x.id.n) := k1.cell 1
    have x12 : w2.cell? ⟨p1, 2, none⟩ = some (.int .i64 x.id.c) := k1.cell 2
    have x13 : w2.cell? ⟨p1, 3, none⟩ = some (.int .i64 x.mode) := k1.cell 3
    have x20 : w2.cell? ⟨p2, 0, none⟩ = some (.string y.key) := k2.cell 0
    have x21 : w2.cell? ⟨p2, 1, none⟩ = some (.int .i64 y.id.n) := k2.cell 1
    have x22 : w2.cell? ⟨p2, 2, none⟩ = some (.int .i64 y.id.c) := k2.cell 2
    have x23 : w2.cell? ⟨p2, 3, none⟩ = some (.int .i64 y.mode) := k2.cell 3
    clear k1 k2
    go_wp2
    go_ret
    exact ⟨ret_bool HR.out.symm, HB.out⟩
  | true =>
    cases hi : eqI x.id y.id with
    | true =>
      rw [hi] at he
      have HR := Lib.hid (conf_id hi)
      unfold lkV
      go_enter Try.func12, Try.ntmps12
      go_upto_region 1 with fail
      have k1 := (Blk.new w 39 #[.string x.key, .int .i64 x.id.n, .int .i64 x.id.c, .int .i64 x.mode]).alloc (.cells #[.string y.key, .int .i64 y.id.n, .int .i64 y.id.c, .int .i64 y.mode] 39)
      have k2 := Blk.new (w.alloc (.cells #[.string x.key, .int .i64 x.id.n, .int .i64 x.id.c, .int .i64 x.mode] 39)) 39 #[.string y.key, .int .i64 y.id.n, .int .i64 y.id.c, .int .i64 y.mode]
      simp only [World.size_alloc] at k2
      have HB := Lib.hid ((below_alloc w (.cells #[.string x.key, .int .i64 x.id.n, .int .i64 x.id.c, .int .i64 x.mode] 39)).alloc (by simp) (.cells #[.string y.key, .int .i64 y.id.n, .int .i64 y.id.c, .int .i64 y.mode] 39))
      obtain ⟨w2, hw2⟩ : ∃ w2, w2 = ((w.alloc (.cells #[.string x.key, .int .i64 x.id.n, .int .i64 x.id.c, .int .i64 x.mode] 39)).alloc (.cells #[.string y.key, .int .i64 y.id.n, .int .i64 y.id.c, .int .i64 y.mode] 39)) := ⟨_, rfl⟩
      obtain ⟨p1, hp1⟩ : ∃ p1, p1 = w.heap.size := ⟨_, rfl⟩
      obtain ⟨p2, hp2⟩ : ∃ p2, p2 = w.heap.size + 1 := ⟨_, rfl⟩
      rw [← hw2] at HB k1 k2
      rw [← hp1] at k1
      rw [← hp2] at k2
      rw [← hw2]
      rw [← hp2]
      rw [← hp1]
      clear hw2 hp1 hp2
      have x10 : w2.cell? ⟨p1, 0, none⟩ = some (.string x.key) := k1.cell 0
      have x11 : w2.cell? ⟨p1, 1, none⟩ = some (.int .i64 x.id.n) := k1.cell 1
      have x12 : w2.cell? ⟨p1, 2, none⟩ = some (.int .i64 x.id.c) := k1.cell 2
      have x13 : w2.cell? ⟨p1, 3, none⟩ = some (.int .i64 x.mode) := k1.cell 3
      have x20 : w2.cell? ⟨p2, 0, none⟩ = some (.string y.key) := k2.cell 0
      have x21 : w2.cell? ⟨p2, 1, none⟩ = some (.int .i64 y.id.n) := k2.cell 1
      have x22 : w2.cell? ⟨p2, 2, none⟩ = some (.int .i64 y.id.c) := k2.cell 2
      have x23 : w2.cell? ⟨p2, 3, none⟩ = some (.int .i64 y.mode) := k2.cell 3
      clear k1 k2
      go_wp2
      go_ret
      exact ⟨ret_bool HR.out.symm, HB.out⟩
    | false =>
      rw [hi] at he
      by_cases m1 : x.mode = 2
      · have hc : Hid (conf x y = true) := Lib.hid (by rw [conf_mode hk hi]; exact decide_eq_true (.inl m1))
        have m1b : (x.mode == 2) = true := by simpa using m1
        have m1d : decide (x.mode = 2) = true := decide_eq_true m1
        clear m1
        have HR := Lib.hid (hc.out)
        unfold lkV
        go_enter Try.func12, Try.ntmps12
        go_upto_region 1 with fail
        have k1 := (Blk.new w 39 #[.string x.key, .int .i64 x.id.n, .int .i64 x.id.c, .int .i64 x.mode]).alloc (.cells #[.string y.key, .int .i64 y.id.n, .int .i64 y.id.c, .int .i64 y.mode] 39)
        have k2 := Blk.new (w.alloc (.cells #[.string x.key, .int .i64 x.id.n, .int .i64 x.id.c, .int .i64 x.mode] 39)) 39 #[.string y.key, .int .i64 y.id.n, .int .i64 y.id.c, .int .i64 y.mode]
        simp only [World.size_alloc] at k2
        have HB := Lib.hid ((below_alloc w (.cells #[.string x.key, .int .i64 x.id.n, .int .i64 x.id.c, .int .i64 x.mode] 39)).alloc (by simp) (.cells #[.string y.key, .int .i64 y.id.n, .int .i64 y.id.c, .int .i64 y.mode] 39))
        obtain ⟨w2, hw2⟩ : ∃ w2, w2 = ((w.alloc (.cells #[.string x.key, .int .i64 x.id.n, .int .i64 x.id.c, .int .i64 x.mode] 39)).alloc (.cells #[.string y.key, .int .i64 y.id.n, .int .i64 y.id.c, .int .i64 y.mode] 39)) := ⟨_, rfl⟩
        obtain ⟨p1, hp1⟩ : ∃ p1, p1 = w.heap.size := ⟨_, rfl⟩
        obtain ⟨p2, hp2⟩ : ∃ p2, p2 = w.heap.size + 1 := ⟨_, rfl⟩
        rw [← hw2] at HB k1 k2
        rw [← hp1] at k1
        rw [← hp2] at k2
        rw [← hw2]
        rw [← hp2]
        rw [← hp1]
        clear hw2 hp1 hp2
        have x10 : w2.cell? ⟨p1, 0, none⟩ = some (.string x.key) := k1.cell 0
        have x11 : w2.cell? ⟨p1, 1, none⟩ = some (.int .i64 x.id.n) := k1.cell 1
        have x12 : w2.cell? ⟨p1, 2, none⟩ = some (.int .i64 x.id.c) := k1.cell 2
        have x13 : w2.cell? ⟨p1, 3, none⟩ = some (.int .i64 x.mode) := k1.cell 3
        have x20 : w2.cell? ⟨p2, 0, none⟩ = some (.string y.key) := k2.cell 0
        have x21 : w2.cell? ⟨p2, 1, none⟩ = some (.int .i64 y.id.n) := k2.cell 1
        have x22 : w2.cell? ⟨p2, 2, none⟩ = some (.int .i64 y.id.c) := k2.cell 2
        have x23 : w2.cell? ⟨p2, 3, none⟩ = some (.int .i64 y.mode) := k2.cell 3
        clear k1 k2
        go_wp2
        go_ret
        exact ⟨ret_bool HR.out.symm, HB.out⟩
      · have m1b : (x.mode == 2) = false := by simpa using m1
        have m1d : decide (x.mode = 2) = false := decide_eq_false m1
        by_cases m2 : y.mode = 2
        · have hc : Hid (conf x y = true) := Lib.hid (by rw [conf_mode hk hi]; exact decide_eq_true (.inr m2))
          have m2b : (y.mode == 2) = true := by simpa using m2
          have m2d : decide (y.mode = 2) = true := decide_eq_true m2
          clear m2 m1
          have HR := Lib.hid (hc.out)
          unfold lkV
          go_enter Try.func12, Try.ntmps12
          go_upto_region 1 with fail
          have k1 := (Blk.new w 39 #[.string x.key, .int .i64 x.id.n, .int .i64 x.id.c, .int .i64 x.mode]).alloc (.cells #[.string y.key, .int .i64 y.id.n, .int .i64 y.id.c, .int .i64 y.mode] 39)
          have k2 := Blk.new (w.alloc (.cells #[.string x.key, .int .i64 x.id.n, .int .i64 x.id.c, .int .i64 x.mode] 39)) 39 #[.string y.key, .int .i64 y.id.n, .int .i64 y.id.c, .int .i64 y.mode]
          simp only [World.size_alloc] at k2
          have HB := Lib.hid ((below_alloc w (.cells #[.string x.key, .int .i64 x.id.n, .int .i64 x.id.c, .int .i64 x.mode] 39)).alloc (by simp) (.cells #[.string y.key, .int .i64 y.id.n, .int .i64 y.id.c, .int .i64 y.mode] 39))
          obtain ⟨w2, hw2⟩ : ∃ w2, w2 = ((w.alloc (.cells #[.string x.key, .int .i64 x.id.n, .int .i64 x.id.c, .int .i64 x.mode] 39)).alloc (.cells #[.string y.key, .int .i64 y.id.n, .int .i64 y.id.c, .int .i64 y.mode] 39)) := ⟨_, rfl⟩
          obtain ⟨p1, hp1⟩ : ∃ p1, p1 = w.heap.size := ⟨_, rfl⟩
          obtain ⟨p2, hp2⟩ : ∃ p2, p2 = w.heap.size + 1 := ⟨_, rfl⟩
          rw [← hw2] at HB k1 k2
          rw [← hp1] at k1
          rw [← hp2] at k2
          rw [← hw2]
          rw [← hp2]
          rw [← hp1]
          clear hw2 hp1 hp2
          have x10 : w2.cell? ⟨p1, 0, none⟩ = some (.string x.key) := k1.cell 0
          have x11 : w2.cell? ⟨p1, 1, none⟩ = some (.int .i64 x.id.n) := k1.cell 1
          have x12 : w2.cell? ⟨p1, 2, none⟩ = some (.int .i64 x.id.c) := k1.cell 2
          have x13 : w2.cell? ⟨p1, 3, none⟩ = some (.int .i64 x.mode) := k1.cell 3
          have x20 : w2.cell? ⟨p2, 0, none⟩ = some (.string y.key) := k2.cell 0
          have x21 : w2.cell? ⟨p2, 1, none⟩ = some (.int .i64 y.id.n) := k2.cell 1
          have x22 : w2.cell? ⟨p2, 2, none⟩ = some (.int .i64 y.id.c) := k2.cell 2
          have x23 : w2.cell? ⟨p2, 3, none⟩ = some (.int .i64 y.mode) := k2.cell 3
          clear k1 k2
          go_wp2
          go_ret
          exact ⟨ret_bool HR.out.symm, HB.out⟩
        · have hc : Hid (conf x y = false) := Lib.hid (by rw [conf_mode hk hi]; exact decide_eq_false (fun h => h.elim m1 m2))
          have m2b : (y.mode == 2) = false := by simpa using m2
          have m2d : decide (y.mode = 2) = false := decide_eq_false m2
          have HR := Lib.hid (hc.out)
          unfold lkV
          go_enter Try.func12, Try.ntmps12
          go_upto_region 1 with fail
          have k1 := (Blk.new w 39 #[.string x.key, .int .i64 x.id.n, .int .i64 x.id.c, .int .i64 x.mode]).alloc (.cells #[.string y.key, .int .i64 y.id.n, .int .i64 y.id.c, .int .i64 y.mode] 39)
          have k2 := Blk.new (w.alloc (.cells #[.string x.key, .int .i64 x.id.n, .int .i64 x.id.c, .int .i64 x.mode] 39)) 39 #[.string y.key, .int .i64 y.id.n, .int .i64 y.id.c, .int .i64 y.mode]
          simp only [World.size_alloc] at k2
          have HB := Lib.hid ((below_alloc w (.cells #[.string x.key, .int .i64 x.id.n, .int .i64 x.id.c, .int .i64 x.mode] 39)).alloc (by simp) (.cells #[.string y.key, .int .i64 y.id.n, .int .i64 y.id.c, .int .i64 y.mode] 39))
          obtain ⟨w2, hw2⟩ : ∃ w2, w2 = ((w.alloc (.cells #[.string x.key, .int .i64 x.id.n, .int .i64 x.id.c, .int .i64 x.mode] 39)).alloc (.cells #[.string y.key, .int .i64 y.id.n, .int .i64 y.id.c, .int .i64 y.mode] 39)) := ⟨_, rfl⟩
          obtain ⟨p1, hp1⟩ : ∃ p1, p1 = w.heap.size := ⟨_, rfl⟩
          obtain ⟨p2, hp2⟩ : ∃ p2, p2 = w.heap.size + 1 := ⟨_, rfl⟩
          rw [← hw2] at HB k1 k2
          rw [← hp1] at k1
          rw [← hp2] at k2
          rw [← hw2]
          rw [← hp2]
          rw [← hp1]
          clear hw2 hp1 hp2
          have x10 : w2.cell? ⟨p1, 0, none⟩ = some (.string x.key) := k1.cell 0
          have x11 : w2.cell? ⟨p1, 1, none⟩ = some (.int .i64 x.id.n) := k1.cell 1
          have x12 : w2.cell? ⟨p1, 2, none⟩ = some (.int .i64 x.id.c) := k1.cell 2
          have x13 : w2.cell? ⟨p1, 3, none⟩ = some (.int .i64 x.mode) := k1.cell 3
          have x20 : w2.cell? ⟨p2, 0, none⟩ = some (.string y.key) := k2.cell 0
          have x21 : w2.cell? ⟨p2, 1, none⟩ = some (.int .i64 y.id.n) := k2.cell 1
          have x22 : w2.cell? ⟨p2, 2, none⟩ = some (.int .i64 y.id.c) := k2.cell 2
          have x23 : w2.cell? ⟨p2, 3, none⟩ = some (.int .i64 y.mode) := k2.cell 3
          clear k1 k2
          go_wp2
          go_ret
          exact ⟨ret_bool HR.out.symm, HB.out⟩
end Go.Proofs.Ytpidpdbjjdkhoaa
