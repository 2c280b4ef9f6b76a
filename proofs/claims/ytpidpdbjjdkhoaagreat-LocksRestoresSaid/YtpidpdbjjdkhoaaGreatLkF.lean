/- Locks: order, older, conflict, what is sound, the questions of locks. -/
import Derived.Test.YtpidpdbjjdkhoaaGreatLkE
import Derived.Deep.DeepCutAuto
import Derived.Deep.CutBlock
namespace Go.Proofs.YtpidpdbjjdkhoaaGreat
open Go.RowKit
set_option linter.unusedSimpArgs false
set_option linter.unusedVariables false
attribute [local go_sem ↓] Go.wp_at_zero Go.wp_at_succ

set_option maxHeartbeats 2000000 in
set_option maxRecDepth 100000 in
theorem order_any (x y : Lk) (w : World) : Calls Tryz.prog 64 #[lkV x, lkV y] w (IntIs (cmpL x y) w) := by
  have HR := Lib.hid (cmpL_or x y)
  obtain ⟨g1, hg1⟩ : ∃ g1, g1 = cmpS x.key y.key := ⟨_, rfl⟩
  obtain ⟨g2, hg2⟩ : ∃ g2, g2 = cmpI x.id y.id := ⟨_, rfl⟩
  have H1 := Lib.hid (cmp_str x.key y.key)
  have H2 := Lib.hid (age_cmp x.id y.id)
  unfold idV at H2
  rw [← hg1] at H1 HR
  rw [← hg2] at H2 HR
  clear hg1 hg2
  unfold lkV
  go_enter Tryz.func64, Tryz.ntmps64
  go_wp2
  have k1 := (Blk.new w 62 #[.string x.key, .int .i64 x.id.n, .int .i64 x.id.c, .int .i64 x.mode]).alloc (.cells #[.string y.key, .int .i64 y.id.n, .int .i64 y.id.c, .int .i64 y.mode] 62)
  have k2 := Blk.new (w.alloc (.cells #[.string x.key, .int .i64 x.id.n, .int .i64 x.id.c, .int .i64 x.mode] 62)) 62 #[.string y.key, .int .i64 y.id.n, .int .i64 y.id.c, .int .i64 y.mode]
  simp only [World.size_alloc] at k2
  have HB := Lib.hid ((below_alloc w (.cells #[.string x.key, .int .i64 x.id.n, .int .i64 x.id.c, .int .i64 x.mode] 62)).alloc (by simp) (.cells #[.string y.key, .int .i64 y.id.n, .int .i64 y.id.c, .int .i64 y.mode] 62))
  obtain ⟨w2, hw2⟩ : ∃ w2, w2 = ((w.alloc (.cells #[.string x.key, .int .i64 x.id.n, .int .i64 x.id.c, .int .i64 x.mode] 62)).alloc (.cells #[.string y.key, .int .i64 y.id.n, .int .i64 y.id.c, .int .i64 y.mode] 62)) := ⟨_, rfl⟩
  obtain ⟨p1, hp1⟩ : ∃ p1, p1 = w.heap.size := ⟨_, rfl⟩
  obtain ⟨p2, hp2⟩ : ∃ p2, p2 = w.heap.size + 1 := ⟨_, rfl⟩
  rw [← hw2] at HB k1 k2
  rw [← hp1] at k1
  rw [← hp2] at k2
  rw [← hw2]
  rw [← hp2]
  rw [← hp1]
  clear hw2 hp1 hp2
  have hS : Hid (∀ w', Below w2.heap.size w2 w' → (w'.cell? ⟨p1, 0, none⟩ = some (.string x.key) ∧ w'.cell? ⟨p1, 1, none⟩ = some (.int .i64 x.id.n) ∧ w'.cell? ⟨p1, 2, none⟩ = some (.int .i64 x.id.c) ∧ w'.cell? ⟨p1, 3, none⟩ = some (.int .i64 x.mode) ∧ w'.cell? ⟨p2, 0, none⟩ = some (.string y.key) ∧ w'.cell? ⟨p2, 1, none⟩ = some (.int .i64 y.id.n) ∧ w'.cell? ⟨p2, 2, none⟩ = some (.int .i64 y.id.c) ∧ w'.cell? ⟨p2, 3, none⟩ = some (.int .i64 y.mode))) := Lib.hid (fun w' hb => ⟨(k1.below hb k1.lt).cell 0, (k1.below hb k1.lt).cell 1, (k1.below hb k1.lt).cell 2, (k1.below hb k1.lt).cell 3, (k2.below hb k2.lt).cell 0, (k2.below hb k2.lt).cell 1, (k2.below hb k2.lt).cell 2, (k2.below hb k2.lt).cell 3⟩)
  have hD : Below w2.heap.size w2 w2.drew := below_drewN (Below.refl _ _) 1
  clear k1 k2
  go_region_held3 (fun w' => w'.cell? ⟨p1, 0, none⟩ = some (.string x.key) ∧ w'.cell? ⟨p1, 1, none⟩ = some (.int .i64 x.id.n) ∧ w'.cell? ⟨p1, 2, none⟩ = some (.int .i64 x.id.c) ∧ w'.cell? ⟨p1, 3, none⟩ = some (.int .i64 x.mode) ∧ w'.cell? ⟨p2, 0, none⟩ = some (.string y.key) ∧ w'.cell? ⟨p2, 1, none⟩ = some (.int .i64 y.id.n) ∧ w'.cell? ⟨p2, 2, none⟩ = some (.int .i64 y.id.c) ∧ w'.cell? ⟨p2, 3, none⟩ = some (.int .i64 y.mode))
    (first | with_reducible exact hS.out _ hD | with_reducible exact hS.out _ hb3' | with_reducible exact hS.out _ hb4)
    (first
      | (go_at_call 97; (with_reducible refine (H1.out _).mono ?_); rintro e w' ⟨rfl, rfl⟩)
      | (go_at_call 71; (with_reducible refine (H2.out _).mono ?_); rintro e w3 ⟨rfl, hb3⟩; have hb3' : Below w2.heap.size w2 w3 := hD.trans (hb3.mono hD.size); have hb4 : Below w2.heap.size w2 (w3.alloc (.cells #[.int .i64 g1, .int .i64 g2] 3)) := hb3'.alloc hb3'.size _)
      | (go_at_call 96; refine (or_any w3.heap.size g1 g2 _ (Blk.new w3 _ _)).mono ?_; rintro e w' ⟨rfl, rfl⟩))
  go_wp2
  go_ret
  exact ⟨ret_int HR.out.symm, HB.out.trans (hb4.mono HB.out.size)⟩
set_option maxHeartbeats 1000000 in
theorem older_any (x y : Idn) (w : World) : Calls Tryz.prog 42 #[idV x, idV y] w (BoolIs (ol x y) w) := by
  have HR : Hid (decide (cmpI x y < 0) = ol x y) := Lib.hid (by rw [Bool.eq_iff_iff, decide_eq_true_iff, cmpI_neg])
  obtain ⟨g1, hg1⟩ : ∃ g1, g1 = cmpI x y := ⟨_, rfl⟩
  have H2 := Lib.hid (age_cmp x y)
  unfold idV at H2
  rw [← hg1] at H2 HR
  clear hg1
  unfold idV
  go_enter Tryz.func42, Tryz.ntmps42
  go_upto_region 1 with fail
  have k1 := (Blk.new w 29 #[.int .i64 x.n, .int .i64 x.c]).alloc (.cells #[.int .i64 y.n, .int .i64 y.c] 29)
  have k2 := Blk.new (w.alloc (.cells #[.int .i64 x.n, .int .i64 x.c] 29)) 29 #[.int .i64 y.n, .int .i64 y.c]
  simp only [World.size_alloc] at k2
  have HB := Lib.hid ((below_alloc w (.cells #[.int .i64 x.n, .int .i64 x.c] 29)).alloc (by simp) (.cells #[.int .i64 y.n, .int .i64 y.c] 29))
  obtain ⟨w2, hw2⟩ : ∃ w2, w2 = ((w.alloc (.cells #[.int .i64 x.n, .int .i64 x.c] 29)).alloc (.cells #[.int .i64 y.n, .int .i64 y.c] 29)) := ⟨_, rfl⟩
  obtain ⟨p1, hp1⟩ : ∃ p1, p1 = w.heap.size := ⟨_, rfl⟩
  obtain ⟨p2, hp2⟩ : ∃ p2, p2 = w.heap.size + 1 := ⟨_, rfl⟩
  rw [← hw2] at HB k1 k2
  rw [← hp1] at k1
  rw [← hp2] at k2
  rw [← hw2]
  rw [← hp2]
  rw [← hp1]
  clear hw2 hp1 hp2
  have x10 : w2.cell? ⟨p1, 0, none⟩ = some (.int .i64 x.n) := k1.cell 0
  have x11 : w2.cell? ⟨p1, 1, none⟩ = some (.int .i64 x.c) := k1.cell 1
  have x20 : w2.cell? ⟨p2, 0, none⟩ = some (.int .i64 y.n) := k2.cell 0
  have x21 : w2.cell? ⟨p2, 1, none⟩ = some (.int .i64 y.c) := k2.cell 1
  clear k1 k2
  go_wp2_with fail
  refine (H2.out _).mono ?_
  rintro e w3 ⟨rfl, hb3⟩
  clear x10 x11 x20 x21
  go_wp2_with fail
  go_ret
  exact ⟨ret_bool HR.out, HB.out.trans (hb3.mono HB.out.size)⟩
theorem conf_key {x y : Lk} (h : (x.key.toList == y.key.toList) = false) : conf x y = false := by
  cases hc : conf x y with
  | false => rfl
  | true => have := (conf_iff.1 hc).1; rw [this] at h; simp at h
theorem conf_id {x y : Lk} (h : eqI x.id y.id = true) : conf x y = false := by
  cases hc : conf x y with
  | false => rfl
  | true => exact absurd (eqI_iff.1 h) (conf_iff.1 hc).2.1
theorem conf_mode {x y : Lk} (h1 : (x.key.toList == y.key.toList) = true) (h2 : eqI x.id y.id = false) : conf x y = decide (x.mode = 2 ∨ y.mode = 2) := by
  have hk : x.key = y.key := toList_inj (by simpa using h1)
  have hi : x.id ≠ y.id := fun e => by rw [eqI_iff.2 e] at h2; cases h2
  rw [Bool.eq_iff_iff, conf_iff, decide_eq_true_iff]
  exact ⟨fun h => h.2.2, fun h => ⟨hk, hi, h⟩⟩
set_option maxHeartbeats 2000000 in
theorem conflict_any (x y : Lk) (w : World) : Calls Tryz.prog 41 #[lkV x, lkV y] w (BoolIs (conf x y) w) := by
  have he := run_neI x.id y.id
  cases hk : (x.key.toList == y.key.toList) with
  | false =>
    clear he
    have HR : Hid (conf x y = false) := Lib.hid (conf_key hk)
    unfold lkV
    go_enter Tryz.func41, Tryz.ntmps41
    go_upto_region 1 with fail
    have k1 := (Blk.new w 62 #[.string x.key, .int .i64 x.id.n, .int .i64 x.id.c, .int .i64 x.mode]).alloc (.cells #[.string y.key, .int .i64 y.id.n, .int .i64 y.id.c, .int .i64 y.mode] 62)
    have k2 := Blk.new (w.alloc (.cells #[.string x.key, .int .i64 x.id.n, .int .i64 x.id.c, .int .i64 x.mode] 62)) 62 #[.string y.key, .int .i64 y.id.n, .int .i64 y.id.c, .int .i64 y.mode]
    simp only [World.size_alloc] at k2
    have HB := Lib.hid ((below_alloc w (.cells #[.string x.key, .int .i64 x.id.n, .int .i64 x.id.c, .int .i64 x.mode] 62)).alloc (by simp) (.cells #[.string y.key, .int .i64 y.id.n, .int .i64 y.id.c, .int .i64 y.mode] 62))
    obtain ⟨w2, hw2⟩ : ∃ w2, w2 = ((w.alloc (.cells #[.string x.key, .int .i64 x.id.n, .int .i64 x.id.c, .int .i64 x.mode] 62)).alloc (.cells #[.string y.key, .int .i64 y.id.n, .int .i64 y.id.c, .int .i64 y.mode] 62)) := ⟨_, rfl⟩
    obtain ⟨p1, hp1⟩ : ∃ p1, p1 = w.heap.size := ⟨_, rfl⟩
    obtain ⟨p2, hp2⟩ : ∃ p2, p2 = w.heap.size + 1 := ⟨_, rfl⟩
    rw [← hw2] at HB k1 k2
    rw [← hp1] at k1
    rw [← hp2] at k2
    rw [← hw2]
    rw [← hp2]
    rw [← hp1]
    clear hw2 hp1 hp2
    have x10 : w2.cell? ⟨p1, 0, none⟩ = some (.string x.key) := k1.cell 0
    have x11 : w2.cell? ⟨p1, 1, none⟩ = some (.int .i64 x.id.n) := k1.cell 1
    have x12 : w2.cell? ⟨p1, 2, none⟩ = some (.int .i64 x.id.c) := k1.cell 2
    have x13 : w2.cell? ⟨p1, 3, none⟩ = some (.int .i64 x.mode) := k1.cell 3
    have x20 : w2.cell? ⟨p2, 0, none⟩ = some (.string y.key) := k2.cell 0
    have x21 : w2.cell? ⟨p2, 1, none⟩ = some (.int .i64 y.id.n) := k2.cell 1
    have x22 : w2.cell? ⟨p2, 2, none⟩ = some (.int .i64 y.id.c) := k2.cell 2
    have x23 : w2.cell? ⟨p2, 3, none⟩ = some (.int .i64 y.mode) := k2.cell 3
    clear k1 k2
    go_wp2
    go_ret
    exact ⟨ret_bool HR.out.symm, HB.out⟩
  | true =>
    cases hi : eqI x.id y.id with
    | true =>
      rw [hi] at he

      have HR : Hid (conf x y = false) := Lib.hid (conf_id hi)
      clear hi
      unfold lkV
      go_enter Tryz.func41, Tryz.ntmps41
      go_upto_region 1 with fail
      have k1 := (Blk.new w 62 #[.string x.key, .int .i64 x.id.n, .int .i64 x.id.c, .int .i64 x.mode]).alloc (.cells #[.string y.key, .int .i64 y.id.n, .int .i64 y.id.c, .int .i64 y.mode] 62)
      have k2 := Blk.new (w.alloc (.cells #[.string x.key, .int .i64 x.id.n, .int .i64 x.id.c, .int .i64 x.mode] 62)) 62 #[.string y.key, .int .i64 y.id.n, .int .i64 y.id.c, .int .i64 y.mode]
      simp only [World.size_alloc] at k2
      have HB := Lib.hid ((below_alloc w (.cells #[.string x.key, .int .i64 x.id.n, .int .i64 x.id.c, .int .i64 x.mode] 62)).alloc (by simp) (.cells #[.string y.key, .int .i64 y.id.n, .int .i64 y.id.c, .int .i64 y.mode] 62))
      obtain ⟨w2, hw2⟩ : ∃ w2, w2 = ((w.alloc (.cells #[.string x.key, .int .i64 x.id.n, .int .i64 x.id.c, .int .i64 x.mode] 62)).alloc (.cells #[.string y.key, .int .i64 y.id.n, .int .i64 y.id.c, .int .i64 y.mode] 62)) := ⟨_, rfl⟩
      obtain ⟨p1, hp1⟩ : ∃ p1, p1 = w.heap.size := ⟨_, rfl⟩
      obtain ⟨p2, hp2⟩ : ∃ p2, p2 = w.heap.size + 1 := ⟨_, rfl⟩
      rw [← hw2] at HB k1 k2
      rw [← hp1] at k1
      rw [← hp2] at k2
      rw [← hw2]
      rw [← hp2]
      rw [← hp1]
      clear hw2 hp1 hp2
      have x10 : w2.cell? ⟨p1, 0, none⟩ = some (.string x.key) := k1.cell 0
      have x11 : w2.cell? ⟨p1, 1, none⟩ = some (.int .i64 x.id.n) := k1.cell 1
      have x12 : w2.cell? ⟨p1, 2, none⟩ = some (.int .i64 x.id.c) := k1.cell 2
      have x13 : w2.cell? ⟨p1, 3, none⟩ = some (.int .i64 x.mode) := k1.cell 3
      have x20 : w2.cell? ⟨p2, 0, none⟩ = some (.string y.key) := k2.cell 0
      have x21 : w2.cell? ⟨p2, 1, none⟩ = some (.int .i64 y.id.n) := k2.cell 1
      have x22 : w2.cell? ⟨p2, 2, none⟩ = some (.int .i64 y.id.c) := k2.cell 2
      have x23 : w2.cell? ⟨p2, 3, none⟩ = some (.int .i64 y.mode) := k2.cell 3
      clear k1 k2
      go_wp2
      go_ret
      exact ⟨ret_bool HR.out.symm, HB.out⟩
    | false =>
      rw [hi] at he
      cases h1 : (x.mode == 2) with
      | true =>

        have HR : Hid (conf x y = true) := Lib.hid (by rw [conf_mode hk hi, decide_eq_true_iff]; exact .inl (by simpa using h1))
        clear hi
        unfold lkV
        go_enter Tryz.func41, Tryz.ntmps41
        go_upto_region 1 with fail
        have k1 := (Blk.new w 62 #[.string x.key, .int .i64 x.id.n, .int .i64 x.id.c, .int .i64 x.mode]).alloc (.cells #[.string y.key, .int .i64 y.id.n, .int .i64 y.id.c, .int .i64 y.mode] 62)
        have k2 := Blk.new (w.alloc (.cells #[.string x.key, .int .i64 x.id.n, .int .i64 x.id.c, .int .i64 x.mode] 62)) 62 #[.string y.key, .int .i64 y.id.n, .int .i64 y.id.c, .int .i64 y.mode]
        simp only [World.size_alloc] at k2
        have HB := Lib.hid ((below_alloc w (.cells #[.string x.key, .int .i64 x.id.n, .int .i64 x.id.c, .int .i64 x.mode] 62)).alloc (by simp) (.cells #[.string y.key, .int .i64 y.id.n, .int .i64 y.id.c, .int .i64 y.mode] 62))
        obtain ⟨w2, hw2⟩ : ∃ w2, w2 = ((w.alloc (.cells #[.string x.key, .int .i64 x.id.n, .int .i64 x.id.c, .int .i64 x.mode] 62)).alloc (.cells #[.string y.key, .int .i64 y.id.n, .int .i64 y.id.c, .int .i64 y.mode] 62)) := ⟨_, rfl⟩
        obtain ⟨p1, hp1⟩ : ∃ p1, p1 = w.heap.size := ⟨_, rfl⟩
        obtain ⟨p2, hp2⟩ : ∃ p2, p2 = w.heap.size + 1 := ⟨_, rfl⟩
        rw [← hw2] at HB k1 k2
        rw [← hp1] at k1
        rw [← hp2] at k2
        rw [← hw2]
        rw [← hp2]
        rw [← hp1]
        clear hw2 hp1 hp2
        have x10 : w2.cell? ⟨p1, 0, none⟩ = some (.string x.key) := k1.cell 0
        have x11 : w2.cell? ⟨p1, 1, none⟩ = some (.int .i64 x.id.n) := k1.cell 1
        have x12 : w2.cell? ⟨p1, 2, none⟩ = some (.int .i64 x.id.c) := k1.cell 2
        have x13 : w2.cell? ⟨p1, 3, none⟩ = some (.int .i64 x.mode) := k1.cell 3
        have x20 : w2.cell? ⟨p2, 0, none⟩ = some (.string y.key) := k2.cell 0
        have x21 : w2.cell? ⟨p2, 1, none⟩ = some (.int .i64 y.id.n) := k2.cell 1
        have x22 : w2.cell? ⟨p2, 2, none⟩ = some (.int .i64 y.id.c) := k2.cell 2
        have x23 : w2.cell? ⟨p2, 3, none⟩ = some (.int .i64 y.mode) := k2.cell 3
        clear k1 k2
        go_wp2
        go_ret
        exact ⟨ret_bool HR.out.symm, HB.out⟩
      | false =>
        cases h2 : (y.mode == 2) with
        | true =>

          have HR : Hid (conf x y = true) := Lib.hid (by rw [conf_mode hk hi, decide_eq_true_iff]; exact .inr (by simpa using h2))
          clear hi
          unfold lkV
          go_enter Tryz.func41, Tryz.ntmps41
          go_upto_region 1 with fail
          have k1 := (Blk.new w 62 #[.string x.key, .int .i64 x.id.n, .int .i64 x.id.c, .int .i64 x.mode]).alloc (.cells #[.string y.key, .int .i64 y.id.n, .int .i64 y.id.c, .int .i64 y.mode] 62)
          have k2 := Blk.new (w.alloc (.cells #[.string x.key, .int .i64 x.id.n, .int .i64 x.id.c, .int .i64 x.mode] 62)) 62 #[.string y.key, .int .i64 y.id.n, .int .i64 y.id.c, .int .i64 y.mode]
          simp only [World.size_alloc] at k2
          have HB := Lib.hid ((below_alloc w (.cells #[.string x.key, .int .i64 x.id.n, .int .i64 x.id.c, .int .i64 x.mode] 62)).alloc (by simp) (.cells #[.string y.key, .int .i64 y.id.n, .int .i64 y.id.c, .int .i64 y.mode] 62))
          obtain ⟨w2, hw2⟩ : ∃ w2, w2 = ((w.alloc (.cells #[.string x.key, .int .i64 x.id.n, .int .i64 x.id.c, .int .i64 x.mode] 62)).alloc (.cells #[.string y.key, .int .i64 y.id.n, .int .i64 y.id.c, .int .i64 y.mode] 62)) := ⟨_, rfl⟩
          obtain ⟨p1, hp1⟩ : ∃ p1, p1 = w.heap.size := ⟨_, rfl⟩
          obtain ⟨p2, hp2⟩ : ∃ p2, p2 = w.heap.size + 1 := ⟨_, rfl⟩
          rw [← hw2] at HB k1 k2
          rw [← hp1] at k1
          rw [← hp2] at k2
          rw [← hw2]
          rw [← hp2]
          rw [← hp1]
          clear hw2 hp1 hp2
          have x10 : w2.cell? ⟨p1, 0, none⟩ = some (.string x.key) := k1.cell 0
          have x11 : w2.cell? ⟨p1, 1, none⟩ = some (.int .i64 x.id.n) := k1.cell 1
          have x12 : w2.cell? ⟨p1, 2, none⟩ = some (.int .i64 x.id.c) := k1.cell 2
          have x13 : w2.cell? ⟨p1, 3, none⟩ = some (.int .i64 x.mode) := k1.cell 3
          have x20 : w2.cell? ⟨p2, 0, none⟩ = some (.string y.key) := k2.cell 0
          have x21 : w2.cell? ⟨p2, 1, none⟩ = some (.int .i64 y.id.n) := k2.cell 1
          have x22 : w2.cell? ⟨p2, 2, none⟩ = some (.int .i64 y.id.c) := k2.cell 2
          have x23 : w2.cell? ⟨p2, 3, none⟩ = some (.int .i64 y.mode) := k2.cell 3
          clear k1 k2
          go_wp2
          go_ret
          exact ⟨ret_bool HR.out.symm, HB.out⟩
        | false =>

          have HR : Hid (conf x y = false) := Lib.hid (by rw [conf_mode hk hi, decide_eq_false_iff_not]; simp at h1 h2; omega)
          clear hi
          unfold lkV
          go_enter Tryz.func41, Tryz.ntmps41
          go_upto_region 1 with fail
          have k1 := (Blk.new w 62 #[.string x.key, .int .i64 x.id.n, .int .i64 x.id.c, .int .i64 x.mode]).alloc (.cells #[.string y.key, .int .i64 y.id.n, .int .i64 y.id.c, .int .i64 y.mode] 62)
          have k2 := Blk.new (w.alloc (.cells #[.string x.key, .int .i64 x.id.n, .int .i64 x.id.c, .int .i64 x.mode] 62)) 62 #[.string y.key, .int .i64 y.id.n, .int .i64 y.id.c, .int .i64 y.mode]
          simp only [World.size_alloc] at k2
          have HB := Lib.hid ((below_alloc w (.cells #[.string x.key, .int .i64 x.id.n, .int .i64 x.id.c, .int .i64 x.mode] 62)).alloc (by simp) (.cells #[.string y.key, .int .i64 y.id.n, .int .i64 y.id.c, .int .i64 y.mode] 62))
          obtain ⟨w2, hw2⟩ : ∃ w2, w2 = ((w.alloc (.cells #[.string x.key, .int .i64 x.id.n, .int .i64 x.id.c, .int .i64 x.mode] 62)).alloc (.cells #[.string y.key, .int .i64 y.id.n, .int .i64 y.id.c, .int .i64 y.mode] 62)) := ⟨_, rfl⟩
          obtain ⟨p1, hp1⟩ : ∃ p1, p1 = w.heap.size := ⟨_, rfl⟩
          obtain ⟨p2, hp2⟩ : ∃ p2, p2 = w.heap.size + 1 := ⟨_, rfl⟩
          rw [← hw2] at HB k1 k2
          rw [← hp1] at k1
          rw [← hp2] at k2
          rw [← hw2]
          rw [← hp2]
          rw [← hp1]
          clear hw2 hp1 hp2
          have x10 : w2.cell? ⟨p1, 0, none⟩ = some (.string x.key) := k1.cell 0
          have x11 : w2.cell? ⟨p1, 1, none⟩ = some (.int .i64 x.id.n) := k1.cell 1
          have x12 : w2.cell? ⟨p1, 2, none⟩ = some (.int .i64 x.id.c) := k1.cell 2
          have x13 : w2.cell? ⟨p1, 3, none⟩ = some (.int .i64 x.mode) := k1.cell 3
          have x20 : w2.cell? ⟨p2, 0, none⟩ = some (.string y.key) := k2.cell 0
          have x21 : w2.cell? ⟨p2, 1, none⟩ = some (.int .i64 y.id.n) := k2.cell 1
          have x22 : w2.cell? ⟨p2, 2, none⟩ = some (.int .i64 y.id.c) := k2.cell 2
          have x23 : w2.cell? ⟨p2, 3, none⟩ = some (.int .i64 y.mode) := k2.cell 3
          clear k1 k2
          go_wp2
          go_ret
          exact ⟨ret_bool HR.out.symm, HB.out⟩
/-- what is wrong with an identity -/
def idE (x : Idn) : Int := if idOk x = true then 0 else 2
def ErrIs (r : Int) (w : World) (e : Ending) (w' : World) : Prop := e = .returned (.int .i64 r) ∧ Below w.heap.size w w'
set_option maxHeartbeats 2000000 in
theorem check_any (x : Idn) (w : World) : Calls Tryz.prog 67 #[idV x] w (ErrIs (idE x) w) := by
  by_cases h1 : x.n < 1
  · have HR : Hid (idE x = 2) := Lib.hid (by unfold idE idOk; rw [if_neg]; simp; omega)
    have z1 : decide (x.n < 1) = true := decide_eq_true h1
    unfold idV
    go_enter Tryz.func67, Tryz.ntmps67
    go_wp2
    go_ret
    exact ⟨ret_int HR.out.symm, below_alloc _ _⟩
  have z1 : decide (x.n < 1) = false := decide_eq_false h1
  by_cases h2 : 1099511627776 < x.n
  · have HR : Hid (idE x = 2) := Lib.hid (by unfold idE idOk; rw [if_neg]; simp; omega)
    have z2 : decide (1099511627776 < x.n) = true := decide_eq_true h2
    unfold idV
    go_enter Tryz.func67, Tryz.ntmps67
    go_wp2
    go_ret
    exact ⟨ret_int HR.out.symm, below_alloc _ _⟩
  have z2 : decide (1099511627776 < x.n) = false := decide_eq_false h2
  by_cases h3 : x.c < 0
  · have HR : Hid (idE x = 2) := Lib.hid (by unfold idE idOk; rw [if_neg]; simp; omega)
    have z3 : decide (x.c < 0) = true := decide_eq_true h3
    unfold idV
    go_enter Tryz.func67, Tryz.ntmps67
    go_wp2
    go_ret
    exact ⟨ret_int HR.out.symm, below_alloc _ _⟩
  have z3 : decide (x.c < 0) = false := decide_eq_false h3
  by_cases h4 : 16 ≤ x.c
  · have HR : Hid (idE x = 2) := Lib.hid (by unfold idE idOk; rw [if_neg]; simp; omega)
    have z4 : decide (16 ≤ x.c) = true := decide_eq_true h4
    unfold idV
    go_enter Tryz.func67, Tryz.ntmps67
    go_wp2
    go_ret
    exact ⟨ret_int HR.out.symm, below_alloc _ _⟩
  have z4 : decide (16 ≤ x.c) = false := decide_eq_false h4
  have HR : Hid (idE x = 0) := Lib.hid (by unfold idE idOk; rw [if_pos]; simp; omega)
  unfold idV
  go_enter Tryz.func67, Tryz.ntmps67
  go_wp2
  go_ret
  exact ⟨ret_int HR.out.symm, below_alloc _ _⟩
theorem sound1 {x : Lk} (h : idOk x.id = false) : soundE x = 2 := by unfold soundE; rw [if_pos h]
theorem sound2 {x : Lk} (h : idOk x.id = true) (h2 : ¬ (1 ≤ x.key.size ∧ x.key.size ≤ 32)) : soundE x = 120 := by unfold soundE; rw [if_neg (by rw [h]; simp), if_pos h2]
theorem sound3 {x : Lk} (h : idOk x.id = true) (h2 : 1 ≤ x.key.size ∧ x.key.size ≤ 32) (h3 : ¬ (x.mode = 1 ∨ x.mode = 2)) : soundE x = 5 := by unfold soundE; rw [if_neg (by rw [h]; simp), if_neg (fun h => h h2), if_pos h3]
theorem sound4 {x : Lk} (h : idOk x.id = true) (h2 : 1 ≤ x.key.size ∧ x.key.size ≤ 32) (h3 : x.mode = 1 ∨ x.mode = 2) : soundE x = 0 := by unfold soundE; rw [if_neg (by rw [h]; simp), if_neg (fun h => h h2), if_neg (fun h => h h3)]
set_option maxHeartbeats 2000000 in
theorem sound_any (x : Lk) (w : World) : Calls Tryz.prog 35 #[lkV x] w (ErrIs (soundE x) w) := by
  have HC := Lib.hid (check_any x.id)
  unfold idV at HC
  cases hi : idOk x.id with
  | false =>
    have hE : idE x.id = 2 := by unfold idE; rw [hi]; rfl
    rw [hE] at HC
    clear hE
    have HR : Hid (soundE x = 2) := Lib.hid (sound1 hi)
    unfold lkV
    go_enter Tryz.func35, Tryz.ntmps35
    go_upto_block 0 with fail
    have k1 := Blk.new w 62 #[.string x.key, .int .i64 x.id.n, .int .i64 x.id.c, .int .i64 x.mode]
    have HB := Lib.hid (below_alloc w (.cells #[.string x.key, .int .i64 x.id.n, .int .i64 x.id.c, .int .i64 x.mode] 62))
    obtain ⟨w2, hw2⟩ : ∃ w2, w2 = (w.alloc (.cells #[.string x.key, .int .i64 x.id.n, .int .i64 x.id.c, .int .i64 x.mode] 62)) := ⟨_, rfl⟩
    obtain ⟨p1, hp1⟩ : ∃ p1, p1 = w.heap.size := ⟨_, rfl⟩
    rw [← hw2] at HB k1
    rw [← hp1] at k1
    rw [← hw2]
    rw [← hp1]
    clear hw2 hp1
    have x10 : w2.cell? ⟨p1, 0, none⟩ = some (.string x.key) := k1.cell 0
    have x11 : w2.cell? ⟨p1, 1, none⟩ = some (.int .i64 x.id.n) := k1.cell 1
    have x12 : w2.cell? ⟨p1, 2, none⟩ = some (.int .i64 x.id.c) := k1.cell 2
    have x13 : w2.cell? ⟨p1, 3, none⟩ = some (.int .i64 x.mode) := k1.cell 3
    go_wp2_with fail
    refine (HC.out _).mono ?_
    rintro e w3 ⟨rfl, hb3⟩
    have hkb := k1.below hb3 k1.lt
    have y0 : w3.cell? ⟨p1, 0, none⟩ = some (.string x.key) := hkb.cell 0
    have y3 : w3.cell? ⟨p1, 3, none⟩ = some (.int .i64 x.mode) := hkb.cell 3
    clear x10 x11 x12 x13 hkb k1
    go_wp2
    go_ret
    exact ⟨ret_int HR.out.symm, HB.out.trans (hb3.mono HB.out.size)⟩
  | true =>
    have hE : idE x.id = 0 := by unfold idE; rw [hi]; rfl
    rw [hE] at HC
    clear hE
    by_cases h1 : x.key.size < 1
    · have z1 : decide ((x.key.size : Int) < 1) = true := decide_eq_true (by omega)
      have HR : Hid (soundE x = 120) := Lib.hid (sound2 hi (by omega))
      unfold lkV
      go_enter Tryz.func35, Tryz.ntmps35
      go_upto_block 0 with fail
      have k1 := Blk.new w 62 #[.string x.key, .int .i64 x.id.n, .int .i64 x.id.c, .int .i64 x.mode]
      have HB := Lib.hid (below_alloc w (.cells #[.string x.key, .int .i64 x.id.n, .int .i64 x.id.c, .int .i64 x.mode] 62))
      obtain ⟨w2, hw2⟩ : ∃ w2, w2 = (w.alloc (.cells #[.string x.key, .int .i64 x.id.n, .int .i64 x.id.c, .int .i64 x.mode] 62)) := ⟨_, rfl⟩
      obtain ⟨p1, hp1⟩ : ∃ p1, p1 = w.heap.size := ⟨_, rfl⟩
      rw [← hw2] at HB k1
      rw [← hp1] at k1
      rw [← hw2]
      rw [← hp1]
      clear hw2 hp1
      have x10 : w2.cell? ⟨p1, 0, none⟩ = some (.string x.key) := k1.cell 0
      have x11 : w2.cell? ⟨p1, 1, none⟩ = some (.int .i64 x.id.n) := k1.cell 1
      have x12 : w2.cell? ⟨p1, 2, none⟩ = some (.int .i64 x.id.c) := k1.cell 2
      have x13 : w2.cell? ⟨p1, 3, none⟩ = some (.int .i64 x.mode) := k1.cell 3
      go_wp2_with fail
      refine (HC.out _).mono ?_
      rintro e w3 ⟨rfl, hb3⟩
      have hkb := k1.below hb3 k1.lt
      have y0 : w3.cell? ⟨p1, 0, none⟩ = some (.string x.key) := hkb.cell 0
      have y3 : w3.cell? ⟨p1, 3, none⟩ = some (.int .i64 x.mode) := hkb.cell 3
      clear x10 x11 x12 x13 hkb k1
      go_wp2
      go_ret
      exact ⟨ret_int HR.out.symm, HB.out.trans (hb3.mono HB.out.size)⟩
    have z1 : decide ((x.key.size : Int) < 1) = false := decide_eq_false (by omega)
    by_cases h2 : 32 < x.key.size
    · have z2 : decide ((32 : Int) < (x.key.size : Int)) = true := decide_eq_true (by omega)
      have HR : Hid (soundE x = 120) := Lib.hid (sound2 hi (by omega))
      unfold lkV
      go_enter Tryz.func35, Tryz.ntmps35
      go_upto_block 0 with fail
      have k1 := Blk.new w 62 #[.string x.key, .int .i64 x.id.n, .int .i64 x.id.c, .int .i64 x.mode]
      have HB := Lib.hid (below_alloc w (.cells #[.string x.key, .int .i64 x.id.n, .int .i64 x.id.c, .int .i64 x.mode] 62))
      obtain ⟨w2, hw2⟩ : ∃ w2, w2 = (w.alloc (.cells #[.string x.key, .int .i64 x.id.n, .int .i64 x.id.c, .int .i64 x.mode] 62)) := ⟨_, rfl⟩
      obtain ⟨p1, hp1⟩ : ∃ p1, p1 = w.heap.size := ⟨_, rfl⟩
      rw [← hw2] at HB k1
      rw [← hp1] at k1
      rw [← hw2]
      rw [← hp1]
      clear hw2 hp1
      have x10 : w2.cell? ⟨p1, 0, none⟩ = some (.string x.key) := k1.cell 0
      have x11 : w2.cell? ⟨p1, 1, none⟩ = some (.int .i64 x.id.n) := k1.cell 1
      have x12 : w2.cell? ⟨p1, 2, none⟩ = some (.int .i64 x.id.c) := k1.cell 2
      have x13 : w2.cell? ⟨p1, 3, none⟩ = some (.int .i64 x.mode) := k1.cell 3
      go_wp2_with fail
      refine (HC.out _).mono ?_
      rintro e w3 ⟨rfl, hb3⟩
      have hkb := k1.below hb3 k1.lt
      have y0 : w3.cell? ⟨p1, 0, none⟩ = some (.string x.key) := hkb.cell 0
      have y3 : w3.cell? ⟨p1, 3, none⟩ = some (.int .i64 x.mode) := hkb.cell 3
      clear x10 x11 x12 x13 hkb k1
      go_wp2
      go_ret
      exact ⟨ret_int HR.out.symm, HB.out.trans (hb3.mono HB.out.size)⟩
    have z2 : decide ((32 : Int) < (x.key.size : Int)) = false := decide_eq_false (by omega)
    cases h3 : (x.mode != 1) with
    | false =>
      have HR : Hid (soundE x = 0) := Lib.hid (sound4 hi (by omega) (.inl (by simpa using h3)))
      unfold lkV
      go_enter Tryz.func35, Tryz.ntmps35
      go_upto_block 0 with fail
      have k1 := Blk.new w 62 #[.string x.key, .int .i64 x.id.n, .int .i64 x.id.c, .int .i64 x.mode]
      have HB := Lib.hid (below_alloc w (.cells #[.string x.key, .int .i64 x.id.n, .int .i64 x.id.c, .int .i64 x.mode] 62))
      obtain ⟨w2, hw2⟩ : ∃ w2, w2 = (w.alloc (.cells #[.string x.key, .int .i64 x.id.n, .int .i64 x.id.c, .int .i64 x.mode] 62)) := ⟨_, rfl⟩
      obtain ⟨p1, hp1⟩ : ∃ p1, p1 = w.heap.size := ⟨_, rfl⟩
      rw [← hw2] at HB k1
      rw [← hp1] at k1
      rw [← hw2]
      rw [← hp1]
      clear hw2 hp1
      have x10 : w2.cell? ⟨p1, 0, none⟩ = some (.string x.key) := k1.cell 0
      have x11 : w2.cell? ⟨p1, 1, none⟩ = some (.int .i64 x.id.n) := k1.cell 1
      have x12 : w2.cell? ⟨p1, 2, none⟩ = some (.int .i64 x.id.c) := k1.cell 2
      have x13 : w2.cell? ⟨p1, 3, none⟩ = some (.int .i64 x.mode) := k1.cell 3
      go_wp2_with fail
      refine (HC.out _).mono ?_
      rintro e w3 ⟨rfl, hb3⟩
      have hkb := k1.below hb3 k1.lt
      have y0 : w3.cell? ⟨p1, 0, none⟩ = some (.string x.key) := hkb.cell 0
      have y3 : w3.cell? ⟨p1, 3, none⟩ = some (.int .i64 x.mode) := hkb.cell 3
      clear x10 x11 x12 x13 hkb k1
      go_wp2
      go_ret
      exact ⟨ret_int HR.out.symm, HB.out.trans (hb3.mono HB.out.size)⟩
    | true =>
      cases h4 : (x.mode != 2) with
      | false =>
        have HR : Hid (soundE x = 0) := Lib.hid (sound4 hi (by omega) (.inr (by simpa using h4)))
        unfold lkV
        go_enter Tryz.func35, Tryz.ntmps35
        go_upto_block 0 with fail
        have k1 := Blk.new w 62 #[.string x.key, .int .i64 x.id.n, .int .i64 x.id.c, .int .i64 x.mode]
        have HB := Lib.hid (below_alloc w (.cells #[.string x.key, .int .i64 x.id.n, .int .i64 x.id.c, .int .i64 x.mode] 62))
        obtain ⟨w2, hw2⟩ : ∃ w2, w2 = (w.alloc (.cells #[.string x.key, .int .i64 x.id.n, .int .i64 x.id.c, .int .i64 x.mode] 62)) := ⟨_, rfl⟩
        obtain ⟨p1, hp1⟩ : ∃ p1, p1 = w.heap.size := ⟨_, rfl⟩
        rw [← hw2] at HB k1
        rw [← hp1] at k1
        rw [← hw2]
        rw [← hp1]
        clear hw2 hp1
        have x10 : w2.cell? ⟨p1, 0, none⟩ = some (.string x.key) := k1.cell 0
        have x11 : w2.cell? ⟨p1, 1, none⟩ = some (.int .i64 x.id.n) := k1.cell 1
        have x12 : w2.cell? ⟨p1, 2, none⟩ = some (.int .i64 x.id.c) := k1.cell 2
        have x13 : w2.cell? ⟨p1, 3, none⟩ = some (.int .i64 x.mode) := k1.cell 3
        go_wp2_with fail
        refine (HC.out _).mono ?_
        rintro e w3 ⟨rfl, hb3⟩
        have hkb := k1.below hb3 k1.lt
        have y0 : w3.cell? ⟨p1, 0, none⟩ = some (.string x.key) := hkb.cell 0
        have y3 : w3.cell? ⟨p1, 3, none⟩ = some (.int .i64 x.mode) := hkb.cell 3
        clear x10 x11 x12 x13 hkb k1
        go_wp2
        go_ret
        exact ⟨ret_int HR.out.symm, HB.out.trans (hb3.mono HB.out.size)⟩
      | true =>
        have HR : Hid (soundE x = 5) := Lib.hid (sound3 hi (by omega) (by simp at h3 h4; omega))
        unfold lkV
        go_enter Tryz.func35, Tryz.ntmps35
        go_upto_block 0 with fail
        have k1 := Blk.new w 62 #[.string x.key, .int .i64 x.id.n, .int .i64 x.id.c, .int .i64 x.mode]
        have HB := Lib.hid (below_alloc w (.cells #[.string x.key, .int .i64 x.id.n, .int .i64 x.id.c, .int .i64 x.mode] 62))
        obtain ⟨w2, hw2⟩ : ∃ w2, w2 = (w.alloc (.cells #[.string x.key, .int .i64 x.id.n, .int .i64 x.id.c, .int .i64 x.mode] 62)) := ⟨_, rfl⟩
        obtain ⟨p1, hp1⟩ : ∃ p1, p1 = w.heap.size := ⟨_, rfl⟩
        rw [← hw2] at HB k1
        rw [← hp1] at k1
        rw [← hw2]
        rw [← hp1]
        clear hw2 hp1
        have x10 : w2.cell? ⟨p1, 0, none⟩ = some (.string x.key) := k1.cell 0
        have x11 : w2.cell? ⟨p1, 1, none⟩ = some (.int .i64 x.id.n) := k1.cell 1
        have x12 : w2.cell? ⟨p1, 2, none⟩ = some (.int .i64 x.id.c) := k1.cell 2
        have x13 : w2.cell? ⟨p1, 3, none⟩ = some (.int .i64 x.mode) := k1.cell 3
        go_wp2_with fail
        refine (HC.out _).mono ?_
        rintro e w3 ⟨rfl, hb3⟩
        have hkb := k1.below hb3 k1.lt
        have y0 : w3.cell? ⟨p1, 0, none⟩ = some (.string x.key) := hkb.cell 0
        have y3 : w3.cell? ⟨p1, 3, none⟩ = some (.int .i64 x.mode) := hkb.cell 3
        clear x10 x11 x12 x13 hkb k1
        go_wp2
        go_ret
        exact ⟨ret_int HR.out.symm, HB.out.trans (hb3.mono HB.out.size)⟩
theorem always_any (x : Lk) (w : World) : Calls Tryz.prog 39 #[lkV x] w (BoolIs true w) := by
  unfold lkV
  go_enter Tryz.func39, Tryz.ntmps39
  go_wp2
  go_ret
  exact ⟨rfl, below_alloc _ _⟩
set_option maxHeartbeats 1000000 in
theorem ahead_any (x y : Lk) (g : Nat) (w : World) (hg : Blk w g 62 #[.string y.key, .int .i64 y.id.n, .int .i64 y.id.c, .int .i64 y.mode]) : Calls Tryz.prog 85 #[lkV x, .pointer (some ⟨g, 0, none⟩)] w (BoolIs (ol x.id y.id) w) := by
  have H2 := Lib.hid (older_any x.id y.id)
  unfold idV at H2
  have hgl := hg.lt
  unfold lkV
  go_enter Tryz.func85, Tryz.ntmps85
  go_upto_region 1 with fail
  have hg2 := hg.alloc (.cells #[.string x.key, .int .i64 x.id.n, .int .i64 x.id.c, .int .i64 x.mode] 62)
  have k1 := Blk.new w 62 #[.string x.key, .int .i64 x.id.n, .int .i64 x.id.c, .int .i64 x.mode]
  have HB := Lib.hid (below_alloc w (.cells #[.string x.key, .int .i64 x.id.n, .int .i64 x.id.c, .int .i64 x.mode] 62))
  obtain ⟨w2, hw2⟩ : ∃ w2, w2 = (w.alloc (.cells #[.string x.key, .int .i64 x.id.n, .int .i64 x.id.c, .int .i64 x.mode] 62)) := ⟨_, rfl⟩
  obtain ⟨p1, hp1⟩ : ∃ p1, p1 = w.heap.size := ⟨_, rfl⟩
  rw [← hw2] at HB k1 hg2
  rw [← hp1] at k1
  rw [← hw2]
  rw [← hp1]
  clear hw2 hp1
  have x10 : w2.cell? ⟨p1, 0, none⟩ = some (.string x.key) := k1.cell 0
  have x11 : w2.cell? ⟨p1, 1, none⟩ = some (.int .i64 x.id.n) := k1.cell 1
  have x12 : w2.cell? ⟨p1, 2, none⟩ = some (.int .i64 x.id.c) := k1.cell 2
  have x13 : w2.cell? ⟨p1, 3, none⟩ = some (.int .i64 x.mode) := k1.cell 3
  have y1 : w2.cell? ⟨g, 1, none⟩ = some (.int .i64 y.id.n) := hg2.cell 1
  have y2 : w2.cell? ⟨g, 2, none⟩ = some (.int .i64 y.id.c) := hg2.cell 2
  clear k1 hg2 hg hgl
  go_wp2_with fail
  refine (H2.out _).mono ?_
  rintro e w3 ⟨rfl, hb3⟩
  clear x10 x11 x12 x13 y1 y2
  go_wp2_with fail
  go_ret
  exact ⟨rfl, HB.out.trans (hb3.mono HB.out.size)⟩
end Go.Proofs.YtpidpdbjjdkhoaaGreat
