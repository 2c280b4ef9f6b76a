/- Locks, the reference: Waits, Good, lock, refused. -/
import Derived.Test.YtpidpdbjjdkhoaaGreatGzC
namespace Go.Proofs.YtpidpdbjjdkhoaaGreat
open Go.RowKit
set_option linter.unusedSimpArgs false
set_option linter.unusedVariables false
attribute [local go_sem ↓] Go.wp_at_zero Go.wp_at_succ

set_option maxHeartbeats 8000000 in
set_option maxRecDepth 100000 in
theorem rwaits_any {w : World} {g : Nat} {q : Tb} {m : TbM} (h : RfAt w g q m) (id : Idn) : Calls Tryz.prog 54 #[.pointer (some ⟨g, 0, none⟩), idV id] w (WantEnds q id w) := by
  have HH := Lib.hid h
  have HE := Lib.hid (fun y => run_eqI y id)
  have HWE := Lib.hid (wants_eq q id)
  clear h
  unfold idV
  go_enter Tryz.func54, Tryz.ntmps54
  go_upto_region 1 with fail
  have k1 := (Blk.new w 29 #[.int .i64 id.n, .int .i64 id.c]).alloc (.cells #[.string ⟨#[]⟩, .int .i64 0, .int .i64 0, .int .i64 0] 62)
  have k2 := Blk.new (w.alloc (.cells #[.int .i64 id.n, .int .i64 id.c] 29)) 62 #[.string ⟨#[]⟩, .int .i64 0, .int .i64 0, .int .i64 0]
  simp only [World.size_alloc] at k2
  have HB := Lib.hid ((below_alloc w (.cells #[.int .i64 id.n, .int .i64 id.c] 29)).alloc (by simp) (.cells #[.string ⟨#[]⟩, .int .i64 0, .int .i64 0, .int .i64 0] 62))
  obtain ⟨w2, hw2⟩ : ∃ w2, w2 = ((w.alloc (.cells #[.int .i64 id.n, .int .i64 id.c] 29)).alloc (.cells #[.string ⟨#[]⟩, .int .i64 0, .int .i64 0, .int .i64 0] 62)) := ⟨_, rfl⟩
  obtain ⟨p1, hp1⟩ : ∃ p1, p1 = w.heap.size := ⟨_, rfl⟩
  obtain ⟨p2, hp2⟩ : ∃ p2, p2 = w.heap.size + 1 := ⟨_, rfl⟩
  rw [← hw2] at HB k1 k2
  rw [← hp1] at k1
  rw [← hp2] at k2
  rw [← hw2]
  rw [← hp2]
  rw [← hp1]
  have HP2 : Hid (w.heap.size ≤ p2) := Lib.hid (by omega)
  clear hw2 hp1 hp2
  have HT2 := Lib.hid (HH.out.below HB.out)
  have HK1 := Lib.hid k1
  have HK2 := Lib.hid k2
  clear k2
  clear k1
  go_wp2
  go_loopw [6] (ScRel lkR q.wait (fun y => eqI y.id id) w2) (fun i _ => q.wait.length - (intOf i).toNat)
  case atStart => exact ⟨0, rfl, Nat.zero_le _, fun j h => absurd h (by omega), Below.refl _ _⟩
  case round =>
    obtain ⟨k, rfl, hk, hno, hb⟩ := hrel
    have HNO := Lib.hid hno
    have HBR := Lib.hid hb
    have hfh := HT2.out.fh
    have y1 : wr.cell? ⟨g, 2, none⟩ = some (.slice m.aw q.wait.length m.cw) := (HT2.out.below hb).c2
    clear hno hb
    by_cases hlt : k < q.wait.length
    · obtain ⟨b, off, hA, hcell⟩ := rowL (Reads.of_own HT2.out.ow) (by omega)
      have hcy := hcell k hlt
      rw [hA] at y1
      obtain ⟨y, hy⟩ : ∃ y, y = gr lkR q.wait k := ⟨_, rfl⟩
      rw [← hy] at hcy
      have HCY := Lib.hid hcy
      have HY := Lib.hid hy
      have kL : (0 : Int) ≤ (k : Int) := by omega
      have kU : (k : Int) < (q.wait.length : Int) := by omega
      have hS : Hid (∀ w', Below w2.heap.size w2 w' → (w'.cell? ⟨g, 2, none⟩ = some (.slice (some ⟨b, off, none⟩) q.wait.length m.cw) ∧ w'.cell? ⟨b, off + k * 4, none⟩ = some (.string y.key) ∧ w'.cell? ⟨b, off + k * 4 + 1, none⟩ = some (.int .i64 y.id.n) ∧ w'.cell? ⟨b, off + k * 4 + 2, none⟩ = some (.int .i64 y.id.c) ∧ w'.cell? ⟨b, off + k * 4 + 3, none⟩ = some (.int .i64 y.mode) ∧ w'.cell? ⟨p1, 0, none⟩ = some (.int .i64 id.n) ∧ w'.cell? ⟨p1, 1, none⟩ = some (.int .i64 id.c))) := Lib.hid (fun w' hb => by
        have h1 := (HT2.out.below hb).c2
        rw [hA] at h1
        obtain ⟨a0, a1, a2, a3⟩ := HCY.out w' hb
        exact ⟨h1, a0, a1, a2, a3, (HK1.out.below hb HK1.out.lt).cell 0, (HK1.out.below hb HK1.out.lt).cell 1⟩)
      have HBD : Hid (Below w2.heap.size w2 wr.drew) := Lib.hid (HBR.out.trans ((below_drewN (Below.refl wr.heap.size wr) 1).mono HBR.out.size))
      clear hy hcy hcell
      have he := HE.out y.id
      cases hq : eqI y.id id with
      | false =>
        rw [hq] at he
        have HV : Hid (((fun y : Lk => eqI y.id id) y) = false) := Lib.hid hq
        clear hq
        go_wp2_with fail
        refine wp_region_heldH (by kernel_rfl) hS (HBD.out) (fun hHeld => ?_)
        refine takes [0, 1, 2, 3, 4, 5, 6, 7, 8, 9] 0 (by kernel_rfl) (by assumption) ?_
        iterate 10 (refine tkY rfl (fun _ _ _ h => h) rfl (by ((intro w hSw); (try dsimp only at hSw); go_simp; (try with_reducible rfl))) ?_; try simp only [Act.put, List.setIfInBounds_toArray, List.set_cons_zero, List.set_cons_succ])
        refine tkE ?_
        refine wpAnyH_done (by kernel_rfl) ?_ _
        go_wp2
        go_roundw
        case rel => exact ⟨k + 1, by go_num, by omega, sc_on (p := (fun y : Lk => eqI y.id id)) HNO.out (by rw [← HY.out]; exact HV.out), HBD.out⟩
        case measure => simp [intOf]; omega
      | true =>
        rw [hq] at he
        have HV : Hid (wantsL q id = some y) := Lib.hid (by rw [HWE.out, sc_find (p := (fun y : Lk => eqI y.id id)) hlt HNO.out (by rw [← HY.out]; exact hq), ← HY.out])
        clear hq
        have HSD := Lib.hid (hS.out _ HBD.out)
        go_wp2_with fail
        refine wp_region_heldH (by kernel_rfl) hS (HBD.out) (fun hHeld => ?_)
        refine takes [0, 1, 2, 3, 4, 5, 6, 7, 8, 9] 0 (by kernel_rfl) (by assumption) ?_
        iterate 10 (refine tkY rfl (fun _ _ _ h => h) rfl (by ((intro w hSw); (try dsimp only at hSw); go_simp; (try with_reducible rfl))) ?_; try simp only [Act.put, List.setIfInBounds_toArray, List.set_cons_zero, List.set_cons_succ])
        refine tkE ?_
        refine wpAnyH_done (by kernel_rfl) ?_ _
        obtain ⟨wd, hnm⟩ : ∃ wd : World, wd = wr.drew := ⟨_, rfl⟩
        rw [← hnm] at HSD HBD ⊢
        clear hnm
        obtain ⟨y2, a0, a1, a2, a3, _⟩ := HSD.out
        have k3 := HK2.out.below HBD.out HK2.out.lt
        have HB3 := Lib.hid (HB.out.trans (HBD.out.mono HB.out.size))
        have z0 : wd.cell? ⟨p2, 0, none⟩ = some (.string ⟨#[]⟩) := k3.cell 0
        have z1 : wd.cell? ⟨p2, 1, none⟩ = some (.int .i64 0) := k3.cell 1
        have z2 : wd.cell? ⟨p2, 2, none⟩ = some (.int .i64 0) := k3.cell 2
        have z3 : wd.cell? ⟨p2, 3, none⟩ = some (.int .i64 0) := k3.cell 3
        have f0 := k3.frozen 0
        have f1 := k3.frozen 1
        have f2 := k3.frozen 2
        have f3 := k3.frozen 3
        have HK3 := Lib.hid k3
        clear k3
        have HKR := Lib.hid (Blk.setAll [.string y.key, .int .i64 y.id.n, .int .i64 y.id.c, .int .i64 y.mode] (p := 0) HK3.out)
        have HBR4 := Lib.hid (belowAll [.string y.key, .int .i64 y.id.n, .int .i64 y.id.c, .int .i64 y.mode] (g := p2) (p := 0) HB3.out HP2.out)
        obtain ⟨w4, hw4⟩ : ∃ w4, w4 = wd.setCells p2 0 [.string y.key, .int .i64 y.id.n, .int .i64 y.id.c, .int .i64 y.mode] := ⟨_, rfl⟩
        rw [← hw4] at HKR HBR4
        go_wp2
        refine bodyPost_ret (w := wd.setCells p2 0 [.string y.key, .int .i64 y.id.n, .int .i64 y.id.c, .int .i64 y.mode]) (results_lock rfl _ _ y p2 rfl (by rw [← hw4]; exact HKR.out)) rfl ?_
        unfold WantEnds
        rw [HV.out, ← hw4]
        exact ⟨rfl, HBR4.out⟩
    · have kU : ¬ (k : Int) < (q.wait.length : Int) := by omega
      have HV : Hid (wantsL q id = none) := Lib.hid (by rw [HWE.out, sc_none (p := (fun y : Lk => eqI y.id id)) (show q.wait.length ≤ k by omega) HNO.out])
      have k3 := HK2.out.below HBR.out HK2.out.lt
      have HB3 := Lib.hid (HB.out.trans (HBR.out.mono HB.out.size))
      have z0 : wr.cell? ⟨p2, 0, none⟩ = some (.string ⟨#[]⟩) := k3.cell 0
      have z1 : wr.cell? ⟨p2, 1, none⟩ = some (.int .i64 0) := k3.cell 1
      have z2 : wr.cell? ⟨p2, 2, none⟩ = some (.int .i64 0) := k3.cell 2
      have z3 : wr.cell? ⟨p2, 3, none⟩ = some (.int .i64 0) := k3.cell 3
      have f0 := k3.frozen 0
      have f1 := k3.frozen 1
      have f2 := k3.frozen 2
      have f3 := k3.frozen 3
      have HK3 := Lib.hid k3
      clear k3
      have HKR := Lib.hid (Blk.setAll [.string ⟨#[]⟩, .int .i64 0, .int .i64 0, .int .i64 0] (p := 0) HK3.out)
      have HBR4 := Lib.hid (belowAll [.string ⟨#[]⟩, .int .i64 0, .int .i64 0, .int .i64 0] (g := p2) (p := 0) HB3.out HP2.out)
      obtain ⟨w4, hw4⟩ : ∃ w4, w4 = wr.setCells p2 0 [.string ⟨#[]⟩, .int .i64 0, .int .i64 0, .int .i64 0] := ⟨_, rfl⟩
      rw [← hw4] at HKR HBR4
      go_wp2
      refine bodyPost_ret (w := wr.setCells p2 0 [.string ⟨#[]⟩, .int .i64 0, .int .i64 0, .int .i64 0]) (results_lock rfl _ _ zeroL p2 rfl (by rw [← hw4]; exact HKR.out)) rfl ?_
      unfold WantEnds
      rw [HV.out, ← hw4]
      exact ⟨rfl, HBR4.out⟩
set_option maxHeartbeats 4000000 in
theorem rgood_any (x : Idn) (w : World) : Calls Tryz.prog 100 #[idV x] w (BoolIs (idOk x) w) := by
  by_cases h1 : 1 ≤ x.n
  · by_cases h2 : x.n ≤ 1099511627776
    · by_cases h3 : 0 ≤ x.c
      · by_cases h4 : x.c < 16
        ·
          have HR : Hid (idOk x = true) := Lib.hid (by unfold idOk; exact decide_eq_true ⟨h1, h2, h3, h4⟩)
          unfold idV
          go_enter Tryz.func100, Tryz.ntmps100
          go_upto_region 1 with fail
          have k1 := Blk.new w 29 #[.int .i64 x.n, .int .i64 x.c]
          have HB := Lib.hid (below_alloc w (.cells #[.int .i64 x.n, .int .i64 x.c] 29))
          obtain ⟨w2, hw2⟩ : ∃ w2, w2 = (w.alloc (.cells #[.int .i64 x.n, .int .i64 x.c] 29)) := ⟨_, rfl⟩
          obtain ⟨p1, hp1⟩ : ∃ p1, p1 = w.heap.size := ⟨_, rfl⟩
          rw [← hw2] at HB k1
          rw [← hp1] at k1
          rw [← hw2]
          rw [← hp1]
          clear hw2 hp1
          have x10 : w2.cell? ⟨p1, 0, none⟩ = some (.int .i64 x.n) := k1.cell 0
          have x11 : w2.cell? ⟨p1, 1, none⟩ = some (.int .i64 x.c) := k1.cell 1
          clear k1
          go_wp2
          go_ret
          exact ⟨ret_bool HR.out.symm, HB.out⟩
        ·
          have HR : Hid (idOk x = false) := Lib.hid (by unfold idOk; exact decide_eq_false (fun h => by omega))
          unfold idV
          go_enter Tryz.func100, Tryz.ntmps100
          go_upto_region 1 with fail
          have k1 := Blk.new w 29 #[.int .i64 x.n, .int .i64 x.c]
          have HB := Lib.hid (below_alloc w (.cells #[.int .i64 x.n, .int .i64 x.c] 29))
          obtain ⟨w2, hw2⟩ : ∃ w2, w2 = (w.alloc (.cells #[.int .i64 x.n, .int .i64 x.c] 29)) := ⟨_, rfl⟩
          obtain ⟨p1, hp1⟩ : ∃ p1, p1 = w.heap.size := ⟨_, rfl⟩
          rw [← hw2] at HB k1
          rw [← hp1] at k1
          rw [← hw2]
          rw [← hp1]
          clear hw2 hp1
          have x10 : w2.cell? ⟨p1, 0, none⟩ = some (.int .i64 x.n) := k1.cell 0
          have x11 : w2.cell? ⟨p1, 1, none⟩ = some (.int .i64 x.c) := k1.cell 1
          clear k1
          go_wp2
          go_ret
          exact ⟨ret_bool HR.out.symm, HB.out⟩
      ·
        have HR : Hid (idOk x = false) := Lib.hid (by unfold idOk; exact decide_eq_false (fun h => by omega))
        unfold idV
        go_enter Tryz.func100, Tryz.ntmps100
        go_upto_region 1 with fail
        have k1 := Blk.new w 29 #[.int .i64 x.n, .int .i64 x.c]
        have HB := Lib.hid (below_alloc w (.cells #[.int .i64 x.n, .int .i64 x.c] 29))
        obtain ⟨w2, hw2⟩ : ∃ w2, w2 = (w.alloc (.cells #[.int .i64 x.n, .int .i64 x.c] 29)) := ⟨_, rfl⟩
        obtain ⟨p1, hp1⟩ : ∃ p1, p1 = w.heap.size := ⟨_, rfl⟩
        rw [← hw2] at HB k1
        rw [← hp1] at k1
        rw [← hw2]
        rw [← hp1]
        clear hw2 hp1
        have x10 : w2.cell? ⟨p1, 0, none⟩ = some (.int .i64 x.n) := k1.cell 0
        have x11 : w2.cell? ⟨p1, 1, none⟩ = some (.int .i64 x.c) := k1.cell 1
        clear k1
        go_wp2
        go_ret
        exact ⟨ret_bool HR.out.symm, HB.out⟩
    ·
      have HR : Hid (idOk x = false) := Lib.hid (by unfold idOk; exact decide_eq_false (fun h => by omega))
      unfold idV
      go_enter Tryz.func100, Tryz.ntmps100
      go_upto_region 1 with fail
      have k1 := Blk.new w 29 #[.int .i64 x.n, .int .i64 x.c]
      have HB := Lib.hid (below_alloc w (.cells #[.int .i64 x.n, .int .i64 x.c] 29))
      obtain ⟨w2, hw2⟩ : ∃ w2, w2 = (w.alloc (.cells #[.int .i64 x.n, .int .i64 x.c] 29)) := ⟨_, rfl⟩
      obtain ⟨p1, hp1⟩ : ∃ p1, p1 = w.heap.size := ⟨_, rfl⟩
      rw [← hw2] at HB k1
      rw [← hp1] at k1
      rw [← hw2]
      rw [← hp1]
      clear hw2 hp1
      have x10 : w2.cell? ⟨p1, 0, none⟩ = some (.int .i64 x.n) := k1.cell 0
      have x11 : w2.cell? ⟨p1, 1, none⟩ = some (.int .i64 x.c) := k1.cell 1
      clear k1
      go_wp2
      go_ret
      exact ⟨ret_bool HR.out.symm, HB.out⟩
  ·
    have HR : Hid (idOk x = false) := Lib.hid (by unfold idOk; exact decide_eq_false (fun h => by omega))
    unfold idV
    go_enter Tryz.func100, Tryz.ntmps100
    go_upto_region 1 with fail
    have k1 := Blk.new w 29 #[.int .i64 x.n, .int .i64 x.c]
    have HB := Lib.hid (below_alloc w (.cells #[.int .i64 x.n, .int .i64 x.c] 29))
    obtain ⟨w2, hw2⟩ : ∃ w2, w2 = (w.alloc (.cells #[.int .i64 x.n, .int .i64 x.c] 29)) := ⟨_, rfl⟩
    obtain ⟨p1, hp1⟩ : ∃ p1, p1 = w.heap.size := ⟨_, rfl⟩
    rw [← hw2] at HB k1
    rw [← hp1] at k1
    rw [← hw2]
    rw [← hp1]
    clear hw2 hp1
    have x10 : w2.cell? ⟨p1, 0, none⟩ = some (.int .i64 x.n) := k1.cell 0
    have x11 : w2.cell? ⟨p1, 1, none⟩ = some (.int .i64 x.c) := k1.cell 1
    clear k1
    go_wp2
    go_ret
    exact ⟨ret_bool HR.out.symm, HB.out⟩
set_option maxHeartbeats 4000000 in
theorem rlock_any (x : Lk) (w : World) : Calls Tryz.prog 87 #[.string x.key, idV x.id, .int .i64 x.mode] w (IntIs (soundE x) w) := by
  have HG := Lib.hid (fun w => rgood_any x.id w)
  cases hi : idOk x.id with
  | false =>
    have HR : Hid (soundE x = 2) := Lib.hid (by unfold soundE; rw [if_pos hi])
    unfold idV
    unfold idV at HG
    go_enter Tryz.func87, Tryz.ntmps87
    go_upto_region 1 with fail
    have k1 := Blk.new w 29 #[.int .i64 x.id.n, .int .i64 x.id.c]
    have HB := Lib.hid (below_alloc w (.cells #[.int .i64 x.id.n, .int .i64 x.id.c] 29))
    obtain ⟨w2, hw2⟩ : ∃ w2, w2 = (w.alloc (.cells #[.int .i64 x.id.n, .int .i64 x.id.c] 29)) := ⟨_, rfl⟩
    obtain ⟨p1, hp1⟩ : ∃ p1, p1 = w.heap.size := ⟨_, rfl⟩
    rw [← hw2] at HB k1
    rw [← hp1] at k1
    rw [← hw2]
    rw [← hp1]
    clear hw2 hp1
    have x10 : w2.cell? ⟨p1, 0, none⟩ = some (.int .i64 x.id.n) := k1.cell 0
    have x11 : w2.cell? ⟨p1, 1, none⟩ = some (.int .i64 x.id.c) := k1.cell 1
    clear k1
    go_wp2_with fail
    refine (HG.out _).mono ?_
    rintro e w3 ⟨he, hb3⟩
    rw [hi] at he
    subst he
    have HB3 := Lib.hid (HB.out.trans (hb3.mono HB.out.size))
    clear x10 x11 hb3
    go_wp2
    go_ret
    exact ⟨ret_int HR.out.symm, HB3.out⟩
  | true =>
    by_cases s1 : (x.key.size : Int) < 1
    · have HR : Hid (soundE x = 120) := Lib.hid (by unfold soundE; rw [if_neg (by rw [hi]; simp), if_pos (by omega)])
      unfold idV
      unfold idV at HG
      go_enter Tryz.func87, Tryz.ntmps87
      go_upto_region 1 with fail
      have k1 := Blk.new w 29 #[.int .i64 x.id.n, .int .i64 x.id.c]
      have HB := Lib.hid (below_alloc w (.cells #[.int .i64 x.id.n, .int .i64 x.id.c] 29))
      obtain ⟨w2, hw2⟩ : ∃ w2, w2 = (w.alloc (.cells #[.int .i64 x.id.n, .int .i64 x.id.c] 29)) := ⟨_, rfl⟩
      obtain ⟨p1, hp1⟩ : ∃ p1, p1 = w.heap.size := ⟨_, rfl⟩
      rw [← hw2] at HB k1
      rw [← hp1] at k1
      rw [← hw2]
      rw [← hp1]
      clear hw2 hp1
      have x10 : w2.cell? ⟨p1, 0, none⟩ = some (.int .i64 x.id.n) := k1.cell 0
      have x11 : w2.cell? ⟨p1, 1, none⟩ = some (.int .i64 x.id.c) := k1.cell 1
      clear k1
      go_wp2_with fail
      refine (HG.out _).mono ?_
      rintro e w3 ⟨he, hb3⟩
      rw [hi] at he
      subst he
      have HB3 := Lib.hid (HB.out.trans (hb3.mono HB.out.size))
      clear x10 x11 hb3
      go_wp2
      go_ret
      exact ⟨ret_int HR.out.symm, HB3.out⟩
    by_cases s2 : (32 : Int) < (x.key.size : Int)
    · have HR : Hid (soundE x = 120) := Lib.hid (by unfold soundE; rw [if_neg (by rw [hi]; simp), if_pos (by omega)])
      unfold idV
      unfold idV at HG
      go_enter Tryz.func87, Tryz.ntmps87
      go_upto_region 1 with fail
      have k1 := Blk.new w 29 #[.int .i64 x.id.n, .int .i64 x.id.c]
      have HB := Lib.hid (below_alloc w (.cells #[.int .i64 x.id.n, .int .i64 x.id.c] 29))
      obtain ⟨w2, hw2⟩ : ∃ w2, w2 = (w.alloc (.cells #[.int .i64 x.id.n, .int .i64 x.id.c] 29)) := ⟨_, rfl⟩
      obtain ⟨p1, hp1⟩ : ∃ p1, p1 = w.heap.size := ⟨_, rfl⟩
      rw [← hw2] at HB k1
      rw [← hp1] at k1
      rw [← hw2]
      rw [← hp1]
      clear hw2 hp1
      have x10 : w2.cell? ⟨p1, 0, none⟩ = some (.int .i64 x.id.n) := k1.cell 0
      have x11 : w2.cell? ⟨p1, 1, none⟩ = some (.int .i64 x.id.c) := k1.cell 1
      clear k1
      go_wp2_with fail
      refine (HG.out _).mono ?_
      rintro e w3 ⟨he, hb3⟩
      rw [hi] at he
      subst he
      have HB3 := Lib.hid (HB.out.trans (hb3.mono HB.out.size))
      clear x10 x11 hb3
      go_wp2
      go_ret
      exact ⟨ret_int HR.out.symm, HB3.out⟩
    have hks : ¬ ¬ (1 ≤ x.key.size ∧ x.key.size ≤ 32) := by omega
    by_cases m1 : x.mode = 1
    · have HR : Hid (soundE x = 0) := Lib.hid (by unfold soundE; rw [if_neg (by rw [hi]; simp), if_neg hks, if_neg (by simp [m1])])
      have m1b : (x.mode == 1) = true := by simpa using m1
      have m1d : decide (x.mode = 1) = true := by simpa using m1
      have m1n : (x.mode != 1) = false := by unfold bne; rw [m1b]; rfl
      clear m1 hks
      unfold idV
      unfold idV at HG
      go_enter Tryz.func87, Tryz.ntmps87
      go_upto_region 1 with fail
      have k1 := Blk.new w 29 #[.int .i64 x.id.n, .int .i64 x.id.c]
      have HB := Lib.hid (below_alloc w (.cells #[.int .i64 x.id.n, .int .i64 x.id.c] 29))
      obtain ⟨w2, hw2⟩ : ∃ w2, w2 = (w.alloc (.cells #[.int .i64 x.id.n, .int .i64 x.id.c] 29)) := ⟨_, rfl⟩
      obtain ⟨p1, hp1⟩ : ∃ p1, p1 = w.heap.size := ⟨_, rfl⟩
      rw [← hw2] at HB k1
      rw [← hp1] at k1
      rw [← hw2]
      rw [← hp1]
      clear hw2 hp1
      have x10 : w2.cell? ⟨p1, 0, none⟩ = some (.int .i64 x.id.n) := k1.cell 0
      have x11 : w2.cell? ⟨p1, 1, none⟩ = some (.int .i64 x.id.c) := k1.cell 1
      clear k1
      go_wp2_with fail
      refine (HG.out _).mono ?_
      rintro e w3 ⟨he, hb3⟩
      rw [hi] at he
      subst he
      have HB3 := Lib.hid (HB.out.trans (hb3.mono HB.out.size))
      clear x10 x11 hb3
      go_wp2
      go_ret
      exact ⟨ret_int HR.out.symm, HB3.out⟩
    by_cases m2 : x.mode = 2
    · have HR : Hid (soundE x = 0) := Lib.hid (by unfold soundE; rw [if_neg (by rw [hi]; simp), if_neg hks, if_neg (by simp [m2])])
      have m1b : (x.mode == 1) = false := by simpa using m1
      have m1d : decide (x.mode = 1) = false := by simpa using m1
      have m1n : (x.mode != 1) = true := by unfold bne; rw [m1b]; rfl
      have m2b : (x.mode == 2) = true := by simpa using m2
      have m2d : decide (x.mode = 2) = true := by simpa using m2
      have m2n : (x.mode != 2) = false := by unfold bne; rw [m2b]; rfl
      clear m1 m2 hks
      unfold idV
      unfold idV at HG
      go_enter Tryz.func87, Tryz.ntmps87
      go_upto_region 1 with fail
      have k1 := Blk.new w 29 #[.int .i64 x.id.n, .int .i64 x.id.c]
      have HB := Lib.hid (below_alloc w (.cells #[.int .i64 x.id.n, .int .i64 x.id.c] 29))
      obtain ⟨w2, hw2⟩ : ∃ w2, w2 = (w.alloc (.cells #[.int .i64 x.id.n, .int .i64 x.id.c] 29)) := ⟨_, rfl⟩
      obtain ⟨p1, hp1⟩ : ∃ p1, p1 = w.heap.size := ⟨_, rfl⟩
      rw [← hw2] at HB k1
      rw [← hp1] at k1
      rw [← hw2]
      rw [← hp1]
      clear hw2 hp1
      have x10 : w2.cell? ⟨p1, 0, none⟩ = some (.int .i64 x.id.n) := k1.cell 0
      have x11 : w2.cell? ⟨p1, 1, none⟩ = some (.int .i64 x.id.c) := k1.cell 1
      clear k1
      go_wp2_with fail
      refine (HG.out _).mono ?_
      rintro e w3 ⟨he, hb3⟩
      rw [hi] at he
      subst he
      have HB3 := Lib.hid (HB.out.trans (hb3.mono HB.out.size))
      clear x10 x11 hb3
      go_wp2
      go_ret
      exact ⟨ret_int HR.out.symm, HB3.out⟩
    · have HR : Hid (soundE x = 5) := Lib.hid (by unfold soundE; rw [if_neg (by rw [hi]; simp), if_neg hks, if_pos (by simp [m1, m2])])
      have m1b : (x.mode == 1) = false := by simpa using m1
      have m1d : decide (x.mode = 1) = false := by simpa using m1
      have m1n : (x.mode != 1) = true := by unfold bne; rw [m1b]; rfl
      have m2b : (x.mode == 2) = false := by simpa using m2
      have m2d : decide (x.mode = 2) = false := by simpa using m2
      have m2n : (x.mode != 2) = true := by unfold bne; rw [m2b]; rfl
      clear m1 m2 hks
      unfold idV
      unfold idV at HG
      go_enter Tryz.func87, Tryz.ntmps87
      go_upto_region 1 with fail
      have k1 := Blk.new w 29 #[.int .i64 x.id.n, .int .i64 x.id.c]
      have HB := Lib.hid (below_alloc w (.cells #[.int .i64 x.id.n, .int .i64 x.id.c] 29))
      obtain ⟨w2, hw2⟩ : ∃ w2, w2 = (w.alloc (.cells #[.int .i64 x.id.n, .int .i64 x.id.c] 29)) := ⟨_, rfl⟩
      obtain ⟨p1, hp1⟩ : ∃ p1, p1 = w.heap.size := ⟨_, rfl⟩
      rw [← hw2] at HB k1
      rw [← hp1] at k1
      rw [← hw2]
      rw [← hp1]
      clear hw2 hp1
      have x10 : w2.cell? ⟨p1, 0, none⟩ = some (.int .i64 x.id.n) := k1.cell 0
      have x11 : w2.cell? ⟨p1, 1, none⟩ = some (.int .i64 x.id.c) := k1.cell 1
      clear k1
      go_wp2_with fail
      refine (HG.out _).mono ?_
      rintro e w3 ⟨he, hb3⟩
      rw [hi] at he
      subst he
      have HB3 := Lib.hid (HB.out.trans (hb3.mono HB.out.size))
      clear x10 x11 hb3
      go_wp2
      go_ret
      exact ⟨ret_int HR.out.symm, HB3.out⟩
end Go.Proofs.YtpidpdbjjdkhoaaGreat
