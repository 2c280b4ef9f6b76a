/- Locks: what stands against a lock; free. -/
import Derived.Test.YtpidpdbjjdkhoaaGreatLkN
namespace Go.Proofs.YtpidpdbjjdkhoaaGreat
open Go.RowKit
set_option linter.unusedSimpArgs false
set_option linter.unusedVariables false
attribute [local go_sem ↓] Go.wp_at_zero Go.wp_at_succ

theorem anyQ (g : Nat) (lb : Array Value) (eg : ∀ args w, (callFunc g args).run Tryz.prog w = .ok (.enter g args) w) (p : Lk → Bool) (A : Option Addr) (c B : Nat) (l : List Lk) (w : World) (hr : Reads w B 4 A l.length (rc lkR l)) (hB : B ≤ w.heap.size) (hl : l.length ≤ 1000)
    (h : ∀ x W, Below w.heap.size w W → Calls Tryz.prog g (#[lkV x] ++ lb) W (BoolIs (p x) W)) :
    Calls Tryz.prog 40 #[.slice A l.length c, .func (.func g) #[] lb] w (BoolIs (l.any p) w) :=
  (contfL g lb eg p (PureSt [] w) [] (pure_qL (fun x W hk => h x W hk.below0)) A c B l w hr hB (by simp) ⟨rfl, Kept.refl _ _⟩ (by omega)).mono fun e w' ⟨he, S', ⟨pre, hS, hk⟩, _⟩ => ⟨he, hk.below0⟩
theorem any1 (x : Lk) (g1 g2 : Nat) (A : Option Addr) (c B : Nat) (l : List Lk) (w : World) (hr : Reads w B 4 A l.length (rc lkR l)) (hB : B ≤ w.heap.size) (hl : l.length ≤ 1000)
    (h1 : Blk w g1 62 #[.string x.key, .int .i64 x.id.n, .int .i64 x.id.c, .int .i64 x.mode]) (h2 : Blk w g2 71 #[(.func (.func 39) #[] #[])]) :
    Calls Tryz.prog 40 #[.slice A l.length c, .func (.func 82) #[] #[.pointer (some ⟨g1, 0, none⟩), .pointer (some ⟨g2, 0, none⟩)]] w (BoolIs (l.any fun y => conf y x) w) :=
  anyQ 82 #[.pointer (some ⟨g1, 0, none⟩), .pointer (some ⟨g2, 0, none⟩)] (enters_of Tryz.func82 (by kernel_rfl) rfl) (fun y => conf y x) A c B l w hr hB hl
    (fun y W hb => against1 y x g1 g2 W (h1.below hb h1.lt) (h2.below hb h2.lt))
theorem any2 (x y : Lk) (g1 g2 g3 : Nat) (A : Option Addr) (c B : Nat) (l : List Lk) (w : World) (hr : Reads w B 4 A l.length (rc lkR l)) (hB : B ≤ w.heap.size) (hl : l.length ≤ 1000)
    (h1 : Blk w g1 62 #[.string x.key, .int .i64 x.id.n, .int .i64 x.id.c, .int .i64 x.mode]) (h2 : Blk w g2 71 #[(.func (.func 85) #[] #[.pointer (some ⟨g3, 0, none⟩)])]) (h3 : Blk w g3 62 #[.string y.key, .int .i64 y.id.n, .int .i64 y.id.c, .int .i64 y.mode]) :
    Calls Tryz.prog 40 #[.slice A l.length c, .func (.func 82) #[] #[.pointer (some ⟨g1, 0, none⟩), .pointer (some ⟨g2, 0, none⟩)]] w (BoolIs (l.any fun z => conf z x && ol z.id y.id) w) :=
  anyQ 82 #[.pointer (some ⟨g1, 0, none⟩), .pointer (some ⟨g2, 0, none⟩)] (enters_of Tryz.func82 (by kernel_rfl) rfl) (fun z => conf z x && ol z.id y.id) A c B l w hr hB hl
    (fun z W hb => against2 z x y g1 g2 g3 W (h1.below hb h1.lt) (h2.below hb h2.lt) (h3.below hb h3.lt))
theorem free_yes {t : Tb} {x : Lk} (h1 : (t.held.any fun l => conf l x) = false) (h2 : (t.wait.any fun l => conf l x && ol l.id x.id) = false) : freeB t x = true := by unfold freeB; rw [h1, h2]; rfl
theorem free_no1 {t : Tb} {x : Lk} (h1 : (t.held.any fun l => conf l x) = true) : freeB t x = false := by unfold freeB; rw [h1]; rfl
theorem free_no2 {t : Tb} {x : Lk} (h1 : (t.held.any fun l => conf l x) = false) (h2 : (t.wait.any fun l => conf l x && ol l.id x.id) = true) : freeB t x = false := by unfold freeB; rw [h1, h2]; rfl
set_option maxHeartbeats 4000000 in
set_option maxRecDepth 100000 in
theorem free_any {w : World} {d : Nat} {q : Tb} {m : TbM} (h : TbAt w d q m) (x : Lk) : Calls Tryz.prog 44 #[.pointer (some ⟨d, 0, none⟩), lkV x] w (BoolIs (freeB q x) w) := by
  have HH := Lib.hid h
  have HA1 := Lib.hid (fun f lb w' => ag_any x f lb w')
  have HY1 := Lib.hid (fun g1 g2 W (hb : Below w.heap.size w W) h1 h2 => any1 x g1 g2 m.ah m.ch W.heap.size q.held W (Reads.of_own (h.below hb).oh) (Nat.le_refl _) (by have := h.fh; omega) h1 h2)
  have HY2 := Lib.hid (fun g1 g2 g3 W (hb : Below w.heap.size w W) h1 h2 h3 => any2 x x g1 g2 g3 m.aw m.cw W.heap.size q.wait W (Reads.of_own (h.below hb).ow) (Nat.le_refl _) (by have := h.fh; omega) h1 h2 h3)
  unfold lkV AgEnds at HA1
  clear h
  cases c1 : (q.held.any fun l => conf l x) with
  | true =>
    have HR := Lib.hid (free_no1 (t := q) c1)
    rw [c1] at HY1
    clear c1
    unfold lkV
    go_enter Tryz.func44, Tryz.ntmps44
    go_upto_region 2 with fail
    have k1 := Blk.new w 62 #[.string x.key, .int .i64 x.id.n, .int .i64 x.id.c, .int .i64 x.mode]
    have HB := Lib.hid (below_alloc w (.cells #[.string x.key, .int .i64 x.id.n, .int .i64 x.id.c, .int .i64 x.mode] 62))
    obtain ⟨w2, hw2⟩ : ∃ w2, w2 = (w.alloc (.cells #[.string x.key, .int .i64 x.id.n, .int .i64 x.id.c, .int .i64 x.mode] 62)) := ⟨_, rfl⟩
    obtain ⟨p1, hp1⟩ : ∃ p1, p1 = w.heap.size := ⟨_, rfl⟩
    rw [← hw2] at HB k1
    rw [← hp1] at k1
    rw [← hw2]
    rw [← hp1]
    clear hw2 hp1
    have HT2 := Lib.hid (HH.out.below HB.out)
    have HK1 := Lib.hid k1
    have hS : Hid (∀ w', Below w2.heap.size w2 w' → (w'.cell? ⟨p1, 0, none⟩ = some (.string x.key) ∧ w'.cell? ⟨p1, 1, none⟩ = some (.int .i64 x.id.n) ∧ w'.cell? ⟨p1, 2, none⟩ = some (.int .i64 x.id.c) ∧ w'.cell? ⟨p1, 3, none⟩ = some (.int .i64 x.mode) ∧ w'.cell? ⟨d, 1, none⟩ = some (.slice m.ah q.held.length m.ch) ∧ w'.cell? ⟨d, 2, none⟩ = some (.slice m.aw q.wait.length m.cw))) := Lib.hid (fun w' hb => ⟨(k1.below hb k1.lt).cell 0, (k1.below hb k1.lt).cell 1, (k1.below hb k1.lt).cell 2, (k1.below hb k1.lt).cell 3, (HT2.out.below hb).c1, (HT2.out.below hb).c2⟩)
    have hD : Below w2.heap.size w2 w2.drew := below_drewN (Below.refl _ _) 1
    clear k1
    refine wp_region_heldH (by kernel_rfl) hS (hD) (fun hHeld => ?_)
    refine takes [0, 1, 2, 3, 4] 15 (by kernel_rfl) (by assumption) ?_
    iterate 5 (refine tkY rfl (fun _ _ _ h => h) rfl (by ((intro w hSw); (try dsimp only at hSw); go_simp; (try with_reducible rfl))) ?_; try simp only [Act.put, List.setIfInBounds_toArray, List.set_cons_zero, List.set_cons_succ])
    refine tkE ?_
    refine wpAnyH_ready (rs := [5]) (by kernel_rfl) (by simp) ?_
    refine readyC rfl (fun K hK => ?_) ?_
    ·
      go_simp
      go_at_call 38
      refine (HA1.out _ _ _).mono ?_
      rintro e w3 ⟨g3, u3, rfl, ka3, kb3, hb3⟩
      have hc3 : Below w2.heap.size w2 w3 := hD.trans (hb3.mono hD.size)
      clear hb3
      go_wp2_with fail
      refine hK.out _ _ (by with_reducible exact hS.out _ hc3) (fun hHeld => ?_)
      clear hK K
      try simp only [Act.put, List.setIfInBounds_toArray, List.set_cons_zero, List.set_cons_succ]
      refine wpAnyH_ready (rs := [6]) (by kernel_rfl) (by simp) ?_
      refine readyC rfl (fun K hK => ?_) ?_
      ·
        go_simp
        go_at_call 40
        refine (HY1.out _ _ _ (HB.out.trans (hc3.mono HB.out.size)) ka3 kb3).mono ?_
        rintro e w4 ⟨rfl, hb4⟩
        have hc4 : Below w2.heap.size w2 w4 := hc3.trans (hb4.mono hc3.size)
        clear hb4 ka3 kb3
        go_wp2_with fail
        refine hK.out _ _ (by with_reducible exact hS.out _ hc4) (fun hHeld => ?_)
        clear hK K
        try simp only [Act.put, List.setIfInBounds_toArray, List.set_cons_zero, List.set_cons_succ]
        refine takes [7, 8, 9, 10, 11, 12, 13, 14, 15, 16, 17, 18, 19] 0 (by kernel_rfl) (by assumption) ?_
        iterate 2 (refine tkY rfl (fun _ _ _ h => h) rfl (by ((intro w hSw); (try dsimp only at hSw); go_simp; (try with_reducible rfl))) ?_; try simp only [Act.put, List.setIfInBounds_toArray, List.set_cons_zero, List.set_cons_succ])
        iterate 9 (refine tkN rfl (fun _ _ _ h => h) rfl ?_; try simp only [Act.put, List.setIfInBounds_toArray, List.set_cons_zero, List.set_cons_succ])
        iterate 2 (refine tkY rfl (fun _ _ _ h => h) rfl (by ((intro w hSw); (try dsimp only at hSw); go_simp; (try with_reducible rfl))) ?_; try simp only [Act.put, List.setIfInBounds_toArray, List.set_cons_zero, List.set_cons_succ])
        refine tkE ?_
        refine wpAnyH_done (by kernel_rfl) ?_ _
        have HBL := Lib.hid (HB.out.trans (hc4.mono HB.out.size))
        go_wp2
        go_ret
        exact ⟨ret_bool HR.out.symm, HBL.out⟩
      exact AllReadyH.nil
    exact AllReadyH.nil
  | false =>
    cases c2 : (q.wait.any fun l => conf l x && ol l.id x.id) with
    | true =>
      have HR := Lib.hid (free_no2 (t := q) c1 c2)
      rw [c1] at HY1
      rw [c2] at HY2
      clear c1 c2
      unfold lkV
      go_enter Tryz.func44, Tryz.ntmps44
      go_upto_region 2 with fail
      have k1 := Blk.new w 62 #[.string x.key, .int .i64 x.id.n, .int .i64 x.id.c, .int .i64 x.mode]
      have HB := Lib.hid (below_alloc w (.cells #[.string x.key, .int .i64 x.id.n, .int .i64 x.id.c, .int .i64 x.mode] 62))
      obtain ⟨w2, hw2⟩ : ∃ w2, w2 = (w.alloc (.cells #[.string x.key, .int .i64 x.id.n, .int .i64 x.id.c, .int .i64 x.mode] 62)) := ⟨_, rfl⟩
      obtain ⟨p1, hp1⟩ : ∃ p1, p1 = w.heap.size := ⟨_, rfl⟩
      rw [← hw2] at HB k1
      rw [← hp1] at k1
      rw [← hw2]
      rw [← hp1]
      clear hw2 hp1
      have HT2 := Lib.hid (HH.out.below HB.out)
      have HK1 := Lib.hid k1
      have hS : Hid (∀ w', Below w2.heap.size w2 w' → (w'.cell? ⟨p1, 0, none⟩ = some (.string x.key) ∧ w'.cell? ⟨p1, 1, none⟩ = some (.int .i64 x.id.n) ∧ w'.cell? ⟨p1, 2, none⟩ = some (.int .i64 x.id.c) ∧ w'.cell? ⟨p1, 3, none⟩ = some (.int .i64 x.mode) ∧ w'.cell? ⟨d, 1, none⟩ = some (.slice m.ah q.held.length m.ch) ∧ w'.cell? ⟨d, 2, none⟩ = some (.slice m.aw q.wait.length m.cw))) := Lib.hid (fun w' hb => ⟨(k1.below hb k1.lt).cell 0, (k1.below hb k1.lt).cell 1, (k1.below hb k1.lt).cell 2, (k1.below hb k1.lt).cell 3, (HT2.out.below hb).c1, (HT2.out.below hb).c2⟩)
      have hD : Below w2.heap.size w2 w2.drew := below_drewN (Below.refl _ _) 1
      clear k1
      refine wp_region_heldH (by kernel_rfl) hS (hD) (fun hHeld => ?_)
      refine takes [0, 1, 2, 3, 4] 15 (by kernel_rfl) (by assumption) ?_
      iterate 5 (refine tkY rfl (fun _ _ _ h => h) rfl (by ((intro w hSw); (try dsimp only at hSw); go_simp; (try with_reducible rfl))) ?_; try simp only [Act.put, List.setIfInBounds_toArray, List.set_cons_zero, List.set_cons_succ])
      refine tkE ?_
      refine wpAnyH_ready (rs := [5]) (by kernel_rfl) (by simp) ?_
      refine readyC rfl (fun K hK => ?_) ?_
      ·
        go_simp
        go_at_call 38
        refine (HA1.out _ _ _).mono ?_
        rintro e w3 ⟨g3, u3, rfl, ka3, kb3, hb3⟩
        have hc3 : Below w2.heap.size w2 w3 := hD.trans (hb3.mono hD.size)
        clear hb3
        go_wp2_with fail
        refine hK.out _ _ (by with_reducible exact hS.out _ hc3) (fun hHeld => ?_)
        clear hK K
        try simp only [Act.put, List.setIfInBounds_toArray, List.set_cons_zero, List.set_cons_succ]
        refine wpAnyH_ready (rs := [6]) (by kernel_rfl) (by simp) ?_
        refine readyC rfl (fun K hK => ?_) ?_
        ·
          go_simp
          go_at_call 40
          refine (HY1.out _ _ _ (HB.out.trans (hc3.mono HB.out.size)) ka3 kb3).mono ?_
          rintro e w4 ⟨rfl, hb4⟩
          have hc4 : Below w2.heap.size w2 w4 := hc3.trans (hb4.mono hc3.size)
          clear hb4 ka3 kb3
          go_wp2_with fail
          refine hK.out _ _ (by with_reducible exact hS.out _ hc4) (fun hHeld => ?_)
          clear hK K
          try simp only [Act.put, List.setIfInBounds_toArray, List.set_cons_zero, List.set_cons_succ]
          refine takes [7, 8, 9, 10, 11, 12, 13, 14] 5 (by kernel_rfl) (by assumption) ?_
          iterate 8 (refine tkY rfl (fun _ _ _ h => h) rfl (by ((intro w hSw); (try dsimp only at hSw); go_simp; (try with_reducible rfl))) ?_; try simp only [Act.put, List.setIfInBounds_toArray, List.set_cons_zero, List.set_cons_succ])
          refine tkE ?_
          refine wpAnyH_ready (rs := [15]) (by kernel_rfl) (by simp) ?_
          refine readyC rfl (fun K hK => ?_) ?_
          ·
            go_simp
            go_at_call 38
            refine (HA1.out _ _ _).mono ?_
            rintro e w5 ⟨g5, u5, rfl, ka5, kb5, hb5⟩
            have hc5 : Below w2.heap.size w2 w5 := hc4.trans (hb5.mono hc4.size)
            clear hb5
            go_wp2_with fail
            refine hK.out _ _ (by with_reducible exact hS.out _ hc5) (fun hHeld => ?_)
            clear hK K
            try simp only [Act.put, List.setIfInBounds_toArray, List.set_cons_zero, List.set_cons_succ]
            refine wpAnyH_ready (rs := [16]) (by kernel_rfl) (by simp) ?_
            refine readyC rfl (fun K hK => ?_) ?_
            ·
              go_simp
              go_at_call 40
              refine (HY2.out _ _ _ _ (HB.out.trans (hc5.mono HB.out.size)) ka5 kb5 (HK1.out.below hc5 HK1.out.lt)).mono ?_
              rintro e w6 ⟨rfl, hb6⟩
              have hc6 : Below w2.heap.size w2 w6 := hc5.trans (hb6.mono hc5.size)
              clear hb6 ka5 kb5
              go_wp2_with fail
              refine hK.out _ _ (by with_reducible exact hS.out _ hc6) (fun hHeld => ?_)
              clear hK K
              try simp only [Act.put, List.setIfInBounds_toArray, List.set_cons_zero, List.set_cons_succ]
              refine takes [17, 18, 19] 0 (by kernel_rfl) (by assumption) ?_
              iterate 3 (refine tkY rfl (fun _ _ _ h => h) rfl (by ((intro w hSw); (try dsimp only at hSw); go_simp; (try with_reducible rfl))) ?_; try simp only [Act.put, List.setIfInBounds_toArray, List.set_cons_zero, List.set_cons_succ])
              refine tkE ?_
              refine wpAnyH_done (by kernel_rfl) ?_ _
              have HBL := Lib.hid (HB.out.trans (hc6.mono HB.out.size))
              go_wp2
              go_ret
              exact ⟨ret_bool HR.out.symm, HBL.out⟩
            exact AllReadyH.nil
          exact AllReadyH.nil
        exact AllReadyH.nil
      exact AllReadyH.nil
    | false =>
      have HR := Lib.hid (free_yes (t := q) c1 c2)
      rw [c1] at HY1
      rw [c2] at HY2
      clear c1 c2
      unfold lkV
      go_enter Tryz.func44, Tryz.ntmps44
      go_upto_region 2 with fail
      have k1 := Blk.new w 62 #[.string x.key, .int .i64 x.id.n, .int .i64 x.id.c, .int .i64 x.mode]
      have HB := Lib.hid (below_alloc w (.cells #[.string x.key, .int .i64 x.id.n, .int .i64 x.id.c, .int .i64 x.mode] 62))
      obtain ⟨w2, hw2⟩ : ∃ w2, w2 = (w.alloc (.cells #[.string x.key, .int .i64 x.id.n, .int .i64 x.id.c, .int .i64 x.mode] 62)) := ⟨_, rfl⟩
      obtain ⟨p1, hp1⟩ : ∃ p1, p1 = w.heap.size := ⟨_, rfl⟩
      rw [← hw2] at HB k1
      rw [← hp1] at k1
      rw [← hw2]
      rw [← hp1]
      clear hw2 hp1
      have HT2 := Lib.hid (HH.out.below HB.out)
      have HK1 := Lib.hid k1
      have hS : Hid (∀ w', Below w2.heap.size w2 w' → (w'.cell? ⟨p1, 0, none⟩ = some (.string x.key) ∧ w'.cell? ⟨p1, 1, none⟩ = some (.int .i64 x.id.n) ∧ w'.cell? ⟨p1, 2, none⟩ = some (.int .i64 x.id.c) ∧ w'.cell? ⟨p1, 3, none⟩ = some (.int .i64 x.mode) ∧ w'.cell? ⟨d, 1, none⟩ = some (.slice m.ah q.held.length m.ch) ∧ w'.cell? ⟨d, 2, none⟩ = some (.slice m.aw q.wait.length m.cw))) := Lib.hid (fun w' hb => ⟨(k1.below hb k1.lt).cell 0, (k1.below hb k1.lt).cell 1, (k1.below hb k1.lt).cell 2, (k1.below hb k1.lt).cell 3, (HT2.out.below hb).c1, (HT2.out.below hb).c2⟩)
      have hD : Below w2.heap.size w2 w2.drew := below_drewN (Below.refl _ _) 1
      clear k1
      refine wp_region_heldH (by kernel_rfl) hS (hD) (fun hHeld => ?_)
      refine takes [0, 1, 2, 3, 4] 15 (by kernel_rfl) (by assumption) ?_
      iterate 5 (refine tkY rfl (fun _ _ _ h => h) rfl (by ((intro w hSw); (try dsimp only at hSw); go_simp; (try with_reducible rfl))) ?_; try simp only [Act.put, List.setIfInBounds_toArray, List.set_cons_zero, List.set_cons_succ])
      refine tkE ?_
      refine wpAnyH_ready (rs := [5]) (by kernel_rfl) (by simp) ?_
      refine readyC rfl (fun K hK => ?_) ?_
      ·
        go_simp
        go_at_call 38
        refine (HA1.out _ _ _).mono ?_
        rintro e w3 ⟨g3, u3, rfl, ka3, kb3, hb3⟩
        have hc3 : Below w2.heap.size w2 w3 := hD.trans (hb3.mono hD.size)
        clear hb3
        go_wp2_with fail
        refine hK.out _ _ (by with_reducible exact hS.out _ hc3) (fun hHeld => ?_)
        clear hK K
        try simp only [Act.put, List.setIfInBounds_toArray, List.set_cons_zero, List.set_cons_succ]
        refine wpAnyH_ready (rs := [6]) (by kernel_rfl) (by simp) ?_
        refine readyC rfl (fun K hK => ?_) ?_
        ·
          go_simp
          go_at_call 40
          refine (HY1.out _ _ _ (HB.out.trans (hc3.mono HB.out.size)) ka3 kb3).mono ?_
          rintro e w4 ⟨rfl, hb4⟩
          have hc4 : Below w2.heap.size w2 w4 := hc3.trans (hb4.mono hc3.size)
          clear hb4 ka3 kb3
          go_wp2_with fail
          refine hK.out _ _ (by with_reducible exact hS.out _ hc4) (fun hHeld => ?_)
          clear hK K
          try simp only [Act.put, List.setIfInBounds_toArray, List.set_cons_zero, List.set_cons_succ]
          refine takes [7, 8, 9, 10, 11, 12, 13, 14] 5 (by kernel_rfl) (by assumption) ?_
          iterate 8 (refine tkY rfl (fun _ _ _ h => h) rfl (by ((intro w hSw); (try dsimp only at hSw); go_simp; (try with_reducible rfl))) ?_; try simp only [Act.put, List.setIfInBounds_toArray, List.set_cons_zero, List.set_cons_succ])
          refine tkE ?_
          refine wpAnyH_ready (rs := [15]) (by kernel_rfl) (by simp) ?_
          refine readyC rfl (fun K hK => ?_) ?_
          ·
            go_simp
            go_at_call 38
            refine (HA1.out _ _ _).mono ?_
            rintro e w5 ⟨g5, u5, rfl, ka5, kb5, hb5⟩
            have hc5 : Below w2.heap.size w2 w5 := hc4.trans (hb5.mono hc4.size)
            clear hb5
            go_wp2_with fail
            refine hK.out _ _ (by with_reducible exact hS.out _ hc5) (fun hHeld => ?_)
            clear hK K
            try simp only [Act.put, List.setIfInBounds_toArray, List.set_cons_zero, List.set_cons_succ]
            refine wpAnyH_ready (rs := [16]) (by kernel_rfl) (by simp) ?_
            refine readyC rfl (fun K hK => ?_) ?_
            ·
              go_simp
              go_at_call 40
              refine (HY2.out _ _ _ _ (HB.out.trans (hc5.mono HB.out.size)) ka5 kb5 (HK1.out.below hc5 HK1.out.lt)).mono ?_
              rintro e w6 ⟨rfl, hb6⟩
              have hc6 : Below w2.heap.size w2 w6 := hc5.trans (hb6.mono hc5.size)
              clear hb6 ka5 kb5
              go_wp2_with fail
              refine hK.out _ _ (by with_reducible exact hS.out _ hc6) (fun hHeld => ?_)
              clear hK K
              try simp only [Act.put, List.setIfInBounds_toArray, List.set_cons_zero, List.set_cons_succ]
              refine takes [17, 18, 19] 0 (by kernel_rfl) (by assumption) ?_
              iterate 3 (refine tkY rfl (fun _ _ _ h => h) rfl (by ((intro w hSw); (try dsimp only at hSw); go_simp; (try with_reducible rfl))) ?_; try simp only [Act.put, List.setIfInBounds_toArray, List.set_cons_zero, List.set_cons_succ])
              refine tkE ?_
              refine wpAnyH_done (by kernel_rfl) ?_ _
              have HBL := Lib.hid (HB.out.trans (hc6.mono HB.out.size))
              go_wp2
              go_ret
              exact ⟨ret_bool HR.out.symm, HBL.out⟩
            exact AllReadyH.nil
          exact AllReadyH.nil
        exact AllReadyH.nil
      exact AllReadyH.nil
end Go.Proofs.YtpidpdbjjdkhoaaGreat
