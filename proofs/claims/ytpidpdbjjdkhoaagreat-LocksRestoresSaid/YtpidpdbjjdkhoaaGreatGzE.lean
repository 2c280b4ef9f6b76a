/- Locks, the reference: refused. -/
import Derived.Test.YtpidpdbjjdkhoaaGreatGzD
namespace Go.Proofs.YtpidpdbjjdkhoaaGreat
open Go.RowKit
set_option linter.unusedSimpArgs false
set_option linter.unusedVariables false
attribute [local go_sem ↓] Go.wp_at_zero Go.wp_at_succ

def RfuEnds (q : Tb) (x : Lk) (w : World) (e : Ending) (w' : World) : Prop := e = .returned (.tuple #[.int .i64 ((refuse q x).getD 0), .bool (refuse q x).isSome]) ∧ Below w.heap.size w w'
theorem any_confR {l : List Lk} {x : Lk} (hl : ∀ y ∈ l, soundE y = 0) (hx : soundE x = 0) : (l.any fun y => confR y x) = l.any fun y => conf y x := by
  induction l with
  | nil => rfl
  | cons y l ih =>
    rw [List.any_cons, List.any_cons, ih (fun z hz => hl z (List.mem_cons_of_mem _ hz)), confR_eq (sound_mode (hl y (List.mem_cons_self ..))) (sound_mode hx)]
theorem fullR_yes {q : Tb} {x : Lk} (hg : Good q) (hx : soundE x = 0) (h : q.most ≤ (q.held.length : Int) + (q.wait.length : Int)) (h2 : ¬ modeI q x.id x.key = 0) : fullB q x = ((q.held.any fun y => confR y x) || q.wait.any fun y => confR y x) := by
  unfold fullB
  rw [decide_eq_true h, decide_eq_false h2, any_confR hg.hs hx, any_confR hg.ws hx]
  simp
theorem mode_nat {q : Tb} (hg : Good q) (id : Idn) (key : ByteArray) : 0 ≤ modeI q id key := by
  by_cases h : modeI q id key = 0
  · omega
  · obtain ⟨y, hy, _, _, hm⟩ := mode_some h
    have := sound_mode (hg.hs y hy)
    omega
set_option maxHeartbeats 8000000 in
set_option maxRecDepth 100000 in
theorem rrefused_any {w : World} {g : Nat} {q : Tb} {m : TbM} (h : RfAt w g q m) (hgd : Good q) (x : Lk) : Calls Tryz.prog 46 #[.pointer (some ⟨g, 0, none⟩), lkV x] w (RfuEnds q x w) := by
  have HH := Lib.hid h
  have HGD := Lib.hid hgd
  have HAN := Lib.hid (fun w' (h' : RfAt w' g q m) => rany_any h' x)
  unfold lkV at HAN
  clear h hgd
  unfold lkV
  go_enter Tryz.func46, Tryz.ntmps46
  go_upto_region 1 with fail
  have k1 := Blk.new w 62 #[.string x.key, .int .i64 x.id.n, .int .i64 x.id.c, .int .i64 x.mode]
  have HB := Lib.hid (below_alloc w (.cells #[.string x.key, .int .i64 x.id.n, .int .i64 x.id.c, .int .i64 x.mode] 62))
  obtain ⟨w2, hw2⟩ : ∃ w2, w2 = (w.alloc (.cells #[.string x.key, .int .i64 x.id.n, .int .i64 x.id.c, .int .i64 x.mode] 62)) := ⟨_, rfl⟩
  obtain ⟨p1, hp1⟩ : ∃ p1, p1 = w.heap.size := ⟨_, rfl⟩
  rw [← hw2] at HB k1
  rw [← hp1] at k1
  rw [← hw2]
  rw [← hp1]
  clear hw2 hp1
  have HT2 := Lib.hid (HH.out.below HB.out)
  have HK2 := Lib.hid k1
  have HB2 : Hid (Below w.heap.size w w2) := HB
  clear k1 HB HH
  have x10 : w2.cell? ⟨p1, 0, none⟩ = some (.string x.key) := HK2.out.cell 0
  have x11 : w2.cell? ⟨p1, 1, none⟩ = some (.int .i64 x.id.n) := HK2.out.cell 1
  have x12 : w2.cell? ⟨p1, 2, none⟩ = some (.int .i64 x.id.c) := HK2.out.cell 2
  have x13 : w2.cell? ⟨p1, 3, none⟩ = some (.int .i64 x.mode) := HK2.out.cell 3
  have HLK := Lib.hid (rlock_any x w2)
  unfold idV at HLK
  go_wp2_with fail
  refine HLK.out.mono ?_
  clear HLK
  rintro e w3 ⟨he, hb_⟩
  have HT3 := Lib.hid (HT2.out.below hb_)
  have HK3 := Lib.hid (HK2.out.below hb_ HK2.out.lt)
  have HB3 : Hid (Below w.heap.size w w3) := Lib.hid (HB2.out.trans (hb_.mono HB2.out.size))
  clear HT2 HK2 HB2
  clear x10 x11 x12 x13
  clear hb_
  by_cases hs : soundE x = 0
  · rw [hs] at he
    subst he
    have HS0 := Lib.hid hs
    clear hs
    go_upto_region 4 with fail
    have hS : Hid (∀ w', Below w3.heap.size w3 w' → (w'.cell? ⟨g, 4, none⟩ = some (.slice m.au q.hurt.length m.cu) ∧ w'.cell? ⟨p1, 0, none⟩ = some (.string x.key) ∧ w'.cell? ⟨p1, 1, none⟩ = some (.int .i64 x.id.n) ∧ w'.cell? ⟨p1, 2, none⟩ = some (.int .i64 x.id.c) ∧ w'.cell? ⟨p1, 3, none⟩ = some (.int .i64 x.mode))) := Lib.hid (fun w' hb => ⟨(HT3.out.below hb).c4, (HK3.out.below hb HK3.out.lt).cell 0, (HK3.out.below hb HK3.out.lt).cell 1, (HK3.out.below hb HK3.out.lt).cell 2, (HK3.out.below hb HK3.out.lt).cell 3⟩)
    have HBD : Hid (Below w3.heap.size w3 w3.drew) := Lib.hid (below_drewN (Below.refl _ _) 1)
    have hfm := HT3.out.fm
    cases hh4 : hasI q.hurt x.id with
    | true =>
      go_wp2_with fail
      refine wp_region_heldH (by kernel_rfl) hS (HBD.out) (fun hHeld => ?_)
      refine takes [0, 1, 2, 3, 4, 5] 1 (by kernel_rfl) (by assumption) ?_
      iterate 6 (refine tkY rfl (fun _ _ _ h => h) rfl (by ((intro w hSw); (try dsimp only at hSw); go_simp; (try with_reducible rfl))) ?_; try simp only [Act.put, List.setIfInBounds_toArray, List.set_cons_zero, List.set_cons_succ])
      refine tkE ?_
      refine wpAnyH_ready (rs := [6]) (by kernel_rfl) (by simp) ?_
      refine readyC rfl (fun K hK => ?_) ?_
      ·
        go_simp
        go_at_call 49
        refine (has_any m.au m.cu q.hurt x.id w3.drew (Reads.of_own (HT3.out.below HBD.out).ou) (by omega)).mono ?_
        rintro e w4 ⟨he_, hb_⟩
        rw [hh4] at he_
        subst he_
        have HD3 : Hid (Below w3.heap.size w3 w4) := Lib.hid (HBD.out.trans (hb_.mono HBD.out.size))
        clear hb_
        go_wp2_with fail
        refine hK.out _ _ (by with_reducible exact hS.out _ HD3.out) (fun hHeld => ?_)
        clear hK K
        try simp only [Act.put, List.setIfInBounds_toArray, List.set_cons_zero, List.set_cons_succ]
        refine wpAnyH_done (by kernel_rfl) ?_ _
        have hd3 := HD3.out
        have HT4 := Lib.hid (HT3.out.below hd3)
        have HK4 := Lib.hid (HK3.out.below hd3 HK3.out.lt)
        have HB4 : Hid (Below w.heap.size w w4) := Lib.hid (HB3.out.trans (hd3.mono HB3.out.size))
        clear HT3 HK3 HB3
        clear hd3 HD3 HBD hS
        go_wp2
        go_ret2
        unfold RfuEnds
        rw [show refuse q x = _ from ref_2 HS0.out hh4]
        exact ⟨rfl, HB4.out⟩
      exact AllReadyH.nil
    | false =>
      go_wp2_with fail
      refine wp_region_heldH (by kernel_rfl) hS (HBD.out) (fun hHeld => ?_)
      refine takes [0, 1, 2, 3, 4, 5] 1 (by kernel_rfl) (by assumption) ?_
      iterate 6 (refine tkY rfl (fun _ _ _ h => h) rfl (by ((intro w hSw); (try dsimp only at hSw); go_simp; (try with_reducible rfl))) ?_; try simp only [Act.put, List.setIfInBounds_toArray, List.set_cons_zero, List.set_cons_succ])
      refine tkE ?_
      refine wpAnyH_ready (rs := [6]) (by kernel_rfl) (by simp) ?_
      refine readyC rfl (fun K hK => ?_) ?_
      ·
        go_simp
        go_at_call 49
        refine (has_any m.au m.cu q.hurt x.id w3.drew (Reads.of_own (HT3.out.below HBD.out).ou) (by omega)).mono ?_
        rintro e w4 ⟨he_, hb_⟩
        rw [hh4] at he_
        subst he_
        have HD3 : Hid (Below w3.heap.size w3 w4) := Lib.hid (HBD.out.trans (hb_.mono HBD.out.size))
        clear hb_
        go_wp2_with fail
        refine hK.out _ _ (by with_reducible exact hS.out _ HD3.out) (fun hHeld => ?_)
        clear hK K
        try simp only [Act.put, List.setIfInBounds_toArray, List.set_cons_zero, List.set_cons_succ]
        refine wpAnyH_done (by kernel_rfl) ?_ _
        have hd3 := HD3.out
        have HT4 := Lib.hid (HT3.out.below hd3)
        have HK4 := Lib.hid (HK3.out.below hd3 HK3.out.lt)
        have HB4 : Hid (Below w.heap.size w w4) := Lib.hid (HB3.out.trans (hd3.mono HB3.out.size))
        clear HT3 HK3 HB3
        clear hd3 HD3 HBD hS
        have HH4 := Lib.hid hh4
        have HRF3 := Lib.hid (fun h => ref_3 (t := q) (x := x) HS0.out HH4.out h)
        clear hh4
        go_upto_region 6 with fail
        have x10 : w4.cell? ⟨p1, 0, none⟩ = some (.string x.key) := HK4.out.cell 0
        have x11 : w4.cell? ⟨p1, 1, none⟩ = some (.int .i64 x.id.n) := HK4.out.cell 1
        have x12 : w4.cell? ⟨p1, 2, none⟩ = some (.int .i64 x.id.c) := HK4.out.cell 2
        have x13 : w4.cell? ⟨p1, 3, none⟩ = some (.int .i64 x.mode) := HK4.out.cell 3
        have HMO := Lib.hid (rmode_any HT4.out x.id x.key)
        unfold idV at HMO
        obtain ⟨M, hM⟩ : ∃ M, M = modeI q x.id x.key := ⟨_, rfl⟩
        rw [← hM] at HMO
        have HMD := Lib.hid hM
        clear hM
        go_wp2_with fail
        refine HMO.out.mono ?_
        clear HMO
        rintro e w5 ⟨rfl, hb_⟩
        have HT5 := Lib.hid (HT4.out.below hb_)
        have HK5 := Lib.hid (HK4.out.below hb_ HK4.out.lt)
        have HB5 : Hid (Below w.heap.size w w5) := Lib.hid (HB4.out.trans (hb_.mono HB4.out.size))
        clear HT4 HK4 HB4
        clear x10 x11 x12 x13
        clear hb_
        have x10 : w5.cell? ⟨p1, 0, none⟩ = some (.string x.key) := HK5.out.cell 0
        have x11 : w5.cell? ⟨p1, 1, none⟩ = some (.int .i64 x.id.n) := HK5.out.cell 1
        have x12 : w5.cell? ⟨p1, 2, none⟩ = some (.int .i64 x.id.c) := HK5.out.cell 2
        have x13 : w5.cell? ⟨p1, 3, none⟩ = some (.int .i64 x.mode) := HK5.out.cell 3
        by_cases hle : x.mode ≤ M
        · have HR := Lib.hid (HRF3.out (by rw [← HMD.out]; exact hle))
          go_wp2
          go_ret2
          unfold RfuEnds
          rw [show refuse q x = _ from HR.out]
          exact ⟨rfl, HB5.out⟩
        · have HLE : Hid (¬ x.mode ≤ modeI q x.id x.key) := Lib.hid (by rw [← HMD.out]; exact hle)
          have HRF4 := Lib.hid (fun (y : Lk) h4 h5 h6 => ref_4 (t := q) (x := x) HS0.out HH4.out HLE.out (y := y) h4 h5 h6)
          have HRF5 := Lib.hid (fun (y : Lk) h4 h5 => ref_5 (t := q) (x := x) HS0.out HH4.out HLE.out (y := y) h4 h5)
          have HRFN := Lib.hid (And.intro (fun h4 h5 => ref_6 (t := q) (x := x) HS0.out HH4.out HLE.out h4 h5) (And.intro (fun h4 h5 h6 => ref_7 (t := q) (x := x) HS0.out HH4.out HLE.out h4 h5 h6) (fun h4 h5 h6 => ref_8 (t := q) (x := x) HS0.out HH4.out HLE.out h4 h5 h6)))
          clear HRF3
          go_upto_region 9 with fail
          clear x10 x11 x12 x13
          clear hle
          have x10 : w5.cell? ⟨p1, 0, none⟩ = some (.string x.key) := HK5.out.cell 0
          have x11 : w5.cell? ⟨p1, 1, none⟩ = some (.int .i64 x.id.n) := HK5.out.cell 1
          have x12 : w5.cell? ⟨p1, 2, none⟩ = some (.int .i64 x.id.c) := HK5.out.cell 2
          have x13 : w5.cell? ⟨p1, 3, none⟩ = some (.int .i64 x.mode) := HK5.out.cell 3
          have HWT := Lib.hid (rwaits_any HT5.out x.id)
          unfold WantEnds idV at HWT
          go_wp2_with fail
          refine HWT.out.mono ?_
          clear HWT
          rintro e w6 ⟨he, hb_⟩
          have HT6 := Lib.hid (HT5.out.below hb_)
          have HK6 := Lib.hid (HK5.out.below hb_ HK5.out.lt)
          have HB6 : Hid (Below w.heap.size w w6) := Lib.hid (HB5.out.trans (hb_.mono HB5.out.size))
          clear HT5 HK5 HB5
          clear x10 x11 x12 x13
          clear hb_
          cases hw : wantsL q x.id with
          | some v =>
            rw [hw] at he
            simp only [Option.getD_some, Option.isSome_some] at he
            unfold lkV at he
            subst he
            have hba := below_alloc w6 (.cells #[.string v.key, .int .i64 v.id.n, .int .i64 v.id.c, .int .i64 v.mode] 62)
            have k2 := Blk.new w6 62 #[.string v.key, .int .i64 v.id.n, .int .i64 v.id.c, .int .i64 v.mode]
            go_upto_region 10 with fail
            obtain ⟨w7, hwn⟩ : ∃ w7, w7 = w6.alloc (.cells #[.string v.key, .int .i64 v.id.n, .int .i64 v.id.c, .int .i64 v.mode] 62) := ⟨_, rfl⟩
            obtain ⟨p2, hp2⟩ : ∃ p2, p2 = w6.heap.size := ⟨_, rfl⟩
            rw [← hwn] at hba k2
            rw [← hp2] at k2
            rw [← hwn, ← hp2]
            clear hwn hp2
            have HT7 := Lib.hid (HT6.out.below hba)
            have HK7 := Lib.hid (HK6.out.below hba HK6.out.lt)
            have HB7 : Hid (Below w.heap.size w w7) := Lib.hid (HB6.out.trans (hba.mono HB6.out.size))
            clear HT6 HK6 HB6
            have x10 : w7.cell? ⟨p1, 0, none⟩ = some (.string x.key) := HK7.out.cell 0
            have x11 : w7.cell? ⟨p1, 1, none⟩ = some (.int .i64 x.id.n) := HK7.out.cell 1
            have x12 : w7.cell? ⟨p1, 2, none⟩ = some (.int .i64 x.id.c) := HK7.out.cell 2
            have x13 : w7.cell? ⟨p1, 3, none⟩ = some (.int .i64 x.mode) := HK7.out.cell 3
            have x20 : w7.cell? ⟨p2, 0, none⟩ = some (.string v.key) := k2.cell 0
            have x21 : w7.cell? ⟨p2, 1, none⟩ = some (.int .i64 v.id.n) := k2.cell 1
            have x22 : w7.cell? ⟨p2, 2, none⟩ = some (.int .i64 v.id.c) := k2.cell 2
            have x23 : w7.cell? ⟨p2, 3, none⟩ = some (.int .i64 v.mode) := k2.cell 3
            clear k2 hba
            cases hky : (v.key.toList == x.key.toList) with
            | false =>
              have HR := Lib.hid (HRF5.out v hw (fun h => by rw [h.1] at hky; simp at hky))
              go_wp2
              go_ret2
              unfold RfuEnds
              rw [show refuse q x = _ from HR.out]
              exact ⟨rfl, HB7.out⟩
            | true =>
              by_cases hmv : x.mode ≤ v.mode
              · have HR := Lib.hid (HRF4.out v hw (toList_inj (by simpa using hky)) hmv)
                go_wp2
                go_ret2
                unfold RfuEnds
                rw [show refuse q x = _ from HR.out]
                exact ⟨rfl, HB7.out⟩
              · have HR := Lib.hid (HRF5.out v hw (fun h => hmv h.2))
                go_wp2
                go_ret2
                unfold RfuEnds
                rw [show refuse q x = _ from HR.out]
                exact ⟨rfl, HB7.out⟩
          | none =>
            rw [hw] at he
            simp only [Option.getD_none, Option.isSome_none] at he
            unfold lkV zeroL at he
            subst he
            have hba := below_alloc w6 (.cells #[.string ⟨#[]⟩, .int .i64 0, .int .i64 0, .int .i64 0] 62)
            go_upto_region 10 with fail
            obtain ⟨w7, hwn⟩ : ∃ w7, w7 = w6.alloc (.cells #[.string ⟨#[]⟩, .int .i64 0, .int .i64 0, .int .i64 0] 62) := ⟨_, rfl⟩
            obtain ⟨p2, hp2⟩ : ∃ p2, p2 = w6.heap.size := ⟨_, rfl⟩
            rw [← hwn] at hba
            rw [← hwn, ← hp2]
            clear hwn hp2
            have HT7 := Lib.hid (HT6.out.below hba)
            have HK7 := Lib.hid (HK6.out.below hba HK6.out.lt)
            have HB7 : Hid (Below w.heap.size w w7) := Lib.hid (HB6.out.trans (hba.mono HB6.out.size))
            clear HT6 HK6 HB6
            clear hba
            have HRF6 := Lib.hid (fun h => HRFN.out.1 hw h)
            have HRF67 := Lib.hid (And.intro (fun h5 h => HRFN.out.2.1 hw h5 h) (fun h5 h => HRFN.out.2.2 hw h5 h))
            clear HRFN HRF4 HRF5 hw
            have hS : Hid (∀ w', Below w7.heap.size w7 w' → (w'.cell? ⟨g, 3, none⟩ = some (.slice m.ap q.prep.length m.cp) ∧ w'.cell? ⟨p1, 0, none⟩ = some (.string x.key) ∧ w'.cell? ⟨p1, 1, none⟩ = some (.int .i64 x.id.n) ∧ w'.cell? ⟨p1, 2, none⟩ = some (.int .i64 x.id.c) ∧ w'.cell? ⟨p1, 3, none⟩ = some (.int .i64 x.mode))) := Lib.hid (fun w' hb => ⟨(HT7.out.below hb).c3, (HK7.out.below hb HK7.out.lt).cell 0, (HK7.out.below hb HK7.out.lt).cell 1, (HK7.out.below hb HK7.out.lt).cell 2, (HK7.out.below hb HK7.out.lt).cell 3⟩)
            have HBD : Hid (Below w7.heap.size w7 w7.drew) := Lib.hid (below_drewN (Below.refl _ _) 1)
            have hfm := HT7.out.fm
            cases hh14 : hasI q.prep x.id with
            | true =>
              go_wp2_with fail
              refine wp_region_heldH (by kernel_rfl) hS (HBD.out) (fun hHeld => ?_)
              refine takes [0, 1, 2, 3, 4, 5] 1 (by kernel_rfl) (by assumption) ?_
              iterate 6 (refine tkY rfl (fun _ _ _ h => h) rfl (by ((intro w hSw); (try dsimp only at hSw); go_simp; (try with_reducible rfl))) ?_; try simp only [Act.put, List.setIfInBounds_toArray, List.set_cons_zero, List.set_cons_succ])
              refine tkE ?_
              refine wpAnyH_ready (rs := [6]) (by kernel_rfl) (by simp) ?_
              refine readyC rfl (fun K hK => ?_) ?_
              ·
                go_simp
                go_at_call 49
                refine (has_any m.ap m.cp q.prep x.id w7.drew (Reads.of_own (HT7.out.below HBD.out).op) (by omega)).mono ?_
                rintro e w8 ⟨he_, hb_⟩
                rw [hh14] at he_
                subst he_
                have HD3 : Hid (Below w7.heap.size w7 w8) := Lib.hid (HBD.out.trans (hb_.mono HBD.out.size))
                clear hb_
                go_wp2_with fail
                refine hK.out _ _ (by with_reducible exact hS.out _ HD3.out) (fun hHeld => ?_)
                clear hK K
                try simp only [Act.put, List.setIfInBounds_toArray, List.set_cons_zero, List.set_cons_succ]
                refine wpAnyH_done (by kernel_rfl) ?_ _
                have hd3 := HD3.out
                have HT8 := Lib.hid (HT7.out.below hd3)
                have HK8 := Lib.hid (HK7.out.below hd3 HK7.out.lt)
                have HB8 : Hid (Below w.heap.size w w8) := Lib.hid (HB7.out.trans (hd3.mono HB7.out.size))
                clear HT7 HK7 HB7
                clear hd3 HD3 HBD hS
                go_wp2
                go_ret2
                unfold RfuEnds
                rw [show refuse q x = _ from HRF6.out hh14]
                exact ⟨rfl, HB8.out⟩
              exact AllReadyH.nil
            | false =>
              go_wp2_with fail
              refine wp_region_heldH (by kernel_rfl) hS (HBD.out) (fun hHeld => ?_)
              refine takes [0, 1, 2, 3, 4, 5] 1 (by kernel_rfl) (by assumption) ?_
              iterate 6 (refine tkY rfl (fun _ _ _ h => h) rfl (by ((intro w hSw); (try dsimp only at hSw); go_simp; (try with_reducible rfl))) ?_; try simp only [Act.put, List.setIfInBounds_toArray, List.set_cons_zero, List.set_cons_succ])
              refine tkE ?_
              refine wpAnyH_ready (rs := [6]) (by kernel_rfl) (by simp) ?_
              refine readyC rfl (fun K hK => ?_) ?_
              ·
                go_simp
                go_at_call 49
                refine (has_any m.ap m.cp q.prep x.id w7.drew (Reads.of_own (HT7.out.below HBD.out).op) (by omega)).mono ?_
                rintro e w8 ⟨he_, hb_⟩
                rw [hh14] at he_
                subst he_
                have HD3 : Hid (Below w7.heap.size w7 w8) := Lib.hid (HBD.out.trans (hb_.mono HBD.out.size))
                clear hb_
                go_wp2_with fail
                refine hK.out _ _ (by with_reducible exact hS.out _ HD3.out) (fun hHeld => ?_)
                clear hK K
                try simp only [Act.put, List.setIfInBounds_toArray, List.set_cons_zero, List.set_cons_succ]
                refine wpAnyH_done (by kernel_rfl) ?_ _
                have hd3 := HD3.out
                have HT8 := Lib.hid (HT7.out.below hd3)
                have HK8 := Lib.hid (HK7.out.below hd3 HK7.out.lt)
                have HB8 : Hid (Below w.heap.size w w8) := Lib.hid (HB7.out.trans (hd3.mono HB7.out.size))
                clear HT7 HK7 HB7
                clear hd3 HD3 HBD hS
                have HRF7 := Lib.hid (fun h => HRF67.out.1 hh14 h)
                have HRF8 := Lib.hid (fun h => HRF67.out.2 hh14 h)
                clear HRF6 HRF67 hh14
                have hS : Hid (∀ w', Below w8.heap.size w8 w' → (w'.cell? ⟨g, 1, none⟩ = some (.slice m.ah q.held.length m.ch) ∧ w'.cell? ⟨g, 2, none⟩ = some (.slice m.aw q.wait.length m.cw) ∧ w'.cell? ⟨g, 0, none⟩ = some (.int .i64 q.most) ∧ w'.cell? ⟨p1, 0, none⟩ = some (.string x.key) ∧ w'.cell? ⟨p1, 1, none⟩ = some (.int .i64 x.id.n) ∧ w'.cell? ⟨p1, 2, none⟩ = some (.int .i64 x.id.c) ∧ w'.cell? ⟨p1, 3, none⟩ = some (.int .i64 x.mode))) := Lib.hid (fun w' hb => ⟨(HT8.out.below hb).c1, (HT8.out.below hb).c2, (HT8.out.below hb).c0, (HK8.out.below hb HK8.out.lt).cell 0, (HK8.out.below hb HK8.out.lt).cell 1, (HK8.out.below hb HK8.out.lt).cell 2, (HK8.out.below hb HK8.out.lt).cell 3⟩)
                have HBD : Hid (Below w8.heap.size w8 w8.drew) := Lib.hid (below_drewN (Below.refl _ _) 1)
                have hfh := HT8.out.fh
                have c6w : IntKind.i64.wrap ((q.held.length : Int) + (q.wait.length : Int)) = (q.held.length : Int) + (q.wait.length : Int) := by rw [IntKind.wrap_i64]; omega
                by_cases hm : q.most ≤ (q.held.length : Int) + (q.wait.length : Int)
                · have HM := Lib.hid hm
                  by_cases hM : 0 < M
                  · have HMM : Hid (¬ modeI q x.id x.key = 0) := Lib.hid (by rw [← HMD.out]; omega)
                    cases ha : ((q.wait.any fun y => confR y x) || q.held.any fun y => confR y x) with
                    | true =>
                      have HR := Lib.hid (HRF7.out (by rw [fullR_yes HGD.out HS0.out HM.out HMM.out]; rw [Bool.or_comm]; exact ha))
                      go_wp2_with fail
                      refine wp_region_heldH (by kernel_rfl) hS (HBD.out) (fun hHeld => ?_)
                      refine takes [0, 1, 2, 3, 4, 5, 6, 7, 8, 9, 10, 11, 12, 13, 14, 15, 16, 17, 18, 19, 20, 21] 5 (by kernel_rfl) (by assumption) ?_
                      iterate 22 (refine tkY rfl (fun _ _ _ h => h) rfl (by ((intro w hSw); (try dsimp only at hSw); go_simp; (try with_reducible rfl))) ?_; try simp only [Act.put, List.setIfInBounds_toArray, List.set_cons_zero, List.set_cons_succ])
                      refine tkE ?_
                      refine wpAnyH_ready (rs := [22]) (by kernel_rfl) (by simp) ?_
                      refine readyC rfl (fun K hK => ?_) ?_
                      ·
                        go_simp
                        go_at_call 88
                        refine (HAN.out _ (HT8.out.below HBD.out)).mono ?_
                        rintro e w9 ⟨he_, hb_⟩
                        rw [ha] at he_
                        subst he_
                        have HD9 : Hid (Below w8.heap.size w8 w9) := Lib.hid (HBD.out.trans (hb_.mono HBD.out.size))
                        clear hb_
                        go_wp2_with fail
                        refine hK.out _ _ (by with_reducible exact hS.out _ HD9.out) (fun hHeld => ?_)
                        clear hK K
                        try simp only [Act.put, List.setIfInBounds_toArray, List.set_cons_zero, List.set_cons_succ]
                        refine takes [23, 24, 25, 26] 0 (by kernel_rfl) (by assumption) ?_
                        iterate 4 (refine tkY rfl (fun _ _ _ h => h) rfl (by ((intro w hSw); (try dsimp only at hSw); go_simp; (try with_reducible rfl))) ?_; try simp only [Act.put, List.setIfInBounds_toArray, List.set_cons_zero, List.set_cons_succ])
                        refine tkE ?_
                        refine wpAnyH_done (by kernel_rfl) ?_ _
                        have HBL := Lib.hid (HB8.out.trans (HD9.out.mono HB8.out.size))
                        go_wp2
                        go_ret2
                        unfold RfuEnds
                        rw [show refuse q x = _ from HR.out]
                        exact ⟨rfl, HBL.out⟩
                      exact AllReadyH.nil
                    | false =>
                      have HR := Lib.hid (HRF8.out (by rw [fullR_yes HGD.out HS0.out HM.out HMM.out]; rw [Bool.or_comm]; exact ha))
                      go_wp2_with fail
                      refine wp_region_heldH (by kernel_rfl) hS (HBD.out) (fun hHeld => ?_)
                      refine takes [0, 1, 2, 3, 4, 5, 6, 7, 8, 9, 10, 11, 12, 13, 14, 15, 16, 17, 18, 19, 20, 21] 5 (by kernel_rfl) (by assumption) ?_
                      iterate 22 (refine tkY rfl (fun _ _ _ h => h) rfl (by ((intro w hSw); (try dsimp only at hSw); go_simp; (try with_reducible rfl))) ?_; try simp only [Act.put, List.setIfInBounds_toArray, List.set_cons_zero, List.set_cons_succ])
                      refine tkE ?_
                      refine wpAnyH_ready (rs := [22]) (by kernel_rfl) (by simp) ?_
                      refine readyC rfl (fun K hK => ?_) ?_
                      ·
                        go_simp
                        go_at_call 88
                        refine (HAN.out _ (HT8.out.below HBD.out)).mono ?_
                        rintro e w9 ⟨he_, hb_⟩
                        rw [ha] at he_
                        subst he_
                        have HD9 : Hid (Below w8.heap.size w8 w9) := Lib.hid (HBD.out.trans (hb_.mono HBD.out.size))
                        clear hb_
                        go_wp2_with fail
                        refine hK.out _ _ (by with_reducible exact hS.out _ HD9.out) (fun hHeld => ?_)
                        clear hK K
                        try simp only [Act.put, List.setIfInBounds_toArray, List.set_cons_zero, List.set_cons_succ]
                        refine takes [23, 24, 25, 26] 0 (by kernel_rfl) (by assumption) ?_
                        iterate 4 (refine tkY rfl (fun _ _ _ h => h) rfl (by ((intro w hSw); (try dsimp only at hSw); go_simp; (try with_reducible rfl))) ?_; try simp only [Act.put, List.setIfInBounds_toArray, List.set_cons_zero, List.set_cons_succ])
                        refine tkE ?_
                        refine wpAnyH_done (by kernel_rfl) ?_ _
                        have HBL := Lib.hid (HB8.out.trans (HD9.out.mono HB8.out.size))
                        go_wp2
                        go_ret2
                        unfold RfuEnds
                        rw [show refuse q x = _ from HR.out]
                        exact ⟨rfl, HBL.out⟩
                      exact AllReadyH.nil
                  · have hM0 : M = 0 := by have := mode_nat HGD.out x.id x.key; rw [← HMD.out] at this; omega
                    clear hM
                    subst hM0
                    have HMM : Hid (modeI q x.id x.key = 0) := Lib.hid HMD.out.symm
                    have HR := Lib.hid (HRF7.out (full_2 HM.out HMM.out))
                    go_wp2_with fail
                    refine wp_region_heldH (by kernel_rfl) hS (HBD.out) (fun hHeld => ?_)
                    refine takes [0, 1, 2, 3, 4, 5, 6, 7, 8, 9, 10, 11, 12, 13, 14, 15, 16, 17, 18, 19, 20, 21, 22, 23, 24, 25, 26] 0 (by kernel_rfl) (by assumption) ?_
                    iterate 20 (refine tkY rfl (fun _ _ _ h => h) rfl (by ((intro w hSw); (try dsimp only at hSw); go_simp; (try with_reducible rfl))) ?_; try simp only [Act.put, List.setIfInBounds_toArray, List.set_cons_zero, List.set_cons_succ])
                    iterate 4 (refine tkN rfl (fun _ _ _ h => h) rfl ?_; try simp only [Act.put, List.setIfInBounds_toArray, List.set_cons_zero, List.set_cons_succ])
                    iterate 3 (refine tkY rfl (fun _ _ _ h => h) rfl (by ((intro w hSw); (try dsimp only at hSw); go_simp; (try with_reducible rfl))) ?_; try simp only [Act.put, List.setIfInBounds_toArray, List.set_cons_zero, List.set_cons_succ])
                    refine tkE ?_
                    refine wpAnyH_done (by kernel_rfl) ?_ _
                    have HBL := Lib.hid (HB8.out.trans (HBD.out.mono HB8.out.size))
                    go_wp2
                    go_ret2
                    unfold RfuEnds
                    rw [show refuse q x = _ from HR.out]
                    exact ⟨rfl, HBL.out⟩
                · have HR := Lib.hid (HRF8.out (full_1 hm))
                  have hmd : decide (q.most ≤ (q.held.length : Int) + (q.wait.length : Int)) = false := decide_eq_false hm
                  have hme : (q.held.length : Int) + (q.wait.length : Int) < q.most := by omega
                  go_wp2_with fail
                  refine wp_region_heldH (by kernel_rfl) hS (HBD.out) (fun hHeld => ?_)
                  refine takes [0, 1, 2, 3, 4, 5, 6, 7, 8, 9, 10, 11, 12, 13, 14, 15, 16, 17, 18, 19, 20, 21, 22, 23, 24, 25, 26] 0 (by kernel_rfl) (by assumption) ?_
                  iterate 17 (refine tkY rfl (fun _ _ _ h => h) rfl (by ((intro w hSw); (try dsimp only at hSw); go_simp; (try with_reducible rfl))) ?_; try simp only [Act.put, List.setIfInBounds_toArray, List.set_cons_zero, List.set_cons_succ])
                  iterate 9 (refine tkN rfl (fun _ _ _ h => h) rfl ?_; try simp only [Act.put, List.setIfInBounds_toArray, List.set_cons_zero, List.set_cons_succ])
                  refine tkY rfl (fun _ _ _ h => h) rfl (by ((intro w hSw); (try dsimp only at hSw); go_simp; (try with_reducible rfl))) ?_; try simp only [Act.put, List.setIfInBounds_toArray, List.set_cons_zero, List.set_cons_succ]
                  refine tkE ?_
                  refine wpAnyH_done (by kernel_rfl) ?_ _
                  have HBL := Lib.hid (HB8.out.trans (HBD.out.mono HB8.out.size))
                  go_wp2
                  go_ret2
                  unfold RfuEnds
                  rw [show refuse q x = _ from HR.out]
                  exact ⟨rfl, HBL.out⟩
              exact AllReadyH.nil
      exact AllReadyH.nil
  · obtain ⟨E, hE⟩ : ∃ E, E = soundE x := ⟨_, rfl⟩
    have HR := Lib.hid (ref_1 (t := q) hs)
    rw [← hE] at he hs HR
    subst he
    have hEb : (E == 0) = false := by simpa using hs
    have hEd : decide (E = 0) = false := by simpa using hs
    have hEn : (E != 0) = true := by unfold bne; rw [hEb]; rfl
    clear hE hs
    go_wp2
    go_ret2
    unfold RfuEnds
    rw [show refuse q x = _ from HR.out]
    exact ⟨rfl, HB3.out⟩
end Go.Proofs.YtpidpdbjjdkhoaaGreat
