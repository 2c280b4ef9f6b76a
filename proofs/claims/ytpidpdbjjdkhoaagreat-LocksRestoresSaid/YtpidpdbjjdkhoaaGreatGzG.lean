/- Locks, the reference: Prepare. -/
import Derived.Test.YtpidpdbjjdkhoaaGreatGzF
namespace Go.Proofs.YtpidpdbjjdkhoaaGreat
open Go.RowKit
set_option linter.unusedSimpArgs false
set_option linter.unusedVariables false
attribute [local go_sem ↓] Go.wp_at_zero Go.wp_at_succ

theorem any_on {l : List Lk} {f : Lk → Bool} {j : Nat} {y : Lk} (h : l[j]? = some y) : (l.take (j + 1)).any f = ((l.take j).any f || f y) := by
  rw [take_on h, List.any_append]; simp
theorem prepT_no {q : Tb} {id : Idn} (h : prepE q id ≠ 0) : prepT q id = q := by unfold prepT; rw [if_neg h]
theorem prepT_yes {q : Tb} {id : Idn} (h : prepE q id = 0) : prepT q id = ⟨q.most, q.held, q.wait, ins ol id q.prep, q.hurt⟩ := by unfold prepT; rw [if_pos h]
theorem prep_yes {q : Tb} {id : Idn} (h : (q.held.any fun x => eqI x.id id) = true) (hw : wantsL q id = none) (hu : hasI q.hurt id = false) : prepE q id = 0 := by
  rw [anyEq] at h
  unfold prepE
  rw [if_neg (by rw [h]; simp), hw, hu]
  rfl
def RPrepEnds (g : Nat) (q : Tb) (n : TbM) (id : Idn) (w : World) (e : Ending) (w' : World) : Prop := e = .returned (.int .i64 (prepE q id)) ∧ ∃ n', RfAt w' g (prepT q id) n' ∧ Moves (fpT g n) (fpT g n') w w'
def RpRel (q : Tb) (id : Idn) (w : World) (d i : Value) (wr : World) : Prop := ∃ k : Nat, d = .bool ((q.held.take k).any fun y => eqI y.id id) ∧ i = .int .i64 k ∧ k ≤ q.held.length ∧ Below w.heap.size w wr
set_option maxHeartbeats 16000000 in
set_option maxRecDepth 100000 in
theorem rprep_any {w : World} {g : Nat} {q : Tb} {n : TbM} (h : RfAt w g q n) (id : Idn) (hp : q.prep.length < 1000000) : Calls Tryz.prog 17 #[.pointer (some ⟨g, 0, none⟩), idV id] w (RPrepEnds g q n id w) := by
  have HH := Lib.hid h
  have HE := Lib.hid (fun y => run_eqI y id)
  have HPL := Lib.hid hp
  clear h hp
  unfold idV
  go_enter Tryz.func17, Tryz.ntmps17
  go_upto_region 1 with fail
  have k1 := Blk.new w 29 #[.int .i64 id.n, .int .i64 id.c]
  have HB := Lib.hid (below_alloc w (.cells #[.int .i64 id.n, .int .i64 id.c] 29))
  obtain ⟨w2, hw2⟩ : ∃ w2, w2 = (w.alloc (.cells #[.int .i64 id.n, .int .i64 id.c] 29)) := ⟨_, rfl⟩
  obtain ⟨p1, hp1⟩ : ∃ p1, p1 = w.heap.size := ⟨_, rfl⟩
  rw [← hw2] at HB k1
  rw [← hp1] at k1
  rw [← hw2]
  rw [← hp1]
  clear hw2 hp1
  have HT2 := Lib.hid (HH.out.below HB.out)
  have HK2 := Lib.hid k1
  clear k1
  go_wp2
  go_loopw [5, 6] (RpRel q id w2) (fun _ i _ => q.held.length - (intOf i).toNat)
  case atStart => exact ⟨0, by simp, rfl, Nat.zero_le _, Below.refl _ _⟩
  case round =>
    obtain ⟨k, rfl, rfl, hk, hb⟩ := hrel
    have HBR := Lib.hid hb
    have hfh := HT2.out.fh
    have y1 : wr.cell? ⟨g, 1, none⟩ = some (.slice n.ah q.held.length n.ch) := (HT2.out.below hb).c1
    clear hb
    by_cases hlt : k < q.held.length
    · obtain ⟨b, off, hA, hcell⟩ := rowL (Reads.of_own HT2.out.oh) (by omega)
      have hcy := hcell k hlt
      rw [hA] at y1
      have HGY : Hid (q.held[k]? = some (gr lkR q.held k)) := Lib.hid (gr_get hlt)
      obtain ⟨y, hy⟩ : ∃ y, y = gr lkR q.held k := ⟨_, rfl⟩
      rw [← hy] at hcy HGY
      have HCY := Lib.hid hcy
      have HON := Lib.hid (any_on (f := fun y => eqI y.id id) HGY.out)
      have kL : (0 : Int) ≤ (k : Int) := by omega
      have kU : (k : Int) < (q.held.length : Int) := by omega
      have HBD : Hid (Below wr.heap.size wr wr.drew) := Lib.hid (below_drewN (Below.refl wr.heap.size wr) 1)
      have hS : Hid (∀ w', Below wr.heap.size wr w' → (w'.cell? ⟨g, 1, none⟩ = some (.slice (some ⟨b, off, none⟩) q.held.length n.ch) ∧ w'.cell? ⟨b, off + k * 4, none⟩ = some (.string y.key) ∧ w'.cell? ⟨b, off + k * 4 + 1, none⟩ = some (.int .i64 y.id.n) ∧ w'.cell? ⟨b, off + k * 4 + 2, none⟩ = some (.int .i64 y.id.c) ∧ w'.cell? ⟨b, off + k * 4 + 3, none⟩ = some (.int .i64 y.mode) ∧ w'.cell? ⟨p1, 0, none⟩ = some (.int .i64 id.n) ∧ w'.cell? ⟨p1, 1, none⟩ = some (.int .i64 id.c))) := Lib.hid (fun w' hb => by
        have hb2 := HBR.out.trans (hb.mono HBR.out.size)
        have h1 := (HT2.out.below hb2).c1
        rw [hA] at h1
        obtain ⟨a0, a1, a2, a3⟩ := HCY.out w' hb2
        exact ⟨h1, a0, a1, a2, a3, (HK2.out.below hb2 HK2.out.lt).cell 0, (HK2.out.below hb2 HK2.out.lt).cell 1⟩)
      have he := HE.out y.id
      clear hy hcy hcell
      cases hd : (q.held.take k).any fun y => eqI y.id id with
      | true =>
        have HN : Hid (Value.bool true = .bool ((q.held.take (k + 1)).any fun y => eqI y.id id)) := Lib.hid (by rw [HON.out, hd]; rfl)
        clear hd he
        go_wp2_with fail
        refine wp_region_heldH (by kernel_rfl) hS (HBD.out) (fun hHeld => ?_)
        refine takes [0, 1, 2, 3, 4, 5, 6, 7, 8, 9, 10, 11, 12, 13] 0 (by kernel_rfl) (by assumption) ?_
        iterate 2 (refine tkY rfl (fun _ _ _ h => h) rfl (by ((intro w hSw); (try dsimp only at hSw); go_simp; (try with_reducible rfl))) ?_; try simp only [Act.put, List.setIfInBounds_toArray, List.set_cons_zero, List.set_cons_succ])
        iterate 10 (refine tkN rfl (fun _ _ _ h => h) rfl ?_; try simp only [Act.put, List.setIfInBounds_toArray, List.set_cons_zero, List.set_cons_succ])
        iterate 2 (refine tkY rfl (fun _ _ _ h => h) rfl (by ((intro w hSw); (try dsimp only at hSw); go_simp; (try with_reducible rfl))) ?_; try simp only [Act.put, List.setIfInBounds_toArray, List.set_cons_zero, List.set_cons_succ])
        refine tkE ?_
        refine wpAnyH_done (by kernel_rfl) ?_ _
        go_wp2
        go_roundw
        case rel => exact ⟨k + 1, HN.out, by go_num, by omega, HBR.out.trans (HBD.out.mono HBR.out.size)⟩
        case measure => simp [intOf]; omega
      | false =>
        cases hq : eqI y.id id with
        | true =>
          rw [hq] at he
          have HN : Hid (Value.bool true = .bool ((q.held.take (k + 1)).any fun y => eqI y.id id)) := Lib.hid (by rw [HON.out, hd, hq]; rfl)
          clear hd hq
          go_wp2_with fail
          refine wp_region_heldH (by kernel_rfl) hS (HBD.out) (fun hHeld => ?_)
          refine takes [0, 1, 2, 3, 4, 5, 6, 7, 8, 9, 10, 11, 12, 13] 0 (by kernel_rfl) (by assumption) ?_
          iterate 14 (refine tkY rfl (fun _ _ _ h => h) rfl (by ((intro w hSw); (try dsimp only at hSw); go_simp; (try with_reducible rfl))) ?_; try simp only [Act.put, List.setIfInBounds_toArray, List.set_cons_zero, List.set_cons_succ])
          refine tkE ?_
          refine wpAnyH_done (by kernel_rfl) ?_ _
          go_wp2
          go_roundw
          case rel => exact ⟨k + 1, HN.out, by go_num, by omega, HBR.out.trans (HBD.out.mono HBR.out.size)⟩
          case measure => simp [intOf]; omega
        | false =>
          rw [hq] at he
          have HN : Hid (Value.bool false = .bool ((q.held.take (k + 1)).any fun y => eqI y.id id)) := Lib.hid (by rw [HON.out, hd, hq]; rfl)
          clear hd hq
          go_wp2_with fail
          refine wp_region_heldH (by kernel_rfl) hS (HBD.out) (fun hHeld => ?_)
          refine takes [0, 1, 2, 3, 4, 5, 6, 7, 8, 9, 10, 11, 12, 13] 0 (by kernel_rfl) (by assumption) ?_
          iterate 14 (refine tkY rfl (fun _ _ _ h => h) rfl (by ((intro w hSw); (try dsimp only at hSw); go_simp; (try with_reducible rfl))) ?_; try simp only [Act.put, List.setIfInBounds_toArray, List.set_cons_zero, List.set_cons_succ])
          refine tkE ?_
          refine wpAnyH_done (by kernel_rfl) ?_ _
          go_wp2
          go_roundw
          case rel => exact ⟨k + 1, HN.out, by go_num, by omega, HBR.out.trans (HBD.out.mono HBR.out.size)⟩
          case measure => simp [intOf]; omega
    · have kU : ¬ (k : Int) < (q.held.length : Int) := by omega
      have HT3 := Lib.hid (HT2.out.below HBR.out)
      have HB3 := Lib.hid (HB.out.trans (HBR.out.mono HB.out.size))
      have HK3 := Lib.hid (HK2.out.below HBR.out HK2.out.lt)
      rw [List.take_of_length_le (show q.held.length ≤ k by omega)]
      clear HBR HT2 HB HK2
      cases ha : q.held.any fun y => eqI y.id id with
      | false =>
        have HR := Lib.hid (prep_171 ha)
        clear ha
        go_wp2
        go_ret
        exact ⟨ret_int HR.out.symm, n, by rw [prepT_no (by rw [HR.out]; decide)]; exact HT3.out, Moves.of_below HB3.out⟩
      | true =>
        have HA := Lib.hid ha
        have HWT := Lib.hid (rwaits_any HT3.out id)
        unfold WantEnds idV at HWT
        have x10 : wr.cell? ⟨p1, 0, none⟩ = some (.int .i64 id.n) := HK3.out.cell 0
        have x11 : wr.cell? ⟨p1, 1, none⟩ = some (.int .i64 id.c) := HK3.out.cell 1
        clear ha
        go_wp2_with fail
        refine HWT.out.mono ?_
        clear HWT x10 x11 y1
        rintro e w4 ⟨he, hb4⟩
        have HT4 := Lib.hid (HT3.out.below hb4)
        have HB4 := Lib.hid (HB3.out.trans (hb4.mono HB3.out.size))
        have HK4 := Lib.hid (HK3.out.below hb4 HK3.out.lt)
        clear hb4 HT3 HB3 HK3
        cases hw : wantsL q id with
        | some v =>
          rw [hw] at he
          simp only [Option.getD_some, Option.isSome_some] at he
          unfold lkV at he
          subst he
          have HR := Lib.hid (prep_8 HA.out (show ((wantsL q id).isSome || hasI q.hurt id) = true by rw [hw]; rfl))
          have HBA := Lib.hid (below_alloc w4 (.cells #[.string v.key, .int .i64 v.id.n, .int .i64 v.id.c, .int .i64 v.mode] 62))
          go_upto_region 9 with fail
          obtain ⟨w5, hw5⟩ : ∃ w5, w5 = w4.alloc (.cells #[.string v.key, .int .i64 v.id.n, .int .i64 v.id.c, .int .i64 v.mode] 62) := ⟨_, rfl⟩
          rw [← hw5] at HBA
          rw [← hw5]
          clear hw5
          have HBD : Hid (Below w5.heap.size w5 w5.drew) := Lib.hid (below_drewN (Below.refl _ _) 1)
          have HB6 := Lib.hid ((HB4.out.trans (HBA.out.mono HB4.out.size)).trans (HBD.out.mono (Nat.le_trans HB4.out.size HBA.out.size)))
          have HT6 := Lib.hid (HH.out.below HB6.out)
          have hS : Hid (∀ w', Below w5.heap.size w5 w' → (w'.cell? ⟨g, 4, none⟩ = some (.slice n.au q.hurt.length n.cu) ∧ w'.cell? ⟨p1, 0, none⟩ = some (.int .i64 id.n) ∧ w'.cell? ⟨p1, 1, none⟩ = some (.int .i64 id.c))) := Lib.hid (fun w' hb => by have hb4 := HBA.out.trans (hb.mono HBA.out.size); exact ⟨(HT4.out.below hb4).c4, (HK4.out.below hb4 HK4.out.lt).cell 0, (HK4.out.below hb4 HK4.out.lt).cell 1⟩)
          go_wp2_with fail
          refine wp_region_heldH (by kernel_rfl) hS (HBD.out) (fun hHeld => ?_)
          refine takes [0, 1, 2, 3, 4, 5, 6, 7, 8] 0 (by kernel_rfl) (by assumption) ?_
          iterate 2 (refine tkY rfl (fun _ _ _ h => h) rfl (by ((intro w hSw); (try dsimp only at hSw); go_simp; (try with_reducible rfl))) ?_; try simp only [Act.put, List.setIfInBounds_toArray, List.set_cons_zero, List.set_cons_succ])
          iterate 6 (refine tkN rfl (fun _ _ _ h => h) rfl ?_; try simp only [Act.put, List.setIfInBounds_toArray, List.set_cons_zero, List.set_cons_succ])
          refine tkY rfl (fun _ _ _ h => h) rfl (by ((intro w hSw); (try dsimp only at hSw); go_simp; (try with_reducible rfl))) ?_; try simp only [Act.put, List.setIfInBounds_toArray, List.set_cons_zero, List.set_cons_succ]
          refine tkE ?_
          refine wpAnyH_done (by kernel_rfl) ?_ _
          go_wp2
          go_ret
          exact ⟨ret_int HR.out.symm, n, by rw [prepT_no (by rw [HR.out]; decide)]; exact HT6.out, Moves.of_below HB6.out⟩
        | none =>
          rw [hw] at he
          simp only [Option.getD_none, Option.isSome_none] at he
          unfold lkV zeroL at he
          subst he
          have HW := Lib.hid hw
          have HBA := Lib.hid (below_alloc w4 (.cells #[.string ⟨#[]⟩, .int .i64 0, .int .i64 0, .int .i64 0] 62))
          go_upto_region 9 with fail
          obtain ⟨w5, hw5⟩ : ∃ w5, w5 = w4.alloc (.cells #[.string ⟨#[]⟩, .int .i64 0, .int .i64 0, .int .i64 0] 62) := ⟨_, rfl⟩
          rw [← hw5] at HBA
          rw [← hw5]
          clear hw5 hw
          have HB5 := Lib.hid (HB4.out.trans (HBA.out.mono HB4.out.size))
          have HT5 := Lib.hid (HT4.out.below HBA.out)
          have HK5 := Lib.hid (HK4.out.below HBA.out HK4.out.lt)
          clear HT4 HB4 HK4 HBA
          have HBD : Hid (Below w5.heap.size w5 w5.drew) := Lib.hid (below_drewN (Below.refl _ _) 1)
          have hS : Hid (∀ w', Below w5.heap.size w5 w' → (w'.cell? ⟨g, 4, none⟩ = some (.slice n.au q.hurt.length n.cu) ∧ w'.cell? ⟨p1, 0, none⟩ = some (.int .i64 id.n) ∧ w'.cell? ⟨p1, 1, none⟩ = some (.int .i64 id.c))) := Lib.hid (fun w' hb => ⟨(HT5.out.below hb).c4, (HK5.out.below hb HK5.out.lt).cell 0, (HK5.out.below hb HK5.out.lt).cell 1⟩)
          have hfm := HT5.out.fm
          cases hu : hasI q.hurt id with
          | true =>
            go_wp2_with fail
            refine wp_region_heldH (by kernel_rfl) hS (HBD.out) (fun hHeld => ?_)
            refine takes [0, 1, 2, 3, 4, 5, 6] 2 (by kernel_rfl) (by assumption) ?_
            iterate 7 (refine tkY rfl (fun _ _ _ h => h) rfl (by ((intro w hSw); (try dsimp only at hSw); go_simp; (try with_reducible rfl))) ?_; try simp only [Act.put, List.setIfInBounds_toArray, List.set_cons_zero, List.set_cons_succ])
            refine tkE ?_
            refine wpAnyH_ready (rs := [7]) (by kernel_rfl) (by simp) ?_
            refine readyC rfl (fun K hK => ?_) ?_
            ·
              go_simp
              go_at_call 49
              refine (has_any n.au n.cu q.hurt id w5.drew (Reads.of_own (HT5.out.below HBD.out).ou) (by omega)).mono ?_
              rintro e w6 ⟨he_, hb_⟩
              rw [hu] at he_
              subst he_
              have HD6 : Hid (Below w5.heap.size w5 w6) := Lib.hid (HBD.out.trans (hb_.mono HBD.out.size))
              clear hb_
              go_wp2_with fail
              refine hK.out _ _ (by with_reducible exact hS.out _ HD6.out) (fun hHeld => ?_)
              clear hK K
              try simp only [Act.put, List.setIfInBounds_toArray, List.set_cons_zero, List.set_cons_succ]
              refine takes [8] 0 (by kernel_rfl) (by assumption) ?_
              refine tkY rfl (fun _ _ _ h => h) rfl (by ((intro w hSw); (try dsimp only at hSw); go_simp; (try with_reducible rfl))) ?_; try simp only [Act.put, List.setIfInBounds_toArray, List.set_cons_zero, List.set_cons_succ]
              refine tkE ?_
              refine wpAnyH_done (by kernel_rfl) ?_ _
              have HT6 := Lib.hid (HT5.out.below HD6.out)
              have HB6 := Lib.hid (HB5.out.trans (HD6.out.mono HB5.out.size))
              have HR := Lib.hid (prep_8 HA.out (show ((wantsL q id).isSome || hasI q.hurt id) = true by rw [hu]; simp))
              go_wp2
              go_ret
              exact ⟨ret_int HR.out.symm, n, by rw [prepT_no (by rw [HR.out]; decide)]; exact HT6.out, Moves.of_below HB6.out⟩
            exact AllReadyH.nil
          | false =>
            go_wp2_with fail
            refine wp_region_heldH (by kernel_rfl) hS (HBD.out) (fun hHeld => ?_)
            refine takes [0, 1, 2, 3, 4, 5, 6] 2 (by kernel_rfl) (by assumption) ?_
            iterate 7 (refine tkY rfl (fun _ _ _ h => h) rfl (by ((intro w hSw); (try dsimp only at hSw); go_simp; (try with_reducible rfl))) ?_; try simp only [Act.put, List.setIfInBounds_toArray, List.set_cons_zero, List.set_cons_succ])
            refine tkE ?_
            refine wpAnyH_ready (rs := [7]) (by kernel_rfl) (by simp) ?_
            refine readyC rfl (fun K hK => ?_) ?_
            ·
              go_simp
              go_at_call 49
              refine (has_any n.au n.cu q.hurt id w5.drew (Reads.of_own (HT5.out.below HBD.out).ou) (by omega)).mono ?_
              rintro e w6 ⟨he_, hb_⟩
              rw [hu] at he_
              subst he_
              have HD6 : Hid (Below w5.heap.size w5 w6) := Lib.hid (HBD.out.trans (hb_.mono HBD.out.size))
              clear hb_
              go_wp2_with fail
              refine hK.out _ _ (by with_reducible exact hS.out _ HD6.out) (fun hHeld => ?_)
              clear hK K
              try simp only [Act.put, List.setIfInBounds_toArray, List.set_cons_zero, List.set_cons_succ]
              refine takes [8] 0 (by kernel_rfl) (by assumption) ?_
              refine tkY rfl (fun _ _ _ h => h) rfl (by ((intro w hSw); (try dsimp only at hSw); go_simp; (try with_reducible rfl))) ?_; try simp only [Act.put, List.setIfInBounds_toArray, List.set_cons_zero, List.set_cons_succ]
              refine tkE ?_
              refine wpAnyH_done (by kernel_rfl) ?_ _
              have HT6 := Lib.hid (HT5.out.below HD6.out)
              have HB6 := Lib.hid (HB5.out.trans (HD6.out.mono HB5.out.size))
              have HK6 := Lib.hid (HK5.out.below HD6.out HK5.out.lt)
              have HR := Lib.hid (prep_yes HA.out HW.out hu)
              clear HT5 HB5 HK5 hS HBD hu
              go_upto_region 11 with fail
              have HBD : Hid (Below w6.heap.size w6 w6.drew) := Lib.hid (below_drewN (Below.refl _ _) 1)
              have HRD := Lib.hid (HT6.out.below HBD.out)
              have hS : Hid (∀ w', Below w6.heap.size w6 w' → (w'.cell? ⟨g, 3, none⟩ = some (.slice n.ap q.prep.length n.cp) ∧ w'.cell? ⟨p1, 0, none⟩ = some (.int .i64 id.n) ∧ w'.cell? ⟨p1, 1, none⟩ = some (.int .i64 id.c))) := Lib.hid (fun w' hb => ⟨(HT6.out.below hb).c3, (HK6.out.below hb HK6.out.lt).cell 0, (HK6.out.below hb HK6.out.lt).cell 1⟩)
              have HWI := Lib.hid (rwith_any n.ap n.cp q.prep id w6.drew (Reads.of_own HRD.out.op) (by have := HPL.out; omega))
              unfold idV at HWI
              refine wp_region_last_held (S := fun w' => w'.cell? ⟨g, 3, none⟩ = some (.slice n.ap q.prep.length n.cp) ∧ w'.cell? ⟨p1, 0, none⟩ = some (.int .i64 id.n) ∧ w'.cell? ⟨p1, 1, none⟩ = some (.int .i64 id.c)) (ops := #[{ dst := some 48, op := Op.move (Operand.tmp 0), type := 25, pos := "ref.go:238", after := #[], guard := none }, { dst := some 49, op := Op.move (Operand.tmp 0), type := 25, pos := "ref.go:238", after := #[], guard := none }, { dst := some 50, op := Op.nilCheck (Operand.tmp 49), type := 0, pos := "ref.go:238", after := #[{ on := 1, ground := Ground.data }], guard := none }, { dst := some 51, op := Op.fieldAddr 49 (Operand.tmp 50) 3, type := 0, pos := "ref.go:238", after := #[{ on := 2, ground := Ground.data }], guard := none }, { dst := some 52, op := Op.load 36 (Operand.tmp 51), type := 36, pos := "ref.go:238", after := #[{ on := 3, ground := Ground.data }], guard := none }, { dst := some 53, op := Op.load 29 (Operand.tmp 3), type := 29, pos := "ref.go:238", after := #[], guard := none }, { dst := some 54, op := Op.call { callee := Callee.value (Operand.func 50), args := #[Operand.tmp 52, Operand.tmp 53], argTypes := #[36, 29] }, type := 36, pos := "ref.go:238", after := #[{ on := 4, ground := Ground.data }, { on := 5, ground := Ground.data }], guard := none }, { dst := some 55, op := Op.nilCheck (Operand.tmp 48), type := 0, pos := "ref.go:238", after := #[{ on := 0, ground := Ground.data }, { on := 0, ground := Ground.phase }, { on := 1, ground := Ground.phase }, { on := 2, ground := Ground.phase }, { on := 3, ground := Ground.phase }, { on := 4, ground := Ground.phase }, { on := 5, ground := Ground.phase }, { on := 6, ground := Ground.phase }], guard := none }, { dst := some 56, op := Op.fieldAddr 49 (Operand.tmp 55) 3, type := 0, pos := "ref.go:238", after := #[{ on := 7, ground := Ground.data }, { on := 0, ground := Ground.phase }, { on := 1, ground := Ground.phase }, { on := 2, ground := Ground.phase }, { on := 3, ground := Ground.phase }, { on := 4, ground := Ground.phase }, { on := 5, ground := Ground.phase }, { on := 6, ground := Ground.phase }], guard := none }]) (o := { dst := none, op := Op.store 36 (Operand.tmp 56) (Operand.tmp 54), type := 0, pos := "ref.go:238", after := #[{ on := 8, ground := Ground.data }, { on := 6, ground := Ground.data }, { on := 6, ground := Ground.chain }, { on := 0, ground := Ground.phase }, { on := 1, ground := Ground.phase }, { on := 2, ground := Ground.phase }, { on := 3, ground := Ground.phase }, { on := 4, ground := Ground.phase }, { on := 5, ground := Ground.phase }, { on := 6, ground := Ground.phase }], guard := none }) rfl (by kernel_rfl) (by kernel_rfl) (by kernel_rfl) (hS.out _ HBD.out) (fun hHeld => ?_)
              refine takes [0, 1, 2, 3, 4, 5] 3 (by kernel_rfl) (by assumption) ?_
              iterate 6 (refine tkY rfl (fun _ _ _ h => h) rfl (by ((intro w hSw); (try dsimp only at hSw); go_simp; (try with_reducible rfl))) ?_; try simp only [Act.put, List.setIfInBounds_toArray, List.set_cons_zero, List.set_cons_succ])
              refine tkE ?_
              refine wpAnyH_ready (rs := [6]) (by kernel_rfl) (by simp) ?_
              refine readyC rfl (fun K hK => ?_) ?_
              ·
                go_simp
                go_at_call 50
                refine HWI.out.mono ?_
                rintro e w9 ⟨o, rfl, A2, c2, rfl, ho, hf, hb⟩
                have HO9 := Lib.hid ho
                have HF9 := Lib.hid hf
                have HB9 := Lib.hid hb
                clear ho hf hb
                have HD9 := Lib.hid (HRD.out.blk.below HB9.out HRD.out.blk.lt)
                go_wp2_with fail
                refine hK.out _ _ (hS.out _ (HBD.out.trans (HB9.out.mono HBD.out.size))) (fun hHeld => ?_)
                clear hK K
                try simp only [Act.put, List.setIfInBounds_toArray, List.set_cons_zero, List.set_cons_succ]
                refine takes [7, 8] 0 (by kernel_rfl) (by assumption) ?_
                iterate 2 (refine tkY rfl (fun _ _ _ h => h) rfl (by ((intro w hSw); (try dsimp only at hSw); go_simp; (try with_reducible rfl))) ?_; try simp only [Act.put, List.setIfInBounds_toArray, List.set_cons_zero, List.set_cons_succ])
                refine tkE ?_
                refine wpAnyH_done (by kernel_rfl) ?_ _
                have HF := Lib.hid (HRD.out.setP HB9.out HO9.out HF9.out (by have := ins_len (lt := ol) (x := id) q.prep; have := HPL.out; omega))
                have f4 := HD9.out.frozen 3
                have z4 := hHeld.1
                refine withLast_go (fun K hK => ?_)
                clear hHeld
                go_simp
                refine hK _ _ ?_
                clear hK K f4 z4
                obtain ⟨w17, hw17⟩ : ∃ w17, w17 = w9.setCells g 3 [.slice A2 (ins ol id q.prep).length c2] := ⟨_, rfl⟩
                rw [← hw17] at HF
                have hw17b : w9.setCell ⟨g, 3, none⟩ (.slice A2 (ins ol id q.prep).length c2) = w17 := hw17.symm
                rw [hw17b]
                clear hw17 hw17b
                go_wp2
                go_ret
                exact ⟨ret_int HR.out.symm, _, by rw [prepT_yes HR.out]; exact HF.out.1, Moves.below_left (HB6.out.trans (HBD.out.mono HB6.out.size)) HF.out.2⟩
              exact AllReadyH.nil
            exact AllReadyH.nil
end Go.Proofs.YtpidpdbjjdkhoaaGreat
