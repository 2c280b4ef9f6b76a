/- Locks, the reference: Edges. -/
import Derived.Test.YtpidpdbjjdkhoaaGreatGzG
namespace Go.Proofs.YtpidpdbjjdkhoaaGreat
open Go.RowKit
set_option linter.unusedSimpArgs false
set_option linter.unusedVariables false
attribute [local go_sem ↓] Go.wp_at_zero Go.wp_at_succ

theorem reads_one {α : Type} (R : RowT α) (x : α) (t : TypeId) (w : World) : Reads (w.alloc (.cells (R.cells x).toArray t)).drew (w.alloc (.cells (R.cells x).toArray t)).heap.size R.sz (some ⟨w.heap.size, 0, none⟩) 1 (R.cells x) :=
  ⟨by rw [R.len, Nat.one_mul], fun _ => ⟨_, rfl, (Blk.new w t (R.cells x).toArray).lt, fun j u hu => by
    rw [Addr.add_lit, Nat.zero_add]
    exact ((Blk.new w t (R.cells x).toArray).drew.cell j).trans (by simpa using hu)⟩⟩
theorem OutAt.app2 {α : Type} {R : RowT α} {t : TypeId} {w w7 w8 w3 : World} {E : List α} {A A3 : Option Addr} {k3 : Nat} {x : α} (hf : ∀ x ∈ ob A, w.heap.size ≤ x) (hb7 : Below w.heap.size w w7) (hb : Below w.heap.size w w8)
    (hown : w3.ownsRow 0 t R.sz (.slice A3 (E.length + 1) k3) (E.length + 1) (rc R (E ++ [x]))) (hk : Kept (ob A) w8 w3) (hf3 : ∀ k ∈ ob A3, k ∈ ob A ∨ w8.heap.size ≤ k) :
    OutAt R t w (E ++ [x]) (.slice A3 (E.length + 1) k3) w3 := by
  have hl : E.length + 1 = (E ++ [x]).length := by simp
  rw [hl] at hown ⊢
  refine ⟨A3, k3, rfl, hown, fun k hk' => ?_, hb.trans (hk.below hb.size hf)⟩
  rcases hf3 k hk' with h | h
  · exact hf k h
  · have := hb.size
    omega
def ReRel (q : Tb) (w : World) (o i : Value) (wr : World) : Prop := ∃ k : Nat, i = .int .i64 k ∧ k ≤ q.wait.length ∧ OutAt edR 66 w ((q.wait.take k).flatMap (edI q.held)) o wr
def RiRel (q : Tb) (w : World) (y : Lk) (k : Nat) (o i : Value) (wr : World) : Prop := ∃ j : Nat, i = .int .i64 j ∧ j ≤ q.held.length ∧ OutAt edR 66 w ((q.wait.take k).flatMap (edI q.held) ++ edI (q.held.take j) y) o wr
set_option maxHeartbeats 16000000 in
set_option maxRecDepth 100000 in
theorem redges_any {w : World} {g : Nat} {q : Tb} {n : TbM} (h : RfAt w g q n) (hgd : Good q) : Calls Tryz.prog 28 #[.pointer (some ⟨g, 0, none⟩)] w (NewRow edR 66 (edges q) w) := by
  obtain ⟨i0, hi0, hz0, hy0, hx0⟩ := info_parts Tryz.infoEd
  have HH := Lib.hid h
  have HGD := Lib.hid hgd
  have hfh := h.fh
  have hgl := h.blk.lt
  clear h hgd
  go_enter Tryz.func28, Tryz.ntmps28
  go_wp2
  go_loopw [3, 4] (ReRel q w) (fun _ i _ => q.wait.length - (intOf i).toNat)
  case atStart => exact ⟨0, rfl, Nat.zero_le _, OutAt.none_ w⟩
  case round =>
    obtain ⟨k, rfl, hk, hEA⟩ := hrel
    have HEA := Lib.hid hEA
    have y2 : wr.cell? ⟨g, 2, none⟩ = some (.slice n.aw q.wait.length n.cw) := (HH.out.below hEA.bel).c2
    clear hEA
    by_cases hlt : k < q.wait.length
    · have HGY : Hid (q.wait[k]? = some (gr lkR q.wait k)) := Lib.hid (gr_get hlt)
      have HMY := Lib.hid (gr_mem (R := lkR) hlt)
      obtain ⟨bw, ow, hAw, hcw⟩ := rowL (Reads.of_own HH.out.ow) (by omega)
      have hcwk := hcw k hlt
      obtain ⟨y, hy⟩ : ∃ y, y = gr lkR q.wait k := ⟨_, rfl⟩
      rw [← hy] at hcwk HGY HMY
      have HCW := Lib.hid hcwk
      have HAW := Lib.hid hAw
      have kL : (0 : Int) ≤ (k : Int) := by omega
      have kU : (k : Int) < (q.wait.length : Int) := by omega
      clear hcw hcwk hy hAw
      obtain ⟨wo, hwo⟩ : ∃ wo, wo = wr := ⟨_, rfl⟩
      rw [← hwo] at HEA y2 ⊢
      clear hwo
      go_wp2
      clear y2
      go_loopw [3, 5] (RiRel q w y k) (fun _ i _ => q.held.length - (intOf i).toNat)
      case atStart => exact ⟨0, rfl, Nat.zero_le _, by simpa [edI] using HEA.out⟩
      case round =>
        clear HEA
        obtain ⟨j, rfl, hj, A1, c1, rfl, ho, hf, hb⟩ := hrel
        have HO := Lib.hid ho
        have HFR := Lib.hid hf
        have HBR := Lib.hid hb
        have hlen := eds_all (j := j) (w := y) hlt hfh
        obtain ⟨E, hE⟩ : ∃ E, E = (q.wait.take k).flatMap (edI q.held) ++ edI (q.held.take j) y := ⟨_, rfl⟩
        rw [← hE] at HO hlen
        rw [← hE]
        have HE := Lib.hid hE
        have y1 : wr.cell? ⟨g, 1, none⟩ = some (.slice n.ah q.held.length n.ch) := (HH.out.below hb).c1
        clear ho hf hb hE
        by_cases hlj : j < q.held.length
        · obtain ⟨bh, oh, hAh, hch⟩ := rowL (Reads.of_own HH.out.oh) (by omega)
          have hchk := hch j hlj
          rw [hAh] at y1
          have HGZ : Hid (q.held[j]? = some (gr lkR q.held j)) := Lib.hid (gr_get hlj)
          have HMZ := Lib.hid (gr_mem (R := lkR) hlj)
          obtain ⟨z, hz⟩ : ∃ z, z = gr lkR q.held j := ⟨_, rfl⟩
          rw [← hz] at hchk HGZ HMZ
          have HCH := Lib.hid hchk
          have HON := Lib.hid (edI_on (w := y) HGZ.out)
          have jL : (0 : Int) ≤ (j : Int) := by omega
          have jU : (j : Int) < (q.held.length : Int) := by omega
          have HBD : Hid (Below w.heap.size w wr.drew) := Lib.hid (HBR.out.trans ((below_drewN (Below.refl wr.heap.size wr) 1).mono HBR.out.size))
          have HCF := Lib.hid (fun w => rconf_any y z w)
          unfold lkV at HCF
          have HCC : Hid (confR y z = conf y z) := Lib.hid (confR_eq (sound_mode (HGD.out.ws y HMY.out)) (sound_mode (HGD.out.hs z HMZ.out)))
          have hS : Hid (∀ w', Below w.heap.size w w' → (w'.cell? ⟨g, 2, none⟩ = some (.slice (some ⟨bw, ow, none⟩) q.wait.length n.cw) ∧ w'.cell? ⟨bw, ow + k * 4, none⟩ = some (.string y.key) ∧ w'.cell? ⟨bw, ow + k * 4 + 1, none⟩ = some (.int .i64 y.id.n) ∧ w'.cell? ⟨bw, ow + k * 4 + 2, none⟩ = some (.int .i64 y.id.c) ∧ w'.cell? ⟨bw, ow + k * 4 + 3, none⟩ = some (.int .i64 y.mode) ∧ w'.cell? ⟨g, 1, none⟩ = some (.slice (some ⟨bh, oh, none⟩) q.held.length n.ch) ∧ w'.cell? ⟨bh, oh + j * 4, none⟩ = some (.string z.key) ∧ w'.cell? ⟨bh, oh + j * 4 + 1, none⟩ = some (.int .i64 z.id.n) ∧ w'.cell? ⟨bh, oh + j * 4 + 2, none⟩ = some (.int .i64 z.id.c) ∧ w'.cell? ⟨bh, oh + j * 4 + 3, none⟩ = some (.int .i64 z.mode))) := Lib.hid (fun w' hb2 => by
            have h1 := (HH.out.below hb2).c1
            have h2 := (HH.out.below hb2).c2
            rw [hAh] at h1
            rw [HAW.out] at h2
            obtain ⟨a0, a1, a2, a3⟩ := HCW.out w' hb2
            obtain ⟨b0, b1, b2, b3⟩ := HCH.out w' hb2
            exact ⟨h2, a0, a1, a2, a3, h1, b0, b1, b2, b3⟩)
          clear hz hch hchk
          cases hcf : confR y z with
          | false =>
            have HX : Hid ((q.wait.take k).flatMap (edI q.held) ++ edI (q.held.take (j + 1)) y = E) := Lib.hid (by rw [HE.out, HON.out, ← HCC.out, hcf]; simp)
            go_wp2_with fail
            refine wp_region_heldH (by kernel_rfl) hS (HBD.out) (fun hHeld => ?_)
            refine takes [0, 1, 2, 3, 4, 5, 6, 7, 8, 9, 10, 11, 12, 13] 1 (by kernel_rfl) (by assumption) ?_
            iterate 14 (refine tkY rfl (fun _ _ _ h => h) rfl (by ((intro w hSw); (try dsimp only at hSw); go_simp; (try with_reducible rfl))) ?_; try simp only [Act.put, List.setIfInBounds_toArray, List.set_cons_zero, List.set_cons_succ])
            refine tkE ?_
            refine wpAnyH_ready (rs := [14]) (by kernel_rfl) (by simp) ?_
            refine readyC rfl (fun K hK => ?_) ?_
            ·
              go_simp
              go_at_call 47
              refine (HCF.out _).mono ?_
              rintro e w6 ⟨he_, hb_⟩
              rw [hcf] at he_
              subst he_
              have HB6 : Hid (Below w.heap.size w w6) := Lib.hid (HBD.out.trans (hb_.mono HBD.out.size))
              have HB6r : Hid (Below wr.heap.size wr w6) := Lib.hid ((below_drewN (Below.refl wr.heap.size wr) 1).trans (hb_.mono (Nat.le_refl _)))
              clear hb_
              go_wp2_with fail
              refine hK.out _ _ (by with_reducible exact hS.out _ HB6.out) (fun hHeld => ?_)
              clear hK K
              try simp only [Act.put, List.setIfInBounds_toArray, List.set_cons_zero, List.set_cons_succ]
              refine wpAnyH_done (by kernel_rfl) ?_ _
              go_wp2
              go_roundw
              case rel =>
                refine ⟨j + 1, by go_num, by omega, ?_⟩
                rw [HX.out]
                exact OutAt.below ⟨A1, c1, rfl, HO.out, HFR.out, HBR.out⟩ HB6r.out
              case measure => simp [intOf]; omega
            exact AllReadyH.nil
          | true =>
            have HX : Hid ((q.wait.take k).flatMap (edI q.held) ++ edI (q.held.take (j + 1)) y = E ++ [⟨y.key, y.id, z.id⟩]) := Lib.hid (by rw [HE.out, HON.out, ← HCC.out, hcf]; simp)
            go_wp2_with fail
            refine wp_region_heldH (by kernel_rfl) hS (HBD.out) (fun hHeld => ?_)
            refine takes [0, 1, 2, 3, 4, 5, 6, 7, 8, 9, 10, 11, 12, 13] 1 (by kernel_rfl) (by assumption) ?_
            iterate 14 (refine tkY rfl (fun _ _ _ h => h) rfl (by ((intro w hSw); (try dsimp only at hSw); go_simp; (try with_reducible rfl))) ?_; try simp only [Act.put, List.setIfInBounds_toArray, List.set_cons_zero, List.set_cons_succ])
            refine tkE ?_
            refine wpAnyH_ready (rs := [14]) (by kernel_rfl) (by simp) ?_
            refine readyC rfl (fun K hK => ?_) ?_
            ·
              go_simp
              go_at_call 47
              refine (HCF.out _).mono ?_
              rintro e w6 ⟨he_, hb_⟩
              rw [hcf] at he_
              subst he_
              have HB6 : Hid (Below w.heap.size w w6) := Lib.hid (HBD.out.trans (hb_.mono HBD.out.size))
              have HB6r : Hid (Below wr.heap.size wr w6) := Lib.hid ((below_drewN (Below.refl wr.heap.size wr) 1).trans (hb_.mono (Nat.le_refl _)))
              clear hb_
              go_wp2_with fail
              refine hK.out _ _ (by with_reducible exact hS.out _ HB6.out) (fun hHeld => ?_)
              clear hK K
              try simp only [Act.put, List.setIfInBounds_toArray, List.set_cons_zero, List.set_cons_succ]
              refine wpAnyH_done (by kernel_rfl) ?_ _
              obtain ⟨w7, hnm⟩ : ∃ w7 : World, w7 = w6 := ⟨_, rfl⟩
              rw [← hnm] at HB6 HB6r ⊢
              clear hnm
              have HBD7 : Hid (Below w.heap.size w w7.drew) := Lib.hid (HB6.out.trans ((below_drewN (Below.refl w7.heap.size w7) 1).mono HB6.out.size))
              have HO7 : Hid (w7.drew.ownsRow 0 66 5 (.slice A1 E.length c1) E.length (rc edR E)) := Lib.hid ((Kept.of_below (S := []) (HB6r.out.trans ((below_drewN (Below.refl w7.heap.size w7) 1).mono HB6r.out.size))).own HO.out (by simp))
              have hba0 := below_alloc w7 (.cells #[.string y.key, .int .i64 y.id.n, .int .i64 y.id.c, .int .i64 z.id.n, .int .i64 z.id.c] 66)
              have hba1 : Below w7.heap.size w7 (w7.alloc (.cells #[.string y.key, .int .i64 y.id.n, .int .i64 y.id.c, .int .i64 z.id.n, .int .i64 z.id.c] 66)).drew := hba0.trans ((below_drewN (Below.refl _ _) 1).mono hba0.size)
              have HBA : Hid (Below w.heap.size w (w7.alloc (.cells #[.string y.key, .int .i64 y.id.n, .int .i64 y.id.c, .int .i64 z.id.n, .int .i64 z.id.c] 66)).drew) := Lib.hid (HB6.out.trans (hba1.mono HB6.out.size))
              have HOA : Hid ((w7.alloc (.cells #[.string y.key, .int .i64 y.id.n, .int .i64 y.id.c, .int .i64 z.id.n, .int .i64 z.id.c] 66)).drew.ownsRow 0 66 5 (.slice A1 E.length c1) E.length (rc edR E)) := Lib.hid ((Kept.of_below (S := []) (HB6r.out.trans (hba1.mono HB6r.out.size))).own HO.out (by simp))
              have HSR : Hid (Src Tryz.prog 5 57 (.slice (some ⟨w7.heap.size, 0, none⟩) 1 1) 1 (edR.cells ⟨y.key, y.id, z.id⟩) (w7.alloc (.cells #[.string y.key, .int .i64 y.id.n, .int .i64 y.id.c, .int .i64 z.id.n, .int .i64 z.id.c] 66)).drew) := Lib.hid (Src.ofReads Tryz.underlying57 (reads_one edR ⟨y.key, y.id, z.id⟩ 66 w7) (edR.one _))
              clear hba1 hba0
              go_wp2_with fail
              refine wp_region_heldH (by kernel_rfl) hS (HBD7.out) (fun hHeld => ?_)
              refine takes [0, 1, 2, 3, 4, 5, 6, 7, 8, 9, 10, 11, 12, 13, 14, 15, 16, 17, 18, 19, 20, 21, 22, 23, 24, 25] 3 (by kernel_rfl) (by assumption) ?_
              iterate 26 (refine tkY rfl (fun _ _ _ h => h) rfl (by ((intro w hSw); (try dsimp only at hSw); go_simp; (try with_reducible rfl))) ?_; try simp only [Act.put, List.setIfInBounds_toArray, List.set_cons_zero, List.set_cons_succ])
              refine tkE ?_
              refine wpAnyH_ready (rs := [26]) (by kernel_rfl) (by simp) ?_
              refine readyC rfl (fun K hK => ?_) ?_
              ·
                go_simp
                refine hK.out _ _ (by with_reducible exact hS.out _ HBA.out) (fun hHeld => ?_)
                clear hK K
                try simp only [Act.put, List.setIfInBounds_toArray, List.set_cons_zero, List.set_cons_succ]
                refine wpAnyH_ready (rs := [27]) (by kernel_rfl) (by simp) ?_
                refine readyC rfl (fun K hK => ?_) ?_
                ·
                  refine step_app rfl (.tmp 39) (.tmp 65) 57 57 (by rfl) 66 i0 _ 5 48 Tryz.underlying57 hi0 hz0 hy0 hx0 rfl (by omega) A1 E.length c1 (rc edR E) (by rfl) HOA.out _ 1 (edR.cells ⟨y.key, y.id, z.id⟩) (by rfl) HSR.out (by simp only [maxLen]; omega) (by omega) ?_
                  intro A3 k3 w3 hown3 hk3 hf3
                  rw [rc_snoc] at hown3
                  have HN := Lib.hid (OutAt.app2 (R := edR) HFR.out HB6.out HBA.out hown3 hk3 hf3)
                  have HBN := Lib.hid HN.out.bel
                  refine hK.out _ _ (hS.out _ HBN.out) (fun hHeld => ?_)
                  clear hK K
                  try simp only [Act.put, List.setIfInBounds_toArray, List.set_cons_zero, List.set_cons_succ]
                  refine takes [28] 0 (by kernel_rfl) (by assumption) ?_
                  refine tkY rfl (fun _ _ _ h => h) rfl (by ((intro w hSw); (try dsimp only at hSw); go_simp; (try with_reducible rfl))) ?_; try simp only [Act.put, List.setIfInBounds_toArray, List.set_cons_zero, List.set_cons_succ]
                  refine tkE ?_
                  refine wpAnyH_done (by kernel_rfl) ?_ _
                  go_wp2
                  go_roundw
                  case rel =>
                    refine ⟨j + 1, by go_num, by omega, ?_⟩
                    rw [HX.out]
                    exact HN.out
                  case measure => simp [intOf]; omega
                exact AllReadyH.nil
              exact AllReadyH.nil
            exact AllReadyH.nil
        · have jU : ¬ (j : Int) < (q.held.length : Int) := by omega
          have HX : Hid ((q.wait.take (k + 1)).flatMap (edI q.held) = E) := Lib.hid (by rw [HE.out, show j = q.held.length by omega, eds_end HGY.out])
          go_wp2
          go_roundw
          case rel =>
            refine ⟨k + 1, by go_num, by omega, ?_⟩
            rw [HX.out]
            exact ⟨A1, c1, rfl, HO.out, HFR.out, HBR.out⟩
          case measure => simp [intOf]; omega
    · have kU : ¬ (k : Int) < (q.wait.length : Int) := by omega
      have HX : Hid ((q.wait.take k).flatMap (edI q.held) = edges q) := Lib.hid (by rw [show k = q.wait.length by omega, List.take_length, edges_eq])
      rw [HX.out] at HEA
      obtain ⟨A1, c1, rfl, ho, hf, hb⟩ := HEA.out
      have HN : Hid (OutAt edR 66 w (edges q) (.slice A1 (edges q).length c1) wr) := Lib.hid ⟨A1, c1, rfl, ho, hf, hb⟩
      clear ho hf hb HEA
      go_wp2
      go_ret
      exact ⟨_, rfl, HN.out⟩
end Go.Proofs.YtpidpdbjjdkhoaaGreat
