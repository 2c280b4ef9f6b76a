/- The reference's log: Compact. -/
import Derived.Test.YtdcnfdhhflmdcaaLogB
import Derived.Deep.RegionLaw
namespace Go.Proofs.Ytdcnfdhhflmdcaa
open Go.RowKit
set_option linter.unusedSimpArgs false
set_option linter.unusedVariables false

set_option maxHeartbeats 4000000 in
theorem rcompact_any (d : Nat) (F : List Nat) (b t : Int) (l : List Ent) (i : Int) (w : World) (hL : IsLog 74 w d F b t l) :
    Calls Try.prog 27 #[.pointer (some ⟨d, 0, none⟩), .int .i64 i] w (CompEnds 74 d F b t l i w) := by
  obtain ⟨A, c, ms, hG, rfl, rfl⟩ := hL
  have HT := Lib.hid (rterm_any d b t A c ms i w hG.ref_)
  have HG := Lib.hid hG
  have x0 : w.cell? ⟨d, 0, none⟩ = some (.int .i64 b) := hG.blk.cell 0
  have x2 : w.cell? ⟨d, 2, none⟩ = some (.slice A ms.length c) := hG.blk.cell 2
  have hb0 := hG.b0
  have hb1 := hG.b1
  obtain ⟨hcl, hcm⟩ := own_cap hG.own.row
  have hfew := hG.few
  have hel := es_len ms
  unfold TermEnds at HT
  by_cases h0 : termE b (es ms) i = 0
  · obtain ⟨hi1, hi2⟩ := termE_zero.1 h0
    rw [hel] at hi2
    obtain ⟨k, hk⟩ := Int.eq_ofNat_of_zero_le (show 0 ≤ i - b by omega)
    have hkl : k ≤ ms.length := by omega
    have HV : Hid (compB b (es ms) i = i ∧ compT b t (es ms) i = termV b t (es ms) i ∧ compL b (es ms) i = (es ms).drop k) := Lib.hid (by unfold compB compT compL; rw [if_pos h0, if_pos h0, if_pos h0, hk, Int.toNat_natCast]; exact ⟨rfl, rfl, rfl⟩)
    have HE0 := Lib.hid h0
    rw [h0] at HT
    obtain ⟨tv, htv⟩ : ∃ tv, tv = termV b t (es ms) i := ⟨_, rfl⟩
    rw [← htv] at HT HV
    obtain rfl : i = b + k := by omega
    have kL : (0 : Int) ≤ (k : Int) := by omega
    have kU : (k : Int) ≤ (ms.length : Int) := by omega
    have kC : (ms.length : Int) ≤ (c : Int) := by omega
    obtain ⟨A2, hif⟩ : ∃ A2, (if c = k then A else Option.map (fun x => x.add (k * 13)) A) = A2 := ⟨_, rfl⟩
    have hE := HG.out.own.ents.cut hkl hcl
    rw [hif, List.length_drop] at hE
    clear htv h0 hel hk hG hi1 hi2
    go_enter Try.func27, Try.ntmps27
    go_wp2_with fail
    refine HT.out.mono ?_
    rintro e w' ⟨rfl, q, rfl⟩
    obtain ⟨wa, hwa⟩ : ∃ wa, wa = w.drewN q := ⟨_, rfl⟩
    have hba : Below w.heap.size w wa := by rw [hwa]; exact below_drewN (Below.refl _ _) q
    have hGd : Lg 74 wa.drew d A c b t ms := by rw [hwa]; exact HG.out.drewN (q + 1)
    have hEd : Ents wa.drew wa.drew.heap.size A2 (ms.length - k) (ms.drop k) := by rw [hwa]; exact hE.drewN (q + 1)
    have hsz : wa.drew.heap.size = w.heap.size := by rw [hwa]; rfl
    have HSZ := Lib.hid hsz
    have y0 : wa.cell? ⟨d, 0, none⟩ = some (.int .i64 b) := hGd.blk.cell 0
    have y2 : wa.cell? ⟨d, 2, none⟩ = some (.slice A ms.length c) := hGd.blk.cell 2
    obtain ⟨i0, hi0, hz0, hy0, hx0⟩ := info_parts Try.infoE
    have hba2 := below_alloc wa.drew (.cells #[] 37)
    have hfresh : (wa.drew.alloc (.cells #[] 37)).ownsRow 0 37 13 (.slice (some ⟨wa.heap.size, 0, none⟩) 0 0) 0 [] := World.ownsRow_made wa.drew #[] 0 (Nat.zero_le _) (by simp [maxLen]) rfl
    have hsrc := Src.ofReads (P := Try.prog) (c := c - k) Try.underlying41 ((hEd.below hba2).row) (mc_one _)
    have hsub : ms.length - k ≤ 512 := by omega
    have yA0 : (wa.drew.alloc (.cells #[] 37)).cell? ⟨d, 0, none⟩ = some (.int .i64 b) := (hba2.cell (p := ⟨d, 0, none⟩) hGd.blk.lt).trans (hGd.blk.cell 0)
    have yA2 : (wa.drew.alloc (.cells #[] 37)).cell? ⟨d, 2, none⟩ = some (.slice A ms.length c) := (hba2.cell (p := ⟨d, 2, none⟩) hGd.blk.lt).trans (hGd.blk.cell 2)
    have yB0 : (wa.alloc (.cells #[] 37)).cell? ⟨d, 0, none⟩ = some (.int .i64 b) := yA0
    have yB2 : (wa.alloc (.cells #[] 37)).cell? ⟨d, 2, none⟩ = some (.slice A ms.length c) := yA2
    have HGD := Lib.hid hGd
    have hdl : d < wa.drew.heap.size := hGd.blk.lt
    rw [← hwa]
    have HW := Lib.hid hwa
    clear x0 x2 hwa hEd hE hsz hGd HT
    have e2 : IntKind.i64.wrap (b + (k : Int) - b) = (k : Int) := by rw [IntKind.wrap_i64] <;> omega
    go_wp2
    go_region_law
      ((refine step_app rfl (.tmp 17) (.tmp 28) 41 41 (by rfl) 37 i0 (.agg #[.int .i64 0, .int .i64 0, .int .i64 0, .int .i64 0, .int .i64 0, .string ⟨#[]⟩, .int .i64 0, .slice none 0 0, .slice none 0 0, .int .i64 0, .int .i64 0, .int .i64 0, .int .i64 0]) 13 144 Try.underlying41 hi0 hz0 hy0 hx0 rfl (by omega) (some ⟨wa.heap.size, 0, none⟩) 0 0 [] (by rfl) hfresh (.slice A2 (ms.length - k) (c - k)) (ms.length - k) (mc (ms.drop k)) (by rfl) hsrc (by simp only [maxLen]; omega) (by omega) ?_; intro A3 c3 w1 hown1 hk1 hf1; rw [Nat.zero_add, List.nil_append] at hown1; have hb1 : Below wa.drew.heap.size wa.drew w1 := hba2.trans (hk1.below hba2.size (fun x hx => Nat.le_of_eq (List.mem_singleton.1 hx).symm)); have hbk := HGD.out.blk.below hb1 hdl; have f0 := hbk.frozen 0; have f1 := hbk.frozen 1; have f2 := hbk.frozen 2; have y01 : w1.cell? ⟨d, 0, none⟩ = some (.int .i64 b) := hbk.cell 0; have y11 : w1.cell? ⟨d, 1, none⟩ = some (.int .i64 t) := hbk.cell 1; have y21 : w1.cell? ⟨d, 2, none⟩ = some (.slice A ms.length c) := hbk.cell 2; have HF1 := Lib.hid hf1; clear hf1))
    all_goals
      go_wp2
      go_ret
      have hl : (ms.drop k).length = ms.length - k := List.length_drop
      have hbw : Below w.heap.size w w1 := (below_drewN hba 1).trans (hb1.mono (by rw [HSZ.out]; exact Nat.le_refl _))
      have hobA : ∀ x ∈ ob A3, w.heap.size ≤ x := fun x hx => by
        rw [← HSZ.out]
        rcases HF1.out x hx with h | h
        · exact Nat.le_of_eq (List.mem_singleton.1 h).symm
        · exact Nat.le_trans (hba2.size) h
      have hrows : ∀ x ∈ rows (ms.drop k), x ∈ fpE A ms := fun x hx => by
        obtain ⟨m, hm, h2⟩ := mem_rows.1 hx
        exact List.mem_append.2 (.inr (mem_rows.2 ⟨m, List.mem_of_mem_drop hm, h2⟩))
      have hO3 : OwnE w1 0 A3 c3 (ms.drop k) := ⟨by rw [hl]; exact hown1, fun m hm => (HGD.out.own.fine m (List.mem_of_mem_drop hm)).below hb1, fun x _ => Nat.zero_le x⟩
      unfold CompEnds
      rw [HE0.out, HV.out.1, HV.out.2.1, HV.out.2.2, ← es_drop]
      refine ⟨rfl, lg_replace (b' := b + k) (t' := tv) HG.out hbw hO3 (fun x hx => ?_) (fun hm => ?_) ?_ ?_ (by omega) (by rw [hl]; omega) (by rw [hl]; omega) (fun m hm => HG.out.small m (List.mem_of_mem_drop hm))⟩
      · exact (List.mem_append.1 hx).elim (fun h => .inr (hobA x h)) (fun h => .inl (hrows x h))
      · rcases List.mem_append.1 hm with h | h
        · have := hobA d h; rw [HSZ.out] at hdl; omega
        · exact HG.out.far (by decide) (hrows d h)
      · exact (((Kept.refl [d] w1).setCell _ (.inl (by simp))).setCell _ (.inl (by simp))).setCell _ (.inl (by simp))
      · rw [hl]
        exact ((hbk.set_ 2 (.slice A3 (ms.length - k) c3)).set_ 0 (.int .i64 (b + k))).set_ 1 (.int .i64 tv)
  · have HV : Hid (compB b (es ms) i = b ∧ compT b t (es ms) i = t ∧ compL b (es ms) i = es ms) := Lib.hid (by unfold compB compT compL; rw [if_neg h0, if_neg h0, if_neg h0]; exact ⟨rfl, rfl, rfl⟩)
    unfold CompEnds
    generalize termE b (es ms) i = E at *
    generalize termV b t (es ms) i = V at *
    have z0 : (E != 0) = true := bne_iff_ne.2 h0
    have z1 : (E == 0) = false := beq_eq_false_iff_ne.2 h0
    clear hel hG
    go_enter Try.func27, Try.ntmps27
    go_wp2_with fail
    refine HT.out.mono ?_
    rintro e w' ⟨rfl, q, rfl⟩
    go_wp2
    go_ret
    rw [HV.out.1, HV.out.2.1, HV.out.2.2]
    exact ⟨rfl, _, ⟨A, c, ms, HG.out.drewN q, rfl, rfl⟩, ⟨(Kept.refl _ _).drewN q, fun k hk => .inl hk⟩⟩
end Go.Proofs.Ytdcnfdhhflmdcaa
