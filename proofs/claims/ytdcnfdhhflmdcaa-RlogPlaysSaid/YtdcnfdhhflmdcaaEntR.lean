/- the reference's Append. -/
import Derived.Test.YtdcnfdhhflmdcaaEntQ
import Derived.Deep.RegionLaw
namespace Go.Proofs.Ytdcnfdhhflmdcaa
open Go.RowKit
set_option linter.unusedSimpArgs false
set_option linter.unusedVariables false

set_option maxHeartbeats 4000000 in
theorem rappend_any (d : Nat) (F : List Nat) (b t : Int) (l : List Ent) (m : MEnt) (w : World) (hL : IsLog 74 w d F b t l) (hf : Fine w w.heap.size m) (hs : SmallE m) :
    Calls Try.prog 25 #[.pointer (some ⟨d, 0, none⟩), magg m] w (AppEnds 74 d F b t l m.e w) := by
  obtain ⟨i0, hi0, hz0, hy0, hx0⟩ := info_parts Try.infoE
  obtain ⟨A, c, ms, hG, rfl, rfl⟩ := hL
  have hba := below_alloc w (.cells (mcell m).toArray 37)
  have hG1 := hG.below hba
  have kx := Blk.new w 37 (mcell m).toArray
  have x0 : (w.alloc (.cells (mcell m).toArray 37)).cell? ⟨w.heap.size, 0, none⟩ = some (.int .i64 m.e.term) := kx.cell 0
  have HLast := Lib.hid (rlast_any d b t A c ms _ hG1.ref_)
  have hbd := lastI_bd (l := es ms) hG.b0 (by have := hG.b1; omega) (by rw [es_len]; exact hG.few)
  unfold LastEnds at HLast
  have HNX := Lib.hid (fun w => rnumber_any m.e.term w)
  have hfew := hG.few
  have HQ : Hid (appE b t (es ms) m.e = if numB m.e.term = false then 2 else if m.e.term < lastT b t (es ms) then 2 else if lastI b (es ms) = 1099511627776 then 2 else if ms.length = 512 then 131 else 0) := Lib.hid (by unfold appE; rw [es_len])
  have HN : Hid (appN b t (es ms) m.e = if appE b t (es ms) m.e = 0 then lastI b (es ms) + 1 else 0) := Lib.hid rfl
  have hM : Moves (fpL d A ms) (fpL d A ms) w (w.alloc (.cells (mcell m).toArray 37)) := ⟨Kept.of_below hba, fun k hk => .inl hk⟩
  have HR : Hid (∀ q, appE b t (es ms) m.e ≠ 0 → ∃ F', IsLog 74 ((w.alloc (.cells (mcell m).toArray 37)).drewN q) d F' b t (appL b t (es ms) m.e) ∧ Moves (fpL d A ms) F' w ((w.alloc (.cells (mcell m).toArray 37)).drewN q)) := Lib.hid (fun q he => by
    unfold appL
    rw [if_neg he]
    exact ⟨_, ⟨A, c, ms, hG1.drewN q, rfl, rfl⟩, ⟨hM.kept.drewN q, hM.foot⟩⟩)
  have HG := Lib.hid hG
  have HG1 := Lib.hid hG1
  have HF := Lib.hid (hf.below hba)
  have HS := Lib.hid hs
  have HBA := Lib.hid hba
  have HKX := Lib.hid kx
  obtain ⟨I, hI⟩ : ∃ I, I = lastI b (es ms) := ⟨_, rfl⟩
  obtain ⟨T, hT⟩ : ∃ T, T = lastT b t (es ms) := ⟨_, rfl⟩
  obtain ⟨E, hE⟩ : ∃ E, E = appE b t (es ms) m.e := ⟨_, rfl⟩
  obtain ⟨N, hN⟩ : ∃ N, N = appN b t (es ms) m.e := ⟨_, rfl⟩
  unfold AppEnds
  rw [← hE, ← hI, ← hT] at HQ
  rw [← hE, ← hI, ← hN] at HN
  rw [← hE] at HR
  rw [← hI, ← hT] at HLast
  rw [← hI] at hbd
  rw [← hE, ← hN]
  have HE := Lib.hid hE
  have HI : Hid (I = b + ms.length) := Lib.hid (by rw [hI]; unfold lastI; rw [es_len])
  have HIB := Lib.hid hG.b1
  clear hG hG1 hM hf hs hba kx hI hT hE hN
  unfold magg
  go_enter Try.func25, Try.ntmps25
  go_wp2_with fail
  refine HLast.out.mono ?_
  rintro e w' ⟨rfl, q, rfl⟩
  go_wp2_with fail
  refine (HNX.out _).mono ?_
  rintro e w' ⟨rfl, rfl⟩
  obtain ⟨hbd0, hbd1⟩ := hbd
  cases h1 : numB m.e.term with
  | false =>
    rw [h1, if_pos rfl] at HQ
    have HE2 : Hid (E = 2 ∧ N = 0) := Lib.hid ⟨HQ.out, by rw [HN.out, HQ.out]; rfl⟩
    go_wp2
    go_ret2
    rw [HE2.out.1, HE2.out.2]
    exact ⟨rfl, HR.out q (by rw [HE2.out.1]; decide)⟩
  | true =>
    rw [h1, if_neg (by decide)] at HQ
    by_cases h2 : m.e.term < T
    · rw [if_pos h2] at HQ
      have HE2 : Hid (E = 2 ∧ N = 0) := Lib.hid ⟨HQ.out, by rw [HN.out, HQ.out]; rfl⟩
      have z2 : decide (m.e.term < T) = true := decide_eq_true h2
      go_wp2
      go_ret2
      rw [HE2.out.1, HE2.out.2]
      exact ⟨rfl, HR.out q (by rw [HE2.out.1]; decide)⟩
    · rw [if_neg h2] at HQ
      have z2 : decide (m.e.term < T) = false := decide_eq_false h2
      by_cases h3 : I = 1099511627776
      · rw [if_pos h3] at HQ
        have HE2 : Hid (E = 2 ∧ N = 0) := Lib.hid ⟨HQ.out, by rw [HN.out, HQ.out]; rfl⟩
        have z3 : (I == 1099511627776) = true := by rw [h3]; rfl
        clear h3
        go_wp2
        go_ret2
        rw [HE2.out.1, HE2.out.2]
        exact ⟨rfl, HR.out q (by rw [HE2.out.1]; decide)⟩
      · rw [if_neg h3] at HQ
        have z3 : (I == 1099511627776) = false := beq_eq_false_iff_ne.2 h3
        clear h3
        have y2 : ((w.alloc (.cells (mcell m).toArray 37)).drewN q).cell? ⟨d, 2, none⟩ = some (.slice A ms.length c) := HG1.out.blk.cell 2
        by_cases h4 : ms.length = 512
        · rw [if_pos h4] at HQ
          have HE2 : Hid (E = 131 ∧ N = 0) := Lib.hid ⟨HQ.out, by rw [HN.out, HQ.out]; rfl⟩
          have z4 : decide (512 ≤ (ms.length : Int)) = true := decide_eq_true (by omega)
          clear h4
          go_wp2
          go_ret2
          rw [HE2.out.1, HE2.out.2]
          exact ⟨rfl, HR.out q (by rw [HE2.out.1]; decide)⟩
        · rw [if_neg h4] at HQ
          have HE2 : Hid (E = 0 ∧ N = I + 1) := Lib.hid ⟨HQ.out, by rw [HN.out, HQ.out]; rfl⟩
          have z4 : decide (512 ≤ (ms.length : Int)) = false := decide_eq_false (by omega)
          have hlen : ms.length * 144 + 144 ≤ 140737488355328 := by omega
          obtain ⟨wa, hwa⟩ : ∃ wa, wa = (w.alloc (.cells (mcell m).toArray 37)).drewN q := ⟨_, rfl⟩
          have hwb : Below w.heap.size w wa := by rw [hwa]; exact below_drewN HBA.out q
          have hwn : w.heap.size < wa.heap.size := by rw [hwa]; simp
          have kxa : Blk wa w.heap.size 37 (mcell m).toArray := by rw [hwa]; exact HKX.out.drewN q
          go_wp2
          rw [← hwa] at y2 ⊢
          have HFa : Fine wa.drew wa.drew.heap.size m := by rw [hwa]; exact (HF.out.below (below_drewN (Below.refl _ _) (q + 1))).more (by simp)
          clear hwa
          have HONE := Lib.hid (copy_any m wa.drew HFa HS.out)
          have kxd := kxa.drew
          have HGA := Lib.hid (show Lg 74 wa.drew d A c b t ms from (HG.out.below hwb).drewN 1)
          have hnA : w.heap.size ∉ ob A := fun hm => by have h1 := HG.out.own.lt _ (List.mem_append.2 (.inl hm)); omega
          have hG0 : d < w.heap.size := HG.out.blk.lt
          have y2d : wa.drew.cell? ⟨d, 2, none⟩ = some (.slice A ms.length c) := y2
          obtain ⟨q0, q1, q2, q3, q4, q5, q6, q7, q8, q9, q10, q11, q12⟩ := blk13 kxd
          go_region_law
            (first
              | (go_simp; go_at_call 15; refine HONE.out.mono ?_; rintro e w1 ⟨m', rfl, hme, hOF, hb1⟩; have HME := Lib.hid hme; clear hme; have y2e := (hb1.cell (p := ⟨d, 2, none⟩) (Nat.lt_trans hG0 hwn)).trans y2d; have kxe := kxd.below hb1 hwn; have y2f : (w1.alloc (.cells #[.int .i64 m'.e.term, .int .i64 m'.e.kind, .int .i64 m'.e.idn, .int .i64 m'.e.idc, .int .i64 m'.e.home, .string m'.e.key, .int .i64 m'.e.mode, .slice m'.aw m'.e.ws.length m'.cw, .slice m'.ag m'.e.gs.length m'.cg, .int .i64 m'.e.stamp, .int .i64 m'.e.out, .int .i64 m'.e.code, .int .i64 m'.e.grp] 37)).cell? ⟨d, 2, none⟩ = some (.slice A ms.length c) := (Below.cell (below_alloc w1 (.cells (mcell m').toArray 37)) (p := ⟨d, 2, none⟩) (Nat.lt_of_lt_of_le (Nat.lt_trans hG0 hwn) hb1.size)).trans y2e; have kxf := kxe.alloc (.cells (mcell m').toArray 37); have hlt1 : ∀ m' : MEnt, d < (w1.alloc (.cells (mcell m').toArray 37)).heap.size := (fun m' => by have := hb1.size; rw [World.size_alloc]; have h2 : wa.heap.size ≤ w1.heap.size := this; omega); have hra := ((HGA.out.below hb1).own.row).alloc (.cells (mcell m').toArray 37); unfold magg)
              | (refine step_app rfl (.tmp 37) (.tmp 40) 41 41 (by rfl) 37 i0 (.agg #[.int .i64 0, .int .i64 0, .int .i64 0, .int .i64 0, .int .i64 0, .string ⟨#[]⟩, .int .i64 0, .slice none 0 0, .slice none 0 0, .int .i64 0, .int .i64 0, .int .i64 0, .int .i64 0]) 13 144 Try.underlying41 hi0 hz0 hy0 hx0 rfl (by omega) A ms.length c (mc ms) (by rfl) hra (.slice (some ⟨w1.heap.size, 0, none⟩) 1 1) 1 (mcell m') (by rfl) (Src.ent Try.underlying41 m' 37) (by simp only [maxLen]; omega) (by omega) ?_; intro A3 k3 w3 hown3 hk3 hf3; rw [mc_snoc] at hown3; have y2g := (hk3.cell (p := ⟨d, 2, none⟩) (hlt1 m') (own_ne hra ((HGA.out.below hb1).blk.alloc _) (by decide))).trans y2f; have kxg := hk3.blk kxf hnA; have f3 : w3.frozen? ⟨d, 2, none⟩ = false := (hk3.blk ((HGA.out.below hb1).blk.alloc _) (own_ne hra ((HGA.out.below hb1).blk.alloc _) (by decide))).frozen 2))
          all_goals
            go_wp2
            go_ret2
            rw [HE2.out.1, HE2.out.2]
            have hlg := lg_append (by decide) HG.out (below_drewN hwb 1) hb1 hOF hown3 hk3 hf3 (by omega) (by have h1 := HI.out; have h2 := HIB.out; have h3 : I ≠ 1099511627776 := beq_eq_false_iff_ne.1 z3; omega) (show SmallE m' by unfold SmallE; rw [HME.out]; exact HS.out)
            rw [HME.out] at hlg
            have hap : appL b t (es ms) m.e = es ms ++ [m.e] := by unfold appL; rw [← HE.out, HE2.out.1, if_pos rfl]
            rw [hap]
            exact ⟨rfl, hlg⟩
end Go.Proofs.Ytdcnfdhhflmdcaa
