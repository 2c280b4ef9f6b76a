/- rlog: Compact. -/
import Derived.Test.YtdcnfdhhflmdcaaEntU
import Derived.Deep.RegionLaw
namespace Go.Proofs.Ytdcnfdhhflmdcaa
open Go.RowKit
set_option linter.unusedSimpArgs false
set_option linter.unusedVariables false

theorem termE_zero {b : Int} {l : List Ent} {i : Int} : termE b l i = 0 ↔ b ≤ i ∧ i ≤ b + l.length := by
  unfold termE
  by_cases hx : i < b
  · rw [if_pos hx]; omega
  · rw [if_neg hx]
    by_cases hy : i = b
    · rw [if_pos hy]; omega
    · rw [if_neg hy]
      by_cases hz : b + l.length < i
      · rw [if_pos hz]; omega
      · rw [if_neg hz]; omega
def compL (b : Int) (l : List Ent) (i : Int) : List Ent := if termE b l i = 0 then l.drop (i - b).toNat else l
def compB (b : Int) (l : List Ent) (i : Int) : Int := if termE b l i = 0 then i else b
def compT (b t : Int) (l : List Ent) (i : Int) : Int := if termE b l i = 0 then termV b t l i else t
def CompEnds (T : TypeId) (d : Nat) (F : List Nat) (b t : Int) (l : List Ent) (i : Int) (w : World) (e : Ending) (w' : World) : Prop :=
  e = .returned (.int .i64 (termE b l i)) ∧ ∃ F', IsLog T w' d F' (compB b l i) (compT b t l i) (compL b l i) ∧ Moves F F' w w'
/-- a log, its row replaced -/
theorem lg_replace {T : TypeId} {w w1 w4 : World} {d : Nat} {A A3 : Option Addr} {c c3 : Nat} {b t b' t' : Int} {ms ms3 : List MEnt} (hG : Lg T w d A c b t ms) (hb : Below w.heap.size w w1) (hO : OwnE w1 0 A3 c3 ms3)
    (hf : ∀ k ∈ fpE A3 ms3, k ∈ fpE A ms ∨ w.heap.size ≤ k) (hd : d ∉ fpE A3 ms3) (hk : Kept [d] w1 w4) (hblk : Blk w4 d T (logC b' t' A3 ms3.length c3)) (h0 : 0 ≤ b') (h1 : b' + ms3.length ≤ 1099511627776) (few : ms3.length ≤ 512) (hs : ∀ m ∈ ms3, SmallE m) :
    ∃ F', IsLog T w4 d F' b' t' (es ms3) ∧ Moves (fpL d A ms) F' w w4 := by
  refine ⟨fpL d A3 ms3, ⟨A3, c3, ms3, ⟨hblk, hO.kept hk (fun k hk1 hk2 => hd (by rw [← List.mem_singleton.1 hk2]; exact hk1)), h0, h1, few, hs⟩, rfl, rfl⟩, ⟨?_, fun k hk1 => ?_⟩⟩
  · exact (Kept.of_below hb : Kept (fpL d A ms) w w1).trans hk (fun x hx => .inl (by rw [List.mem_singleton.1 hx]; exact List.mem_cons_self ..))
  · rcases List.mem_cons.1 hk1 with rfl | h
    · exact .inl (List.mem_cons_self ..)
    · exact (hf k h).imp (fun h => List.mem_cons_of_mem _ h) id
set_option maxHeartbeats 4000000 in
theorem compact_any (d : Nat) (F : List Nat) (b t : Int) (l : List Ent) (i : Int) (w : World) (hL : IsLog 69 w d F b t l) :
    Calls Try.prog 17 #[.pointer (some ⟨d, 0, none⟩), .int .i64 i] w (CompEnds 69 d F b t l i w) := by
  obtain ⟨A, c, ms, hG, rfl, rfl⟩ := hL
  have HT := Lib.hid (term_any d b t A c ms i w hG.at_)
  have HG := Lib.hid hG
  have x0 : w.cell? ⟨d, 0, none⟩ = some (.int .i64 b) := hG.blk.cell 0
  have x2 : w.cell? ⟨d, 2, none⟩ = some (.slice A ms.length c) := hG.blk.cell 2
  have hb0 := hG.b0
  have hb1 := hG.b1
  obtain ⟨hcl, hcm⟩ := own_cap hG.own.row
  have hfew := hG.few
  have hel := es_len ms
  unfold TermEnds at HT
  by_cases h0 : termE b (es ms) i = 0
  · obtain ⟨hi1, hi2⟩ := termE_zero.1 h0
    rw [hel] at hi2
    obtain ⟨k, hk⟩ := Int.eq_ofNat_of_zero_le (show 0 ≤ i - b by omega)
    have hkl : k ≤ ms.length := by omega
    have HV : Hid (compB b (es ms) i = i ∧ compT b t (es ms) i = termV b t (es ms) i ∧ compL b (es ms) i = (es ms).drop k) := Lib.hid (by unfold compB compT compL; rw [if_pos h0, if_pos h0, if_pos h0, hk, Int.toNat_natCast]; exact ⟨rfl, rfl, rfl⟩)
    have HE0 := Lib.hid h0
    rw [h0] at HT
    obtain ⟨tv, htv⟩ : ∃ tv, tv = termV b t (es ms) i := ⟨_, rfl⟩
    rw [← htv] at HT HV
    obtain rfl : i = b + k := by omega
    have kL : (0 : Int) ≤ (k : Int) := by omega
    have kU : (k : Int) ≤ (ms.length : Int) := by omega
    have kC : (ms.length : Int) ≤ (c : Int) := by omega
    obtain ⟨A2, hif⟩ : ∃ A2, (if c = k then A else Option.map (fun x => x.add (k * 13)) A) = A2 := ⟨_, rfl⟩
    have hE := HG.out.own.ents.cut hkl hcl
    rw [hif, List.length_drop] at hE
    clear htv h0 hel hk hG hi1 hi2
    go_enter Try.func17, Try.ntmps17
    go_wp2_with fail
    refine HT.out.mono ?_
    rintro e w' ⟨rfl, q, rfl⟩
    obtain ⟨wa, hwa⟩ : ∃ wa, wa = w.drewN q := ⟨_, rfl⟩
    have hba : Below w.heap.size w wa := by rw [hwa]; exact below_drewN (Below.refl _ _) q
    have hGd : Lg 69 wa.drew d A c b t ms := by rw [hwa]; exact HG.out.drewN (q + 1)
    have hEd : Ents wa.drew wa.drew.heap.size A2 (ms.length - k) (ms.drop k) := by rw [hwa]; exact hE.drewN (q + 1)
    have hsz : wa.drew.heap.size = w.heap.size := by rw [hwa]; rfl
    have HSZ := Lib.hid hsz
    have y0 : wa.cell? ⟨d, 0, none⟩ = some (.int .i64 b) := hGd.blk.cell 0
    have y2 : wa.cell? ⟨d, 2, none⟩ = some (.slice A ms.length c) := hGd.blk.cell 2
    have HC := some_any A2 (c - k) (ms.drop k) wa.drew (by rw [List.length_drop]; exact hEd) (SmallL.of (by rw [List.length_drop]; omega) (fun x hx => HG.out.small x (List.mem_of_mem_drop hx)))
    rw [List.length_drop] at HC
    have HC := Lib.hid HC
    have HGD := Lib.hid hGd
    have hdl : d < wa.drew.heap.size := hGd.blk.lt
    rw [← hwa]
    have HW := Lib.hid hwa
    clear x0 x2 hwa hEd hE hsz hGd HT
    have e2 : IntKind.i64.wrap (b + (k : Int) - b) = (k : Int) := by rw [IntKind.wrap_i64] <;> omega
    go_wp2
    go_region_law
      ((go_simp; go_at_call 33; refine HC.out.mono ?_; rintro e w1 ⟨A3, c3, ms3, rfl, hm3, hO3, hb1⟩; have hbk := HGD.out.blk.below hb1 hdl; have f0 := hbk.frozen 0; have f1 := hbk.frozen 1; have f2 := hbk.frozen 2; have y01 : w1.cell? ⟨d, 0, none⟩ = some (.int .i64 b) := hbk.cell 0; have y11 : w1.cell? ⟨d, 1, none⟩ = some (.int .i64 t) := hbk.cell 1; have y21 : w1.cell? ⟨d, 2, none⟩ = some (.slice A ms.length c) := hbk.cell 2; have HM := Lib.hid hm3; clear hm3))
    all_goals
      go_wp2
      go_ret
      have hme : es ms3 = (es ms).drop k := by rw [← es_drop]; exact HM.out
      have hl : ms3.length = ms.length - k := by rw [← es_len ms3, hme, List.length_drop, es_len]
      have hbw : Below w.heap.size w w1 := (below_drewN hba 1).trans (hb1.mono (by rw [HSZ.out]; exact Nat.le_refl _))
      have hlow : ∀ x ∈ fpE A3 ms3, w.heap.size ≤ x := fun x hx => by have := hO3.low x hx; rw [HSZ.out] at this; exact this
      unfold CompEnds
      rw [HE0.out, HV.out.1, HV.out.2.1, HV.out.2.2, ← hme]
      refine ⟨rfl, lg_replace (b' := b + k) (t' := tv) HG.out hbw (hO3.more (Nat.zero_le _)) (fun x hx => .inr (hlow x hx)) (fun hm => by have := hlow d hm; rw [HSZ.out] at hdl; omega) ?_ ?_ (by omega) (by omega) (by omega) (fun m hm => ?_)⟩
      · exact (((Kept.refl [d] w1).setCell _ (.inl (by simp))).setCell _ (.inl (by simp))).setCell _ (.inl (by simp))
      · rw [hl]
        exact ((hbk.set_ 2 (.slice A3 (ms.length - k) c3)).set_ 0 (.int .i64 (b + k))).set_ 1 (.int .i64 tv)
      · have h2 : m.e ∈ es ms3 := List.mem_map.2 ⟨m, hm, rfl⟩
        rw [hme] at h2
        obtain ⟨x, hx, hxe⟩ := List.mem_map.1 (List.mem_of_mem_drop h2)
        have := HG.out.small x hx
        unfold SmallE at this ⊢
        rw [← hxe]
        exact this
  · have HV : Hid (compB b (es ms) i = b ∧ compT b t (es ms) i = t ∧ compL b (es ms) i = es ms) := Lib.hid (by unfold compB compT compL; rw [if_neg h0, if_neg h0, if_neg h0]; exact ⟨rfl, rfl, rfl⟩)
    unfold CompEnds
    generalize termE b (es ms) i = E at *
    generalize termV b t (es ms) i = V at *
    have z0 : (E != 0) = true := bne_iff_ne.2 h0
    have z1 : (E == 0) = false := beq_eq_false_iff_ne.2 h0
    clear hel hG
    go_enter Try.func17, Try.ntmps17
    go_wp2_with fail
    refine HT.out.mono ?_
    rintro e w' ⟨rfl, q, rfl⟩
    go_wp2
    go_ret
    rw [HV.out.1, HV.out.2.1, HV.out.2.2]
    exact ⟨rfl, _, ⟨A, c, ms, HG.out.drewN q, rfl, rfl⟩, ⟨(Kept.refl _ _).drewN q, fun k hk => .inl hk⟩⟩
end Go.Proofs.Ytdcnfdhhflmdcaa
