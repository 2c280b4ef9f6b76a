/- rlog: At; the reference's At. -/
import Derived.Test.YtdcnfdhhflmdcaaEntT
import Derived.StillTailTactics
import Derived.Laws.ResultCell
namespace Go.Proofs.Ytdcnfdhhflmdcaa
open Go.RowKit
set_option linter.unusedSimpArgs false
set_option linter.unusedVariables false

theorem results_cell_row2 {P : Program} {fn : Func} {p u : Tmp} {ty : TypeId} (h : fn.results = #[.cell p ty, .tmp u]) (tmps : Array Value) (w : World) (g : Nat) (t : TypeId) (cs : Array Value) (fr : Nat × Nat) (d : TypeDesc)
    (hp : tmps.getD p undef = .pointer (some ⟨g, 0, none⟩)) (hg : w.heap[g]? = some (.cells cs t fr))
    (hu : P.underlying ty = some d) (hd : (match d with | .struct _ | .array _ _ => true | _ => false) = true) (hi : (P.info? ty).map (·.size) = some cs.size) :
    (results fn tmps).run P w = .ok (.tuple #[.agg cs, tmps.getD u undef]) w := by
  rw [results_cell_tmp h]
  have hp' : tmps[p]?.getD undef = .pointer (some ⟨g, 0, none⟩) := by simpa using hp
  simp [hp', asAddr, run_loadVar_row w g t ty cs fr d hg hu hd hi, Result.andThen]
theorem blk_ent {w : World} {g : Nat} (m0 m : MEnt) (h : Blk w g 37 (mcell m0).toArray) : Blk (w.setCells g 0 (mcell m)) g 37 (mcell m).toArray := by
  have l5 := Blk.setAll (mcell m) (p := 0) h
  rw [show mcell m0 = mcell m0 ++ [] by simp, setAll_head _ _ _ (by rw [mcell_len, mcell_len]), List.append_nil] at l5
  exact l5
def atE (b : Int) (l : List Ent) (i : Int) : Int := if i ≤ b then 111 else if b + l.length < i then 110 else 0
def atV (b : Int) (l : List Ent) (i : Int) : Ent := if atE b l i = 0 then l.getD (i - b - 1).toNat ent0 else ent0
def AtEnds (b : Int) (l : List Ent) (i : Int) (w : World) (e : Ending) (w' : World) : Prop :=
  ∃ m', e = .returned (.tuple #[magg m', .int .i64 (atE b l i)]) ∧ m'.e = atV b l i ∧ OwnF w' w.heap.size m' ∧ Below w.heap.size w w'
theorem OwnF.zero (w : World) (B : Nat) : OwnF w B ment0 := ⟨World.ownsRow_nil _ _ _ _, World.ownsRow_nil _ _ _ _, by simp [ob, ment0], by simp [ob, ment0]⟩
theorem Ents.cells13 {w : World} {B n : Nat} {A : Option Addr} {ms : List MEnt} (h : Ents w B A n ms) {k : Nat} (hk : k < ms.length) : ∃ b off, A = some ⟨b, off, none⟩ ∧ b < B ∧ w.cell? ⟨b, off + k * 13, none⟩ = some (.int .i64 (gme ms k).e.term) ∧ w.cell? ⟨b, off + k * 13 + 1, none⟩ = some (.int .i64 (gme ms k).e.kind) ∧ w.cell? ⟨b, off + k * 13 + 2, none⟩ = some (.int .i64 (gme ms k).e.idn) ∧ w.cell? ⟨b, off + k * 13 + 3, none⟩ = some (.int .i64 (gme ms k).e.idc) ∧ w.cell? ⟨b, off + k * 13 + 4, none⟩ = some (.int .i64 (gme ms k).e.home) ∧ w.cell? ⟨b, off + k * 13 + 5, none⟩ = some (.string (gme ms k).e.key) ∧ w.cell? ⟨b, off + k * 13 + 6, none⟩ = some (.int .i64 (gme ms k).e.mode) ∧ w.cell? ⟨b, off + k * 13 + 7, none⟩ = some (.slice (gme ms k).aw (gme ms k).e.ws.length (gme ms k).cw) ∧ w.cell? ⟨b, off + k * 13 + 8, none⟩ = some (.slice (gme ms k).ag (gme ms k).e.gs.length (gme ms k).cg) ∧ w.cell? ⟨b, off + k * 13 + 9, none⟩ = some (.int .i64 (gme ms k).e.stamp) ∧ w.cell? ⟨b, off + k * 13 + 10, none⟩ = some (.int .i64 (gme ms k).e.out) ∧ w.cell? ⟨b, off + k * 13 + 11, none⟩ = some (.int .i64 (gme ms k).e.code) ∧ w.cell? ⟨b, off + k * 13 + 12, none⟩ = some (.int .i64 (gme ms k).e.grp) := by
  obtain ⟨b, off, hA, hb, hc⟩ := h.at_ hk
  exact ⟨b, off, hA, hb, by have := hc 0 _ rfl; rw [Nat.add_zero] at this; exact this, hc 1 _ rfl, hc 2 _ rfl, hc 3 _ rfl, hc 4 _ rfl, hc 5 _ rfl, hc 6 _ rfl, hc 7 _ rfl, hc 8 _ rfl, hc 9 _ rfl, hc 10 _ rfl, hc 11 _ rfl, hc 12 _ rfl⟩
set_option maxHeartbeats 4000000 in
set_option maxRecDepth 100000 in
theorem at_any (d : Nat) (base term : Int) (A : Option Addr) (c : Nat) (ms : List MEnt) (i : Int) (w : World) (h : LogAt w d base term A c ms) (hs : ∀ m ∈ ms, SmallE m) :
    Calls Try.prog 43 #[.pointer (some ⟨d, 0, none⟩), .int .i64 i] w (AtEnds base (es ms) i w) := by
  have hz0 : ∀ w' : World, w' = w.alloc (.cells (mcell ment0).toArray 37) → Below w.heap.size w w' := fun w' h => by rw [h]; exact below_alloc w _
  have hw1 : LogAt (w.alloc (.cells (mcell ment0).toArray 37)) d base term A c ms := ⟨h.blk.alloc _, (h.ents.below (below_alloc w _)).more (below_alloc w (.cells (mcell ment0).toArray 37)).size, h.b0, h.b1, h.few⟩
  have x0 : w.cell? ⟨d, 0, none⟩ = some (.int .i64 base) := h.blk.cell 0
  have x2 : w.cell? ⟨d, 2, none⟩ = some (.slice A ms.length c) := h.blk.cell 2
  have hdl := h.blk.lt
  have hb0 := h.b0
  have hb1 := h.b1
  have hfew := h.few
  have HE := Lib.hid h.ents
  have HS := Lib.hid hs
  have HT := Lib.hid (fun n => term_any d base term A c ms i _ (hw1.drewN n))
  have kz := Blk.new w 37 (mcell ment0).toArray
  have HKZ := Lib.hid kz
  have hst0 := cells_ent (P := Try.prog) ment0 (kz.there (o := 0) (n := 13) (by decide))
  have HB1 := Lib.hid (below_alloc w (.cells (mcell ment0).toArray 37))
  clear h hs hw1 hz0 kz
  have hel := es_len ms
  by_cases h1 : i ≤ base
  · have HV : Hid (atV base (es ms) i = ent0 ∧ atE base (es ms) i = 111) := Lib.hid (by unfold atV atE; rw [if_pos h1]; exact ⟨rfl, rfl⟩)
    have HTE : Hid (i ≠ base → termE base (es ms) i = 111) := Lib.hid (fun hn => by unfold termE; rw [if_pos (by omega)])
    by_cases h2 : i = base
    · have z2 : (i == base) = true := by rw [h2]; simp
      clear hel h1 h2
      go_enter Try.func43, Try.ntmps43
      go_wp2
      refine bodyPost_ret (results_cell_row2 (P := Try.prog) rfl _ _ w.heap.size 37 _ _ _ rfl HKZ.out Try.underlying37 rfl (by kernel_rfl)) rfl ?_
      exact ⟨ment0, by rw [HV.out.2]; rfl, by rw [HV.out.1]; rfl, OwnF.zero _ _, HB1.out⟩
    · have z2 : (i == base) = false := beq_eq_false_iff_ne.2 h2
      have HTE2 := Lib.hid (HTE.out h2)
      unfold TermEnds at HT
      rw [HTE2.out] at HT
      generalize termV base term (es ms) i = tv at *
      clear hel h1 h2
      go_enter Try.func43, Try.ntmps43
      go_wp2_with fail
      refine (HT.out 0).mono ?_
      rintro e w' ⟨rfl, q, rfl⟩
      go_wp2_with ((with_reducible refine wpList_store_mid ?u11 37 (.tmp 4) (.tmp 23) ?u12 w.heap.size 0 (mcell ment0).toArray ?u13 ?u14 ?u15 ?u16 ?u17 ?u18); (case u11 => rfl); (case u12 => rfl); (case u13 => rfl); (case u14 => rfl); (case u15 => exact (HKZ.out.drewN q).there (o := 0) (n := 13) (by decide)); (case u16 => kernel_rfl); (case u17 => exact all_oneCell_toArray (mcell_one ment0)); (case' u18 => skip))
      refine bodyPost_ret (results_cell_row2 (P := Try.prog) rfl _ _ w.heap.size 37 _ _ _ rfl (blk_ent _ ment0 (HKZ.out.drewN q)) Try.underlying37 rfl (by kernel_rfl)) rfl ?_
      exact ⟨ment0, by rw [HV.out.2]; rfl, by rw [HV.out.1]; rfl, OwnF.zero _ _, belowAll (mcell ment0) (g := w.heap.size) (p := 0) (below_drewN HB1.out q) (Nat.le_refl _)⟩
  have z1 : decide (i < base) = false := decide_eq_false (by omega)
  have z2 : (i == base) = false := beq_eq_false_iff_ne.2 (by omega)
  by_cases h3 : base + ms.length < i
  · have HV : Hid (atV base (es ms) i = ent0 ∧ atE base (es ms) i = 110) := Lib.hid (by unfold atV atE; rw [hel, if_neg h1, if_pos h3]; exact ⟨rfl, rfl⟩)
    have HTE : Hid (termE base (es ms) i = 110) := Lib.hid (by unfold termE; rw [hel, if_neg (by omega), if_neg (by omega), if_pos h3])
    unfold TermEnds at HT
    rw [HTE.out] at HT
    generalize termV base term (es ms) i = tv at *
    clear hel h1 h3
    go_enter Try.func43, Try.ntmps43
    go_wp2_with fail
    refine (HT.out 0).mono ?_
    rintro e w' ⟨rfl, q, rfl⟩
    go_wp2_with ((with_reducible refine wpList_store_mid ?u21 37 (.tmp 4) (.tmp 23) ?u22 w.heap.size 0 (mcell ment0).toArray ?u23 ?u24 ?u25 ?u26 ?u27 ?u28); (case u21 => rfl); (case u22 => rfl); (case u23 => rfl); (case u24 => rfl); (case u25 => exact (HKZ.out.drewN q).there (o := 0) (n := 13) (by decide)); (case u26 => kernel_rfl); (case u27 => exact all_oneCell_toArray (mcell_one ment0)); (case' u28 => skip))
    refine bodyPost_ret (results_cell_row2 (P := Try.prog) rfl _ _ w.heap.size 37 _ _ _ rfl (blk_ent _ ment0 (HKZ.out.drewN q)) Try.underlying37 rfl (by kernel_rfl)) rfl ?_
    exact ⟨ment0, by rw [HV.out.2]; rfl, by rw [HV.out.1]; rfl, OwnF.zero _ _, belowAll (mcell ment0) (g := w.heap.size) (p := 0) (below_drewN HB1.out q) (Nat.le_refl _)⟩
  · obtain ⟨k, hk⟩ := Int.eq_ofNat_of_zero_le (show 0 ≤ i - base - 1 by omega)
    have hkl : k < ms.length := by omega
    have HV : Hid (atV base (es ms) i = (gme ms k).e ∧ atE base (es ms) i = 0) := Lib.hid (by
      have h0 : atE base (es ms) i = 0 := by unfold atE; rw [hel, if_neg h1, if_neg h3]
      unfold atV
      rw [h0, if_pos rfl, hk, Int.toNat_natCast, List.getD_eq_getElem?_getD, List.getElem?_eq_getElem (by rw [hel]; exact hkl)]
      exact ⟨by rw [Option.getD_some, es_at hkl], rfl⟩)
    have HTE : Hid (termE base (es ms) i = 0) := Lib.hid (by unfold termE; rw [hel, if_neg (by omega), if_neg (by omega), if_neg h3])
    unfold TermEnds at HT
    rw [HTE.out] at HT
    generalize termV base term (es ms) i = tv at *
    have hEa := (HE.out.below HB1.out).more HB1.out.size
    obtain ⟨b, off, rfl, hbl, c0, c1, c2, c3, c4, c5, c6, c7, c8, c9, c10, c11, c12⟩ := HE.out.cells13 hkl
    have HF := Lib.hid (hEa.fine _ (gme_mem hkl))
    have HSm := Lib.hid (HS.out _ (gme_mem hkl))
    obtain ⟨m, hm⟩ : ∃ m, m = gme ms k := ⟨_, rfl⟩
    rw [← hm] at c0 c1 c2 c3 c4 c5 c6 c7 c8 c9 c10 c11 c12 HF HSm HV
    obtain rfl : i = base + k + 1 := by omega
    have kL : (0 : Int) ≤ (k : Int) := by omega
    have kU : (k : Int) < (ms.length : Int) := by omega
    have e1 : base + (k : Int) + 1 - base - 1 = (k : Int) := by omega
    clear hel h1 h3 hk hm hEa
    go_enter Try.func43, Try.ntmps43
    go_wp2_with fail
    refine (HT.out 0).mono ?_
    rintro e w' ⟨rfl, q, rfl⟩
    obtain ⟨wa, hwa⟩ : ∃ wa, wa = (w.alloc (.cells (mcell ment0).toArray 37)).drewN q := ⟨_, rfl⟩
    have hba : Below w.heap.size w wa := by rw [hwa]; exact below_drewN HB1.out q
    have y0 := (hba.cell (p := ⟨d, 0, none⟩) hdl).trans x0
    have y2 := (hba.cell (p := ⟨d, 2, none⟩) hdl).trans x2
    have q0 := (hba.cell (p := ⟨b, off + k * 13, none⟩) hbl).trans c0
    have q1 := (hba.cell (p := ⟨b, off + k * 13 + 1, none⟩) hbl).trans c1
    have q2 := (hba.cell (p := ⟨b, off + k * 13 + 2, none⟩) hbl).trans c2
    have q3 := (hba.cell (p := ⟨b, off + k * 13 + 3, none⟩) hbl).trans c3
    have q4 := (hba.cell (p := ⟨b, off + k * 13 + 4, none⟩) hbl).trans c4
    have q5 := (hba.cell (p := ⟨b, off + k * 13 + 5, none⟩) hbl).trans c5
    have q6 := (hba.cell (p := ⟨b, off + k * 13 + 6, none⟩) hbl).trans c6
    have q7 := (hba.cell (p := ⟨b, off + k * 13 + 7, none⟩) hbl).trans c7
    have q8 := (hba.cell (p := ⟨b, off + k * 13 + 8, none⟩) hbl).trans c8
    have q9 := (hba.cell (p := ⟨b, off + k * 13 + 9, none⟩) hbl).trans c9
    have q10 := (hba.cell (p := ⟨b, off + k * 13 + 10, none⟩) hbl).trans c10
    have q11 := (hba.cell (p := ⟨b, off + k * 13 + 11, none⟩) hbl).trans c11
    have q12 := (hba.cell (p := ⟨b, off + k * 13 + 12, none⟩) hbl).trans c12
    have HFa : Hid (Fine wa wa.heap.size m) := Lib.hid (by rw [hwa]; exact HF.out.below (below_drewN (Below.refl _ _) q))
    have hkz : Blk wa w.heap.size 37 (mcell ment0).toArray := by rw [hwa]; exact HKZ.out.drewN q
    have HW := Lib.hid hwa
    clear x0 x2 c0 c1 c2 c3 c4 c5 c6 c7 c8 c9 c10 c11 c12 hst0
    go_wp2
    rw [← HW.out]
    clear hwa HW
    have e2 : IntKind.i64.wrap (base + (k : Int) + 1 - base) = (k : Int) + 1 := by rw [IntKind.wrap_i64] <;> omega
    have e3 : IntKind.i64.wrap (k : Int) = (k : Int) := by rw [IntKind.wrap_i64] <;> omega
    go_still_tail 13, (by kernel_rfl)
    change wpList _ _ _ _ _ wa.drew
    have HC := Lib.hid (one_any m wa.drew (show Fine wa.drew wa.drew.heap.size m from HFa.out.drewN 1) HSm.out)
    go_wp2_with fail
    refine HC.out.mono ?_
    rintro e w1 ⟨m', rfl, hme, hOF, hb1⟩
    have HME := Lib.hid hme
    clear hme e1 e2 e3 y0 y2 q0 q1 q2 q3 q4 q5 q6 q7 q8 q9 q10 q11 q12
    have hwl : w.heap.size < wa.heap.size := hkz.lt
    have kz1 : Blk w1 w.heap.size 37 (mcell ment0).toArray := hkz.drew.below hb1 hwl
    unfold magg
    go_wp2_with ((with_reducible refine wpList_store_mid ?u31 37 (.tmp 4) (.tmp 38) ?u32 w.heap.size 0 (mcell m').toArray ?u33 ?u34 ?u35 ?u36 ?u37 ?u38); (case u31 => rfl); (case u32 => rfl); (case u33 => rfl); (case u34 => rfl); (case u35 => exact kz1.there (o := 0) (n := 13) (by decide)); (case u36 => kernel_rfl); (case u37 => exact all_oneCell_toArray (mcell_one m')); (case' u38 => skip))
    refine bodyPost_ret (results_cell_row2 (P := Try.prog) rfl _ _ w.heap.size 37 _ _ _ rfl (blk_ent _ m' kz1) Try.underlying37 rfl (by kernel_rfl)) rfl ?_
    have hb2 : Below w.heap.size w w1 := (below_drewN hba 1).trans (hb1.mono (Nat.le_of_lt hwl))
    refine ⟨m', by rw [HV.out.2]; rfl, by rw [HV.out.1]; exact HME.out, ⟨own_farAll (mcell m') (p := 0) hOF.wr (own_blk_ne hOF.wr kz1 (by decide)), own_farAll (mcell m') (p := 0) hOF.gr (own_blk_ne hOF.gr kz1 (by decide)), fun x hx => Nat.le_trans (Nat.le_of_lt hwl) (hOF.fw x hx), fun x hx => Nat.le_trans (Nat.le_of_lt hwl) (hOF.fg x hx)⟩, belowAll (mcell m') (g := w.heap.size) (p := 0) hb2 (Nat.le_refl _)⟩
set_option maxHeartbeats 4000000 in
set_option maxRecDepth 100000 in
theorem rat_any (d : Nat) (base term : Int) (A : Option Addr) (c : Nat) (ms : List MEnt) (i : Int) (w : World) (h : RefAt w d base term A c ms) (hs : ∀ m ∈ ms, SmallE m) :
    Calls Try.prog 44 #[.pointer (some ⟨d, 0, none⟩), .int .i64 i] w (AtEnds base (es ms) i w) := by
  have hz0 : ∀ w' : World, w' = w.alloc (.cells (mcell ment0).toArray 37) → Below w.heap.size w w' := fun w' h => by rw [h]; exact below_alloc w _
  have hw1 : RefAt (w.alloc (.cells (mcell ment0).toArray 37)) d base term A c ms := ⟨h.blk.alloc _, (h.ents.below (below_alloc w _)).more (below_alloc w (.cells (mcell ment0).toArray 37)).size, h.b0, h.b1, h.few⟩
  have x0 : w.cell? ⟨d, 0, none⟩ = some (.int .i64 base) := h.blk.cell 0
  have x2 : w.cell? ⟨d, 2, none⟩ = some (.slice A ms.length c) := h.blk.cell 2
  have hdl := h.blk.lt
  have hb0 := h.b0
  have hb1 := h.b1
  have hfew := h.few
  have HE := Lib.hid h.ents
  have HS := Lib.hid hs
  have HT := Lib.hid (fun n => rterm_any d base term A c ms i _ (hw1.drewN n))
  have kz := Blk.new w 37 (mcell ment0).toArray
  have HKZ := Lib.hid kz
  have hst0 := cells_ent (P := Try.prog) ment0 (kz.there (o := 0) (n := 13) (by decide))
  have HB1 := Lib.hid (below_alloc w (.cells (mcell ment0).toArray 37))
  clear h hs hw1 hz0 kz
  have hel := es_len ms
  by_cases h1 : i ≤ base
  · have HV : Hid (atV base (es ms) i = ent0 ∧ atE base (es ms) i = 111) := Lib.hid (by unfold atV atE; rw [if_pos h1]; exact ⟨rfl, rfl⟩)
    have HTE : Hid (i ≠ base → termE base (es ms) i = 111) := Lib.hid (fun hn => by unfold termE; rw [if_pos (by omega)])
    have z2 : decide (i ≤ base) = true := decide_eq_true h1
    clear hel h1
    go_enter Try.func44, Try.ntmps44
    go_wp2
    refine bodyPost_ret (results_cell_row2 (P := Try.prog) rfl _ _ w.heap.size 37 _ _ _ rfl HKZ.out Try.underlying37 rfl (by kernel_rfl)) rfl ?_
    exact ⟨ment0, by rw [HV.out.2]; rfl, by rw [HV.out.1]; rfl, OwnF.zero _ _, HB1.out⟩
  have z1 : decide (i < base) = false := decide_eq_false (by omega)
  have z2 : decide (i ≤ base) = false := decide_eq_false h1
  by_cases h3 : base + ms.length < i
  · have HV : Hid (atV base (es ms) i = ent0 ∧ atE base (es ms) i = 110) := Lib.hid (by unfold atV atE; rw [hel, if_neg h1, if_pos h3]; exact ⟨rfl, rfl⟩)
    have HTE : Hid (termE base (es ms) i = 110) := Lib.hid (by unfold termE; rw [hel, if_neg (by omega), if_neg (by omega), if_pos h3])
    unfold TermEnds at HT
    rw [HTE.out] at HT
    generalize termV base term (es ms) i = tv at *
    clear hel h1 h3
    go_enter Try.func44, Try.ntmps44
    go_wp2_with fail
    refine (HT.out 0).mono ?_
    rintro e w' ⟨rfl, q, rfl⟩
    go_wp2_with ((with_reducible refine wpList_store_mid ?u41 37 (.tmp 4) (.tmp 23) ?u42 w.heap.size 0 (mcell ment0).toArray ?u43 ?u44 ?u45 ?u46 ?u47 ?u48); (case u41 => rfl); (case u42 => rfl); (case u43 => rfl); (case u44 => rfl); (case u45 => exact (HKZ.out.drewN q).there (o := 0) (n := 13) (by decide)); (case u46 => kernel_rfl); (case u47 => exact all_oneCell_toArray (mcell_one ment0)); (case' u48 => skip))
    refine bodyPost_ret (results_cell_row2 (P := Try.prog) rfl _ _ w.heap.size 37 _ _ _ rfl (blk_ent _ ment0 (HKZ.out.drewN q)) Try.underlying37 rfl (by kernel_rfl)) rfl ?_
    exact ⟨ment0, by rw [HV.out.2]; rfl, by rw [HV.out.1]; rfl, OwnF.zero _ _, belowAll (mcell ment0) (g := w.heap.size) (p := 0) (below_drewN HB1.out q) (Nat.le_refl _)⟩
  · obtain ⟨k, hk⟩ := Int.eq_ofNat_of_zero_le (show 0 ≤ i - base - 1 by omega)
    have hkl : k < ms.length := by omega
    have HV : Hid (atV base (es ms) i = (gme ms k).e ∧ atE base (es ms) i = 0) := Lib.hid (by
      have h0 : atE base (es ms) i = 0 := by unfold atE; rw [hel, if_neg h1, if_neg h3]
      unfold atV
      rw [h0, if_pos rfl, hk, Int.toNat_natCast, List.getD_eq_getElem?_getD, List.getElem?_eq_getElem (by rw [hel]; exact hkl)]
      exact ⟨by rw [Option.getD_some, es_at hkl], rfl⟩)
    have HTE : Hid (termE base (es ms) i = 0) := Lib.hid (by unfold termE; rw [hel, if_neg (by omega), if_neg (by omega), if_neg h3])
    unfold TermEnds at HT
    rw [HTE.out] at HT
    generalize termV base term (es ms) i = tv at *
    have hEa := (HE.out.below HB1.out).more HB1.out.size
    obtain ⟨b, off, rfl, hbl, c0, c1, c2, c3, c4, c5, c6, c7, c8, c9, c10, c11, c12⟩ := HE.out.cells13 hkl
    have HF := Lib.hid (hEa.fine _ (gme_mem hkl))
    have HSm := Lib.hid (HS.out _ (gme_mem hkl))
    obtain ⟨m, hm⟩ : ∃ m, m = gme ms k := ⟨_, rfl⟩
    rw [← hm] at c0 c1 c2 c3 c4 c5 c6 c7 c8 c9 c10 c11 c12 HF HSm HV
    obtain rfl : i = base + k + 1 := by omega
    have kL : (0 : Int) ≤ (k : Int) := by omega
    have kU : (k : Int) < (ms.length : Int) := by omega
    have e1 : base + (k : Int) + 1 - base - 1 = (k : Int) := by omega
    clear hel h1 h3 hk hm hEa
    go_enter Try.func44, Try.ntmps44
    go_wp2_with fail
    refine (HT.out 0).mono ?_
    rintro e w' ⟨rfl, q, rfl⟩
    obtain ⟨wa, hwa⟩ : ∃ wa, wa = (w.alloc (.cells (mcell ment0).toArray 37)).drewN q := ⟨_, rfl⟩
    have hba : Below w.heap.size w wa := by rw [hwa]; exact below_drewN HB1.out q
    have y0 := (hba.cell (p := ⟨d, 0, none⟩) hdl).trans x0
    have y2 := (hba.cell (p := ⟨d, 2, none⟩) hdl).trans x2
    have q0 := (hba.cell (p := ⟨b, off + k * 13, none⟩) hbl).trans c0
    have q1 := (hba.cell (p := ⟨b, off + k * 13 + 1, none⟩) hbl).trans c1
    have q2 := (hba.cell (p := ⟨b, off + k * 13 + 2, none⟩) hbl).trans c2
    have q3 := (hba.cell (p := ⟨b, off + k * 13 + 3, none⟩) hbl).trans c3
    have q4 := (hba.cell (p := ⟨b, off + k * 13 + 4, none⟩) hbl).trans c4
    have q5 := (hba.cell (p := ⟨b, off + k * 13 + 5, none⟩) hbl).trans c5
    have q6 := (hba.cell (p := ⟨b, off + k * 13 + 6, none⟩) hbl).trans c6
    have q7 := (hba.cell (p := ⟨b, off + k * 13 + 7, none⟩) hbl).trans c7
    have q8 := (hba.cell (p := ⟨b, off + k * 13 + 8, none⟩) hbl).trans c8
    have q9 := (hba.cell (p := ⟨b, off + k * 13 + 9, none⟩) hbl).trans c9
    have q10 := (hba.cell (p := ⟨b, off + k * 13 + 10, none⟩) hbl).trans c10
    have q11 := (hba.cell (p := ⟨b, off + k * 13 + 11, none⟩) hbl).trans c11
    have q12 := (hba.cell (p := ⟨b, off + k * 13 + 12, none⟩) hbl).trans c12
    have HFa : Hid (Fine wa wa.heap.size m) := Lib.hid (by rw [hwa]; exact HF.out.below (below_drewN (Below.refl _ _) q))
    have hkz : Blk wa w.heap.size 37 (mcell ment0).toArray := by rw [hwa]; exact HKZ.out.drewN q
    have HW := Lib.hid hwa
    clear x0 x2 c0 c1 c2 c3 c4 c5 c6 c7 c8 c9 c10 c11 c12 hst0
    go_wp2
    rw [← HW.out]
    clear hwa HW
    have e2 : IntKind.i64.wrap (base + (k : Int) + 1 - base) = (k : Int) + 1 := by rw [IntKind.wrap_i64] <;> omega
    have e3 : IntKind.i64.wrap (k : Int) = (k : Int) := by rw [IntKind.wrap_i64] <;> omega
    go_still_tail 13, (by kernel_rfl)
    change wpList _ _ _ _ _ wa.drew
    have HC := Lib.hid (copy_any m wa.drew (show Fine wa.drew wa.drew.heap.size m from HFa.out.drewN 1) HSm.out)
    go_wp2_with fail
    refine HC.out.mono ?_
    rintro e w1 ⟨m', rfl, hme, hOF, hb1⟩
    have HME := Lib.hid hme
    clear hme e1 e2 e3 y0 y2 q0 q1 q2 q3 q4 q5 q6 q7 q8 q9 q10 q11 q12
    have hwl : w.heap.size < wa.heap.size := hkz.lt
    have kz1 : Blk w1 w.heap.size 37 (mcell ment0).toArray := hkz.drew.below hb1 hwl
    unfold magg
    go_wp2_with ((with_reducible refine wpList_store_mid ?u51 37 (.tmp 4) (.tmp 38) ?u52 w.heap.size 0 (mcell m').toArray ?u53 ?u54 ?u55 ?u56 ?u57 ?u58); (case u51 => rfl); (case u52 => rfl); (case u53 => rfl); (case u54 => rfl); (case u55 => exact kz1.there (o := 0) (n := 13) (by decide)); (case u56 => kernel_rfl); (case u57 => exact all_oneCell_toArray (mcell_one m')); (case' u58 => skip))
    refine bodyPost_ret (results_cell_row2 (P := Try.prog) rfl _ _ w.heap.size 37 _ _ _ rfl (blk_ent _ m' kz1) Try.underlying37 rfl (by kernel_rfl)) rfl ?_
    have hb2 : Below w.heap.size w w1 := (below_drewN hba 1).trans (hb1.mono (Nat.le_of_lt hwl))
    refine ⟨m', by rw [HV.out.2]; rfl, by rw [HV.out.1]; exact HME.out, ⟨own_farAll (mcell m') (p := 0) hOF.wr (own_blk_ne hOF.wr kz1 (by decide)), own_farAll (mcell m') (p := 0) hOF.gr (own_blk_ne hOF.gr kz1 (by decide)), fun x hx => Nat.le_trans (Nat.le_of_lt hwl) (hOF.fw x hx), fun x hx => Nat.le_trans (Nat.le_of_lt hwl) (hOF.fg x hx)⟩, belowAll (mcell m') (g := w.heap.size) (p := 0) hb2 (Nat.le_refl _)⟩
end Go.Proofs.Ytdcnfdhhflmdcaa
