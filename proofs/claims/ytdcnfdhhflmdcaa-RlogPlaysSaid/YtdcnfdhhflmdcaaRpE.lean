/- RlogPlays: asked. -/
import Derived.Test.YtdcnfdhhflmdcaaRpD
namespace Go.Proofs.Ytdcnfdhhflmdcaa
open Go.RowKit
set_option linter.unusedSimpArgs false
set_option linter.unusedVariables false

theorem at_log {w : World} {d : Nat} {F : List Nat} {b t : Int} {l : List Ent} (h : IsLog 69 w d F b t l) (i : Int) : Calls Try.prog 43 #[.pointer (some ⟨d, 0, none⟩), .int .i64 i] w (AtEnds b l i w) := by
  obtain ⟨A, c, ms, h, rfl, rfl⟩ := h
  exact at_any d b t A c ms i w h.at_ h.small
theorem newer_log {w : World} {d : Nat} {F : List Nat} {b t : Int} {l : List Ent} (h : IsLog 69 w d F b t l) (i u : Int) : Calls Try.prog 46 #[.pointer (some ⟨d, 0, none⟩), .int .i64 i, .int .i64 u] w fun e w' => e = .returned (.bool (newerB (lastI b l) (lastT b t l) i u)) ∧ ∃ q, w' = w.drewN q := by
  obtain ⟨A, c, ms, h, rfl, rfl⟩ := h
  exact newer_any d b t A c ms i u w h.at_
theorem rat_log {w : World} {d : Nat} {F : List Nat} {b t : Int} {l : List Ent} (h : IsLog 74 w d F b t l) (i : Int) : Calls Try.prog 44 #[.pointer (some ⟨d, 0, none⟩), .int .i64 i] w (AtEnds b l i w) := by
  obtain ⟨A, c, ms, h, rfl, rfl⟩ := h
  exact rat_any d b t A c ms i w h.ref_ h.small
theorem rnewer_log {w : World} {d : Nat} {F : List Nat} {b t : Int} {l : List Ent} (h : IsLog 74 w d F b t l) (i u : Int) : Calls Try.prog 47 #[.pointer (some ⟨d, 0, none⟩), .int .i64 i, .int .i64 u] w fun e w' => e = .returned (.bool (newerB (lastI b l) (lastT b t l) i u)) ∧ ∃ q, w' = w.drewN q := by
  obtain ⟨A, c, ms, h, rfl, rfl⟩ := h
  exact rnewer_any d b t A c ms i u w h.ref_
theorem rterm_log {w : World} {d : Nat} {F : List Nat} {b t : Int} {l : List Ent} (h : IsLog 74 w d F b t l) (i : Int) : Calls Try.prog 42 #[.pointer (some ⟨d, 0, none⟩), .int .i64 i] w (TermEnds b t l i w) := by
  obtain ⟨A, c, ms, h, rfl, rfl⟩ := h
  exact rterm_any d b t A c ms i w h.ref_
theorem rslice_log {w : World} {d : Nat} {F : List Nat} {b t : Int} {l : List Ent} (h : IsLog 74 w d F b t l) (f m : Int) : Calls Try.prog 45 #[.pointer (some ⟨d, 0, none⟩), .int .i64 f, .int .i64 m] w (SliceEnds b l f m w) := by
  obtain ⟨A, c, ms, h, rfl, rfl⟩ := h
  exact rslice_any d b t A c ms f m w h.ref_ h.small (own_cap h.own.row)
/-- one entry, in a block of its own -/
theorem ents1 {w : World} {m : MEnt} {g : Nat} (hg : w.heap.size = g) (hf : Fine w w.heap.size m) : Ents (w.alloc (.cells (mcell m).toArray 37)) (w.alloc (.cells (mcell m).toArray 37)).heap.size (some ⟨g, 0, none⟩) [m].length [m] := by
  subst hg
  have hba := below_alloc w (.cells (mcell m).toArray 37)
  refine ⟨⟨rfl, fun _ => ⟨_, rfl, by simp, fun j u hu => ?_⟩⟩, fun x hx => ?_⟩
  · rw [Addr.add_lit, Nat.zero_add]
    exact ((Blk.new w 37 (mcell m).toArray).cell j).trans (by simpa [mc] using hu)
  · rw [List.mem_singleton.1 hx]
    exact (hf.below hba).more hba.size
theorem same_pair {w : World} {m1 m2 : MEnt} (f1 : Fine w w.heap.size m1) (f2 : Fine w w.heap.size m2) (hs1 : SmallE m1) (he : m1.e = m2.e) :
    (Calls Try.prog 21 #[.slice (some ⟨w.heap.size, 0, none⟩) 1 1, .slice (some ⟨w.heap.size + 1, 0, none⟩) 1 1] ((w.alloc (.cells #[.int .i64 m1.e.term, .int .i64 m1.e.kind, .int .i64 m1.e.idn, .int .i64 m1.e.idc, .int .i64 m1.e.home, .string m1.e.key, .int .i64 m1.e.mode, .slice m1.aw m1.e.ws.length m1.cw, .slice m1.ag m1.e.gs.length m1.cg, .int .i64 m1.e.stamp, .int .i64 m1.e.out, .int .i64 m1.e.code, .int .i64 m1.e.grp] 37)).alloc (.cells #[.int .i64 m2.e.term, .int .i64 m2.e.kind, .int .i64 m2.e.idn, .int .i64 m2.e.idc, .int .i64 m2.e.home, .string m2.e.key, .int .i64 m2.e.mode, .slice m2.aw m2.e.ws.length m2.cw, .slice m2.ag m2.e.gs.length m2.cg, .int .i64 m2.e.stamp, .int .i64 m2.e.out, .int .i64 m2.e.code, .int .i64 m2.e.grp] 37)).drew fun e w'' => e = .returned (.bool true) ∧ Below w.heap.size w w'') ∧
    (Calls Try.prog 21 #[.slice (some ⟨w.heap.size + 1, 0, none⟩) 1 1, .slice (some ⟨w.heap.size, 0, none⟩) 1 1] ((w.alloc (.cells #[.int .i64 m2.e.term, .int .i64 m2.e.kind, .int .i64 m2.e.idn, .int .i64 m2.e.idc, .int .i64 m2.e.home, .string m2.e.key, .int .i64 m2.e.mode, .slice m2.aw m2.e.ws.length m2.cw, .slice m2.ag m2.e.gs.length m2.cg, .int .i64 m2.e.stamp, .int .i64 m2.e.out, .int .i64 m2.e.code, .int .i64 m2.e.grp] 37)).alloc (.cells #[.int .i64 m1.e.term, .int .i64 m1.e.kind, .int .i64 m1.e.idn, .int .i64 m1.e.idc, .int .i64 m1.e.home, .string m1.e.key, .int .i64 m1.e.mode, .slice m1.aw m1.e.ws.length m1.cw, .slice m1.ag m1.e.gs.length m1.cg, .int .i64 m1.e.stamp, .int .i64 m1.e.out, .int .i64 m1.e.code, .int .i64 m1.e.grp] 37)).drew fun e w'' => e = .returned (.bool true) ∧ Below w.heap.size w w'') := by
  have k1 := below_alloc w (.cells (mcell m1).toArray 37)
  have k2 := below_alloc w (.cells (mcell m2).toArray 37)
  have k12 := below_alloc (w.alloc (.cells (mcell m1).toArray 37)) (.cells (mcell m2).toArray 37)
  have k21 := below_alloc (w.alloc (.cells (mcell m2).toArray 37)) (.cells (mcell m1).toArray 37)
  have hsm : SmallL [m1] := ⟨by simp, fun m hm => by rw [List.mem_singleton.1 hm]; exact hs1⟩
  have b12 := k1.trans (k12.mono k1.size)
  have b21 := k2.trans (k21.mono k2.size)
  constructor
  · have e1 := ((ents1 rfl f1).below k12).more k12.size
    have e2 := ents1 (m := m2) (g := w.heap.size + 1) (World.size_alloc _ _) ((f2.below k1).more k1.size)
    have h := sameE_yes _ _ 1 1 [m1] [m2] _ (e1.drewN 1) (e2.drewN 1) (by simp [es, he]) hsm
    refine h.mono ?_
    rintro e w'' ⟨rfl, hb⟩
    exact ⟨rfl, b12.trans ((below_drewN (Below.refl _ _) 1).trans (hb.mono b12.size))⟩
  · have e1 := ((ents1 rfl f2).below k21).more k21.size
    have e2 := ents1 (m := m1) (g := w.heap.size + 1) (World.size_alloc _ _) ((f1.below k2).more k2.size)
    have h := sameE_yes _ _ 1 1 [m1] [m2] _ (e2.drewN 1) (e1.drewN 1) (by simp [es, he]) hsm
    refine h.mono ?_
    rintro e w'' ⟨rfl, hb⟩
    exact ⟨rfl, b21.trans ((below_drewN (Below.refl _ _) 1).trans (hb.mono b21.size))⟩
theorem atV_small {w : World} {T : TypeId} {d : Nat} {F : List Nat} {b t : Int} {l : List Ent} (h : IsLog T w d F b t l) (i : Int) {m : MEnt} (hm : m.e = atV b l i) : SmallE m := by
  unfold atV at hm
  by_cases h0 : atE b l i = 0
  · rw [if_pos h0] at hm
    have hr : (i - b - 1).toNat < l.length := by
      unfold atE at h0
      by_cases h1 : i ≤ b
      · rw [if_pos h1] at h0; omega
      · rw [if_neg h1] at h0
        by_cases h2 : b + l.length < i
        · rw [if_pos h2] at h0; omega
        · omega
    rw [List.getD_eq_getElem?_getD, List.getElem?_eq_getElem hr, Option.getD_some] at hm
    exact h.small (ms := [m]) (fun e he => by simp [es] at he; rw [he, hm]; exact List.getElem_mem _) m (List.mem_singleton.2 rfl)
  · rw [if_neg h0] at hm
    unfold SmallE
    rw [hm]
    exact ⟨by decide, by decide⟩
set_option maxHeartbeats 8000000 in
set_option maxRecDepth 100000 in
theorem asked_any (d1 d2 : Nat) (F1 F2 : List Nat) (b t : Int) (l : List Ent) (kd oi ot : Int) (oA : Option Addr) (on oc : Nat) (w : World) (h1 : IsLog 69 w d1 F1 b t l) (h2 : IsLog 74 w d2 F2 b t l) :
    Calls Try.prog 29 #[.pointer (some ⟨d1, 0, none⟩), .pointer (some ⟨d2, 0, none⟩), .agg #[.int .i64 kd, .int .i64 oi, .int .i64 ot, .slice oA on oc]] w fun e w' => e = .returned (.bool true) ∧ Below w.heap.size w w' := by
  obtain ⟨wb, hwb⟩ : ∃ wb, wb = w.alloc (.cells #[.int .i64 kd, .int .i64 oi, .int .i64 ot, .slice oA on oc] 50) := ⟨_, rfl⟩
  have hba : Below w.heap.size w wb := by rw [hwb]; exact below_alloc _ _
  have hbx : Blk wb w.heap.size 50 #[.int .i64 kd, .int .i64 oi, .int .i64 ot, .slice oA on oc] := by rw [hwb]; exact Blk.new _ _ _
  have H1 := Lib.hid (h1.below hba)
  have H2 := Lib.hid (h2.below hba)
  have HB := Lib.hid hba
  have HBX := Lib.hid hbx
  have x1 : wb.cell? ⟨w.heap.size, 1, none⟩ = some (.int .i64 oi) := hbx.cell 1
  have x2 : wb.cell? ⟨w.heap.size, 2, none⟩ = some (.int .i64 ot) := hbx.cell 2
  have hgl := hbx.lt
  have HT1 := Lib.hid (term_log H1.out oi)
  have HT2 := Lib.hid (fun q => rterm_log (H2.out.drewN q) oi)
  unfold TermEnds at HT1 HT2
  generalize termE b l oi = E1 at *
  generalize termV b t l oi = V1 at *
  obtain ⟨E2, hE2⟩ : ∃ E2, E2 = atE b l oi := ⟨_, rfl⟩
  have HE2 := Lib.hid hE2
  obtain ⟨E3, hE3⟩ : ∃ E3, E3 = sliceE b l oi := ⟨_, rfl⟩
  have HE3 := Lib.hid hE3
  have HW := Lib.hid hwb
  clear h1 h2 hba hbx hE2 hE3 hwb
  go_enter Try.func29, Try.ntmps29
  go_wp2_with fail
  rw [← HW.out]
  refine HT1.out.mono ?_
  rintro e w' ⟨rfl, q1, rfl⟩
  go_wp2_with fail
  refine (HT2.out q1).mono ?_
  rintro e w' ⟨rfl, q2, rfl⟩
  go_wp2_with fail
  refine (at_log (H1.out.drewN (q1 + q2)) oi).mono ?_
  rintro e w3 ⟨m1, he, hm1, hO1, hb3⟩
  rw [← HE2.out] at he
  subst he
  have HM1 := Lib.hid hm1
  have HB3 := Lib.hid ((below_drewN (Below.refl wb.heap.size wb) (q1 + q2)).trans hb3)
  have HO1 := Lib.hid hO1
  obtain ⟨wc, hwc⟩ : ∃ wc, wc = w3.alloc (.cells #[.int .i64 m1.e.term, .int .i64 m1.e.kind, .int .i64 m1.e.idn, .int .i64 m1.e.idc, .int .i64 m1.e.home, .string m1.e.key, .int .i64 m1.e.mode, .slice m1.aw m1.e.ws.length m1.cw, .slice m1.ag m1.e.gs.length m1.cg, .int .i64 m1.e.stamp, .int .i64 m1.e.out, .int .i64 m1.e.code, .int .i64 m1.e.grp] 37) := ⟨_, rfl⟩
  have hbc : Below w3.heap.size w3 wc := by rw [hwc]; exact below_alloc _ _
  have hk1 : Blk wc w3.heap.size 37 (mcell m1).toArray := by rw [hwc]; exact Blk.new _ _ _
  have HB4 := Lib.hid (HB3.out.trans (hbc.mono HB3.out.size))
  have y1 : (w3.alloc (.cells #[.int .i64 m1.e.term, .int .i64 m1.e.kind, .int .i64 m1.e.idn, .int .i64 m1.e.idc, .int .i64 m1.e.home, .string m1.e.key, .int .i64 m1.e.mode, .slice m1.aw m1.e.ws.length m1.cw, .slice m1.ag m1.e.gs.length m1.cg, .int .i64 m1.e.stamp, .int .i64 m1.e.out, .int .i64 m1.e.code, .int .i64 m1.e.grp] 37)).cell? ⟨w.heap.size, 1, none⟩ = some (.int .i64 oi) := by rw [← hwc]; exact (HB4.out.cell (p := ⟨w.heap.size, 1, none⟩) hgl).trans x1
  have HK1 := Lib.hid hk1
  have HO1 := Lib.hid (hO1.below hbc)
  have HWC := Lib.hid hwc
  have HX1 := Lib.hid x1
  have HX2 := Lib.hid x2
  have HBC3 := Lib.hid hbc.size
  clear hm1 hO1 hb3 hbc hk1 hwc x1 x2
  unfold magg
  go_wp2_with fail
  rw [← HWC.out]
  refine (rat_log (H2.out.below HB4.out) oi).mono ?_
  rintro e w5 ⟨m2, he, hm2, hO2, hb5⟩
  rw [← HE2.out] at he
  subst he
  have HM2 := Lib.hid hm2
  have HB5 := Lib.hid (HB4.out.trans (hb5.mono HB4.out.size))
  obtain ⟨we, hwe⟩ : ∃ we, we = w5.alloc (.cells #[.int .i64 m2.e.term, .int .i64 m2.e.kind, .int .i64 m2.e.idn, .int .i64 m2.e.idc, .int .i64 m2.e.home, .string m2.e.key, .int .i64 m2.e.mode, .slice m2.aw m2.e.ws.length m2.cw, .slice m2.ag m2.e.gs.length m2.cg, .int .i64 m2.e.stamp, .int .i64 m2.e.out, .int .i64 m2.e.code, .int .i64 m2.e.grp] 37) := ⟨_, rfl⟩
  have hbe : Below w5.heap.size w5 we := by rw [hwe]; exact below_alloc _ _
  have hk2 : Blk we w5.heap.size 37 (mcell m2).toArray := by rw [hwe]; exact Blk.new _ _ _
  have HB6 := Lib.hid (HB5.out.trans (hbe.mono HB5.out.size))
  have y1 : (w5.alloc (.cells #[.int .i64 m2.e.term, .int .i64 m2.e.kind, .int .i64 m2.e.idn, .int .i64 m2.e.idc, .int .i64 m2.e.home, .string m2.e.key, .int .i64 m2.e.mode, .slice m2.aw m2.e.ws.length m2.cw, .slice m2.ag m2.e.gs.length m2.cg, .int .i64 m2.e.stamp, .int .i64 m2.e.out, .int .i64 m2.e.code, .int .i64 m2.e.grp] 37)).cell? ⟨w.heap.size, 1, none⟩ = some (.int .i64 oi) := by rw [← hwe]; exact (HB6.out.cell (p := ⟨w.heap.size, 1, none⟩) hgl).trans HX1.out
  have y2 : (w5.alloc (.cells #[.int .i64 m2.e.term, .int .i64 m2.e.kind, .int .i64 m2.e.idn, .int .i64 m2.e.idc, .int .i64 m2.e.home, .string m2.e.key, .int .i64 m2.e.mode, .slice m2.aw m2.e.ws.length m2.cw, .slice m2.ag m2.e.gs.length m2.cg, .int .i64 m2.e.stamp, .int .i64 m2.e.out, .int .i64 m2.e.code, .int .i64 m2.e.grp] 37)).cell? ⟨w.heap.size, 2, none⟩ = some (.int .i64 ot) := by rw [← hwe]; exact (HB6.out.cell (p := ⟨w.heap.size, 2, none⟩) hgl).trans HX2.out
  have hbce := hb5.trans (hbe.mono hb5.size)
  have HK1 := Lib.hid (HK1.out.below hbce HK1.out.lt)
  have HO1 := Lib.hid (HO1.out.below hbce)
  have HK2 := Lib.hid hk2
  have HO2 := Lib.hid (hO2.below hbe)
  have HWE := Lib.hid hwe
  clear hm2 hO2 hb5 hbe hk2 hwe hbce
  unfold magg
  go_wp2_with fail
  rw [← HWE.out]
  have y1e : we.cell? ⟨w.heap.size, 1, none⟩ = some (.int .i64 oi) := by rw [HWE.out]; exact y1
  have y2e : we.cell? ⟨w.heap.size, 2, none⟩ = some (.int .i64 ot) := by rw [HWE.out]; exact y2
  clear y1 y2
  refine (slice_log (H1.out.below HB6.out) oi ot).mono ?_
  rintro e w7 ⟨A3, c3, ns, he, hn1, hO3, hb7⟩
  rw [← HE3.out] at he
  subst he
  have HN1 := Lib.hid hn1
  have HB7 := Lib.hid (HB6.out.trans (hb7.mono HB6.out.size))
  have y1f := (HB7.out.cell (p := ⟨w.heap.size, 1, none⟩) hgl).trans HX1.out
  have y2f := (HB7.out.cell (p := ⟨w.heap.size, 2, none⟩) hgl).trans HX2.out
  have HK1 := Lib.hid (HK1.out.below hb7 HK1.out.lt)
  have HO1 := Lib.hid (HO1.out.below hb7)
  have HK2 := Lib.hid (HK2.out.below hb7 HK2.out.lt)
  have HO2 := Lib.hid (HO2.out.below hb7)
  have HO3 := Lib.hid hO3
  have HLE : Hid (w.heap.size ≤ we.heap.size) := Lib.hid (Nat.le_trans HB.out.size HB6.out.size)
  clear hn1 hO3 hb7 y1e y2e
  go_wp2_with fail
  refine (rslice_log (H2.out.below HB7.out) oi ot).mono ?_
  rintro e w8 ⟨A4, c4, ns2, he, hn2, hO4, hb8⟩
  rw [← HE3.out] at he
  subst he
  have HN2 := Lib.hid hn2
  have HB8 := Lib.hid (HB7.out.trans (hb8.mono HB7.out.size))
  have HK1 := Lib.hid (HK1.out.below hb8 HK1.out.lt)
  have HO1 := Lib.hid (HO1.out.below hb8)
  have HK2 := Lib.hid (HK2.out.below hb8 HK2.out.lt)
  have HO2 := Lib.hid (HO2.out.below hb8)
  have HO3 := Lib.hid (HO3.out.below hb8)
  have HO4 := Lib.hid hO4
  clear hn2 hO4 hb8 y1f y2f
  -- the region that draws
  have hS : Hid (∀ w', Below w8.heap.size w8 w' → ((w'.cell? ⟨w3.heap.size, 0, none⟩ = some (.int .i64 m1.e.term) ∧ w'.cell? ⟨w3.heap.size, 1, none⟩ = some (.int .i64 m1.e.kind) ∧ w'.cell? ⟨w3.heap.size, 2, none⟩ = some (.int .i64 m1.e.idn) ∧ w'.cell? ⟨w3.heap.size, 3, none⟩ = some (.int .i64 m1.e.idc) ∧ w'.cell? ⟨w3.heap.size, 4, none⟩ = some (.int .i64 m1.e.home) ∧ w'.cell? ⟨w3.heap.size, 5, none⟩ = some (.string m1.e.key) ∧ w'.cell? ⟨w3.heap.size, 6, none⟩ = some (.int .i64 m1.e.mode) ∧ w'.cell? ⟨w3.heap.size, 7, none⟩ = some (.slice m1.aw m1.e.ws.length m1.cw) ∧ w'.cell? ⟨w3.heap.size, 8, none⟩ = some (.slice m1.ag m1.e.gs.length m1.cg) ∧ w'.cell? ⟨w3.heap.size, 9, none⟩ = some (.int .i64 m1.e.stamp) ∧ w'.cell? ⟨w3.heap.size, 10, none⟩ = some (.int .i64 m1.e.out) ∧ w'.cell? ⟨w3.heap.size, 11, none⟩ = some (.int .i64 m1.e.code) ∧ w'.cell? ⟨w3.heap.size, 12, none⟩ = some (.int .i64 m1.e.grp)) ∧ (w'.cell? ⟨w5.heap.size, 0, none⟩ = some (.int .i64 m2.e.term) ∧ w'.cell? ⟨w5.heap.size, 1, none⟩ = some (.int .i64 m2.e.kind) ∧ w'.cell? ⟨w5.heap.size, 2, none⟩ = some (.int .i64 m2.e.idn) ∧ w'.cell? ⟨w5.heap.size, 3, none⟩ = some (.int .i64 m2.e.idc) ∧ w'.cell? ⟨w5.heap.size, 4, none⟩ = some (.int .i64 m2.e.home) ∧ w'.cell? ⟨w5.heap.size, 5, none⟩ = some (.string m2.e.key) ∧ w'.cell? ⟨w5.heap.size, 6, none⟩ = some (.int .i64 m2.e.mode) ∧ w'.cell? ⟨w5.heap.size, 7, none⟩ = some (.slice m2.aw m2.e.ws.length m2.cw) ∧ w'.cell? ⟨w5.heap.size, 8, none⟩ = some (.slice m2.ag m2.e.gs.length m2.cg) ∧ w'.cell? ⟨w5.heap.size, 9, none⟩ = some (.int .i64 m2.e.stamp) ∧ w'.cell? ⟨w5.heap.size, 10, none⟩ = some (.int .i64 m2.e.out) ∧ w'.cell? ⟨w5.heap.size, 11, none⟩ = some (.int .i64 m2.e.code) ∧ w'.cell? ⟨w5.heap.size, 12, none⟩ = some (.int .i64 m2.e.grp))) ∧ w'.cell? ⟨w.heap.size, 1, none⟩ = some (.int .i64 oi) ∧ w'.cell? ⟨w.heap.size, 2, none⟩ = some (.int .i64 ot)) := Lib.hid (fun w' hb =>
    ⟨⟨blk13 (HK1.out.below hb HK1.out.lt), blk13 (HK2.out.below hb HK2.out.lt)⟩, (hb.cell (p := ⟨w.heap.size, 1, none⟩) (Nat.lt_of_lt_of_le hgl HB8.out.size)).trans ((HB8.out.cell (p := ⟨w.heap.size, 1, none⟩) hgl).trans HX1.out), (hb.cell (p := ⟨w.heap.size, 2, none⟩) (Nat.lt_of_lt_of_le hgl HB8.out.size)).trans ((HB8.out.cell (p := ⟨w.heap.size, 2, none⟩) hgl).trans HX2.out)⟩)
  have hs1 : SmallE m1 := atV_small H1.out oi HM1.out
  have hs2 : SmallE m2 := atV_small H1.out oi HM2.out
  have f1 : Fine w8 w8.heap.size m1 := HO1.out.fine
  have f2 : Fine w8 w8.heap.size m2 := HO2.out.fine
  have HC12 : Hid (Calls Try.prog 21 #[.slice (some ⟨w8.heap.size, 0, none⟩) 1 1, .slice (some ⟨w8.heap.size + 1, 0, none⟩) 1 1] ((w8.alloc (.cells #[.int .i64 m1.e.term, .int .i64 m1.e.kind, .int .i64 m1.e.idn, .int .i64 m1.e.idc, .int .i64 m1.e.home, .string m1.e.key, .int .i64 m1.e.mode, .slice m1.aw m1.e.ws.length m1.cw, .slice m1.ag m1.e.gs.length m1.cg, .int .i64 m1.e.stamp, .int .i64 m1.e.out, .int .i64 m1.e.code, .int .i64 m1.e.grp] 37)).alloc (.cells #[.int .i64 m2.e.term, .int .i64 m2.e.kind, .int .i64 m2.e.idn, .int .i64 m2.e.idc, .int .i64 m2.e.home, .string m2.e.key, .int .i64 m2.e.mode, .slice m2.aw m2.e.ws.length m2.cw, .slice m2.ag m2.e.gs.length m2.cg, .int .i64 m2.e.stamp, .int .i64 m2.e.out, .int .i64 m2.e.code, .int .i64 m2.e.grp] 37)).drew fun e w'' => e = .returned (.bool true) ∧ Below w8.heap.size w8 w'') := Lib.hid ((same_pair f1 f2 hs1 (by rw [HM1.out, HM2.out])).1)
  have HC21 : Hid (Calls Try.prog 21 #[.slice (some ⟨w8.heap.size + 1, 0, none⟩) 1 1, .slice (some ⟨w8.heap.size, 0, none⟩) 1 1] ((w8.alloc (.cells #[.int .i64 m2.e.term, .int .i64 m2.e.kind, .int .i64 m2.e.idn, .int .i64 m2.e.idc, .int .i64 m2.e.home, .string m2.e.key, .int .i64 m2.e.mode, .slice m2.aw m2.e.ws.length m2.cw, .slice m2.ag m2.e.gs.length m2.cg, .int .i64 m2.e.stamp, .int .i64 m2.e.out, .int .i64 m2.e.code, .int .i64 m2.e.grp] 37)).alloc (.cells #[.int .i64 m1.e.term, .int .i64 m1.e.kind, .int .i64 m1.e.idn, .int .i64 m1.e.idc, .int .i64 m1.e.home, .string m1.e.key, .int .i64 m1.e.mode, .slice m1.aw m1.e.ws.length m1.cw, .slice m1.ag m1.e.gs.length m1.cg, .int .i64 m1.e.stamp, .int .i64 m1.e.out, .int .i64 m1.e.code, .int .i64 m1.e.grp] 37)).drew fun e w'' => e = .returned (.bool true) ∧ Below w8.heap.size w8 w'') := Lib.hid ((same_pair f1 f2 hs1 (by rw [HM1.out, HM2.out])).2)
  have hnl : ns.length ≤ 512 := by
    have h1 := congrArg List.length HN1.out
    rw [es_len] at h1
    rw [h1]
    have h2 := H1.out.few
    unfold sliceL
    split
    · rw [List.length_take, List.length_drop]; omega
    · simp
  have HCC : Hid (∀ w', Below w8.heap.size w8 w' → Calls Try.prog 21 #[.slice A3 ns.length c3, .slice A4 ns2.length c4] w' fun e w'' => e = .returned (.bool true) ∧ Below w'.heap.size w' w'') := Lib.hid (fun w' hb =>
    sameE_yes A3 A4 c3 c4 ns ns2 w' ((HO3.out.ents.below hb).more hb.size) ((HO4.out.ents.below hb).more hb.size) (by rw [HN1.out, HN2.out]) (SmallL.of hnl (H1.out.small (fun e he => by rw [HN1.out] at he; exact sliceL_mem e he))))
  have HNX : Hid (∀ w', Below w8.heap.size w8 w' → Calls Try.prog 46 #[.pointer (some ⟨d1, 0, none⟩), .int .i64 oi, .int .i64 ot] w' fun e w'' => e = .returned (.bool (newerB (lastI b l) (lastT b t l) oi ot)) ∧ ∃ q, w'' = w'.drewN q) := Lib.hid (fun w' hb =>
    newer_log ((H1.out.below HB8.out).below hb) oi ot)
  have HNY : Hid (∀ w', Below w8.heap.size w8 w' → Calls Try.prog 47 #[.pointer (some ⟨d2, 0, none⟩), .int .i64 oi, .int .i64 ot] w' fun e w'' => e = .returned (.bool (newerB (lastI b l) (lastT b t l) oi ot)) ∧ ∃ q, w'' = w'.drewN q) := Lib.hid (fun w' hb =>
    rnewer_log ((H2.out.below HB8.out).below hb) oi ot)
  obtain ⟨nb, hnb⟩ : ∃ nb, nb = newerB (lastI b l) (lastT b t l) oi ot := ⟨_, rfl⟩
  rw [← hnb] at HNX HNY
  have hD : Below w8.heap.size w8 w8.drew := below_drewN (Below.refl _ _) 1
  have HSM : Hid (SmallL ns) := Lib.hid (SmallL.of hnl (H1.out.small (fun e he => by rw [HN1.out] at he; exact sliceL_mem e he)))
  clear hs1 hs2 f1 f2 hnl hnb
  have hA : ∀ o, Below w8.heap.size w8 (w8.alloc o).drew := fun o => below_drewN (below_alloc w8 o) 1
  have hAA : ∀ o p, Below w8.heap.size w8 ((w8.alloc o).alloc p).drew := fun o p => below_drewN ((below_alloc w8 o).alloc (by simp) p) 1
  go_wp2
  go_region_held3 (fun w' => ((w'.cell? ⟨w3.heap.size, 0, none⟩ = some (.int .i64 m1.e.term) ∧ w'.cell? ⟨w3.heap.size, 1, none⟩ = some (.int .i64 m1.e.kind) ∧ w'.cell? ⟨w3.heap.size, 2, none⟩ = some (.int .i64 m1.e.idn) ∧ w'.cell? ⟨w3.heap.size, 3, none⟩ = some (.int .i64 m1.e.idc) ∧ w'.cell? ⟨w3.heap.size, 4, none⟩ = some (.int .i64 m1.e.home) ∧ w'.cell? ⟨w3.heap.size, 5, none⟩ = some (.string m1.e.key) ∧ w'.cell? ⟨w3.heap.size, 6, none⟩ = some (.int .i64 m1.e.mode) ∧ w'.cell? ⟨w3.heap.size, 7, none⟩ = some (.slice m1.aw m1.e.ws.length m1.cw) ∧ w'.cell? ⟨w3.heap.size, 8, none⟩ = some (.slice m1.ag m1.e.gs.length m1.cg) ∧ w'.cell? ⟨w3.heap.size, 9, none⟩ = some (.int .i64 m1.e.stamp) ∧ w'.cell? ⟨w3.heap.size, 10, none⟩ = some (.int .i64 m1.e.out) ∧ w'.cell? ⟨w3.heap.size, 11, none⟩ = some (.int .i64 m1.e.code) ∧ w'.cell? ⟨w3.heap.size, 12, none⟩ = some (.int .i64 m1.e.grp)) ∧ (w'.cell? ⟨w5.heap.size, 0, none⟩ = some (.int .i64 m2.e.term) ∧ w'.cell? ⟨w5.heap.size, 1, none⟩ = some (.int .i64 m2.e.kind) ∧ w'.cell? ⟨w5.heap.size, 2, none⟩ = some (.int .i64 m2.e.idn) ∧ w'.cell? ⟨w5.heap.size, 3, none⟩ = some (.int .i64 m2.e.idc) ∧ w'.cell? ⟨w5.heap.size, 4, none⟩ = some (.int .i64 m2.e.home) ∧ w'.cell? ⟨w5.heap.size, 5, none⟩ = some (.string m2.e.key) ∧ w'.cell? ⟨w5.heap.size, 6, none⟩ = some (.int .i64 m2.e.mode) ∧ w'.cell? ⟨w5.heap.size, 7, none⟩ = some (.slice m2.aw m2.e.ws.length m2.cw) ∧ w'.cell? ⟨w5.heap.size, 8, none⟩ = some (.slice m2.ag m2.e.gs.length m2.cg) ∧ w'.cell? ⟨w5.heap.size, 9, none⟩ = some (.int .i64 m2.e.stamp) ∧ w'.cell? ⟨w5.heap.size, 10, none⟩ = some (.int .i64 m2.e.out) ∧ w'.cell? ⟨w5.heap.size, 11, none⟩ = some (.int .i64 m2.e.code) ∧ w'.cell? ⟨w5.heap.size, 12, none⟩ = some (.int .i64 m2.e.grp))) ∧ w'.cell? ⟨w.heap.size, 1, none⟩ = some (.int .i64 oi) ∧ w'.cell? ⟨w.heap.size, 2, none⟩ = some (.int .i64 ot))
    (first
      | with_reducible exact (hS.out _ hD)
      | with_reducible exact (hS.out _ (hA _))
      | with_reducible exact (hS.out _ (hAA _ _))
      | with_reducible exact hS.out _ hb9
      | with_reducible exact hS.out _ hb10
      | with_reducible exact hS.out _ (below_drewN hb10 _)
      | with_reducible exact hS.out _ (below_drewN (below_drewN hb10 _) _))
    (first
      | (go_at_call 21; with_reducible refine HC12.out.mono ?_; rintro e w9 ⟨rfl, hb9⟩)
      | (go_at_call 21; with_reducible refine HC21.out.mono ?_; rintro e w9 ⟨rfl, hb9⟩)
      | (go_at_call 21; with_reducible refine (HCC.out _ hb9).mono ?_; rintro e w10 ⟨rfl, hb10'⟩; have hb10 := hb9.trans (hb10'.mono hb9.size))
      | (go_at_call 46; with_reducible refine (HNX.out _ hb10).mono ?_; rintro e w' ⟨rfl, q5, rfl⟩)
      | (go_at_call 47; with_reducible refine (HNY.out _ (below_drewN hb10 _)).mono ?_; rintro e w' ⟨rfl, q6, rfl⟩))
  all_goals
    go_wp2_with fail
    have hwx : Below w8.heap.size w8 (w10.drewN (q5 + q6)) := below_drewN hb10 (q5 + q6)
    refine (spoil_any _ A3 c3 ns _ (HO3.out.below hwx) HSM.out).mono ?_
    rintro e wz ⟨rfl, hkz⟩
    have hfin : Below w.heap.size w wz := by
      have h8 := HB.out.trans (HB8.out.mono HB.out.size)
      have hx := h8.trans (hwx.mono h8.size)
      exact hx.trans (hkz.below hx.size (fun x hx => Nat.le_trans HLE.out (HO3.out.low x hx)))
    clear hkz hwx hb9 hb10
    go_wp2_with fail
    go_ret
    exact ⟨rfl, hfin⟩
end Go.Proofs.Ytdcnfdhhflmdcaa
