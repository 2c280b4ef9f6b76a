/- SameEntries of two rows alike. -/
import Derived.Test.YtdcnfdhhflmdcaaEntY
namespace Go.Proofs.Ytdcnfdhhflmdcaa
open Go.RowKit
set_option linter.unusedSimpArgs false
set_option linter.unusedVariables false

theorem range_below {w w' : World} {B b o : Nat} {cs : List Value} (h : w.rangeAt b o cs) (hb : Below B w w') (hB : b < B) : w'.rangeAt b o cs := fun j v hv => (hb.cell (p := ⟨b, o + j, none⟩) hB).trans (h j v hv)
theorem cells13 {w : World} {b o : Nat} {x : Ent} {A1 A2 : Option Addr} {c1 c2 : Nat} (h : w.rangeAt b o (mcell ⟨x, A1, c1, A2, c2⟩)) : w.cell? ⟨b, o, none⟩ = some (.int .i64 x.term) ∧ w.cell? ⟨b, o + 1, none⟩ = some (.int .i64 x.kind) ∧ w.cell? ⟨b, o + 2, none⟩ = some (.int .i64 x.idn) ∧ w.cell? ⟨b, o + 3, none⟩ = some (.int .i64 x.idc) ∧ w.cell? ⟨b, o + 4, none⟩ = some (.int .i64 x.home) ∧ w.cell? ⟨b, o + 5, none⟩ = some (.string x.key) ∧ w.cell? ⟨b, o + 6, none⟩ = some (.int .i64 x.mode) ∧ w.cell? ⟨b, o + 7, none⟩ = some (.slice A1 x.ws.length c1) ∧ w.cell? ⟨b, o + 8, none⟩ = some (.slice A2 x.gs.length c2) ∧ w.cell? ⟨b, o + 9, none⟩ = some (.int .i64 x.stamp) ∧ w.cell? ⟨b, o + 10, none⟩ = some (.int .i64 x.out) ∧ w.cell? ⟨b, o + 11, none⟩ = some (.int .i64 x.code) ∧ w.cell? ⟨b, o + 12, none⟩ = some (.int .i64 x.grp) :=
  ⟨h 0 _ rfl, h 1 _ rfl, h 2 _ rfl, h 3 _ rfl, h 4 _ rfl, h 5 _ rfl, h 6 _ rfl, h 7 _ rfl, h 8 _ rfl, h 9 _ rfl, h 10 _ rfl, h 11 _ rfl, h 12 _ rfl⟩
def SameERel (n : Nat) (w0 : World) (i : Value) (wr : World) : Prop := ∃ k : Nat, i = .int .i64 k ∧ k ≤ n ∧ Below w0.heap.size w0 wr
set_option maxHeartbeats 4000000 in
set_option maxRecDepth 100000 in
theorem sameE_yes (A A' : Option Addr) (c c' : Nat) (ms ms' : List MEnt) (w : World) (h1 : Ents w w.heap.size A ms.length ms) (h2 : Ents w w.heap.size A' ms'.length ms') (he : es ms' = es ms) (hs : SmallL ms) :
    Calls Try.prog 21 #[.slice A ms.length c, .slice A' ms'.length c'] w fun e w' => e = .returned (.bool true) ∧ Below w.heap.size w w' := by
  have hl : ms'.length = ms.length := by rw [← es_len ms', he, es_len]
  rw [hl]
  have hn : ms.length ≤ 977343669134 := by have := hs.1; omega
  have HS := Lib.hid hs.2
  have H1 := Lib.hid h1
  have H2 := Lib.hid h2
  have HE := Lib.hid he
  have HL := Lib.hid hl
  clear hs h1 h2 he hl
  go_enter Try.func21, Try.ntmps21
  go_wp2
  go_loopw [5] (SameERel ms.length w) (fun i _ => ms.length - (intOf i).toNat)
  case atStart => exact ⟨0, rfl, Nat.zero_le _, Below.refl _ _⟩
  case round =>
    obtain ⟨k, rfl, hk, hb⟩ := hrel
    by_cases hlt : k < ms.length
    · have hE1 := H1.out.below hb
      have hE2 := H2.out.below hb
      have hlt2 : k < ms'.length := by rw [HL.out]; exact hlt
      obtain ⟨b1, o1, rfl, hb1, hr1⟩ := hE1.range hlt
      obtain ⟨b2, o2, rfl, hb2, hr2⟩ := hE2.range hlt2
      have hf1 := hE1.fine _ (gme_mem hlt)
      have hf2 := hE2.fine _ (gme_mem hlt2)
      have hsm := HS.out _ (gme_mem hlt)
      have hxe : (gme ms' k).e = (gme ms k).e := by
        rw [← es_at hlt, ← es_at hlt2]
        congr 1
      generalize gme ms k = m at *
      generalize gme ms' k = m' at *
      obtain ⟨x, A1, c1, A2, c2⟩ := m
      obtain ⟨x', A3, c3, A4, c4⟩ := m'
      simp only at hxe
      subst hxe
      have HC := Lib.hid (sameC_yes x' A1 A2 A3 A4 c1 c2 c3 c4 wr.drew ((hf1.wr.more hb.size).drewN 1) ((hf1.gr.more hb.size).drewN 1) ((hf2.wr.more hb.size).drewN 1) ((hf2.gr.more hb.size).drewN 1) hsm.1 hsm.2)
      unfold cagg at HC
      have kL : (0 : Int) ≤ (k : Int) := by omega
      have kU : (k : Int) < (ms.length : Int) := by omega
      have hr1d : wr.drew.rangeAt b1 (o1 + k * 13) (mcell ⟨x', A1, c1, A2, c2⟩) := hr1
      have hr2d : wr.drew.rangeAt b2 (o2 + k * 13) (mcell ⟨x', A3, c3, A4, c4⟩) := hr2
      have hb1d : b1 < wr.drew.heap.size := Nat.lt_of_lt_of_le hb1 hb.size
      have hb2d : b2 < wr.drew.heap.size := Nat.lt_of_lt_of_le hb2 hb.size
      clear hf1 hf2 hsm hE1 hE2 hr1 hr2
      go_wp2
      go_region_held3 (fun w' => (w'.cell? ⟨b1, o1 + k * 13, none⟩ = some (.int .i64 x'.term) ∧ w'.cell? ⟨b1, o1 + k * 13 + 1, none⟩ = some (.int .i64 x'.kind) ∧ w'.cell? ⟨b1, o1 + k * 13 + 2, none⟩ = some (.int .i64 x'.idn) ∧ w'.cell? ⟨b1, o1 + k * 13 + 3, none⟩ = some (.int .i64 x'.idc) ∧ w'.cell? ⟨b1, o1 + k * 13 + 4, none⟩ = some (.int .i64 x'.home) ∧ w'.cell? ⟨b1, o1 + k * 13 + 5, none⟩ = some (.string x'.key) ∧ w'.cell? ⟨b1, o1 + k * 13 + 6, none⟩ = some (.int .i64 x'.mode) ∧ w'.cell? ⟨b1, o1 + k * 13 + 7, none⟩ = some (.slice A1 x'.ws.length c1) ∧ w'.cell? ⟨b1, o1 + k * 13 + 8, none⟩ = some (.slice A2 x'.gs.length c2) ∧ w'.cell? ⟨b1, o1 + k * 13 + 9, none⟩ = some (.int .i64 x'.stamp) ∧ w'.cell? ⟨b1, o1 + k * 13 + 10, none⟩ = some (.int .i64 x'.out) ∧ w'.cell? ⟨b1, o1 + k * 13 + 11, none⟩ = some (.int .i64 x'.code) ∧ w'.cell? ⟨b1, o1 + k * 13 + 12, none⟩ = some (.int .i64 x'.grp)) ∧ (w'.cell? ⟨b2, o2 + k * 13, none⟩ = some (.int .i64 x'.term) ∧ w'.cell? ⟨b2, o2 + k * 13 + 1, none⟩ = some (.int .i64 x'.kind) ∧ w'.cell? ⟨b2, o2 + k * 13 + 2, none⟩ = some (.int .i64 x'.idn) ∧ w'.cell? ⟨b2, o2 + k * 13 + 3, none⟩ = some (.int .i64 x'.idc) ∧ w'.cell? ⟨b2, o2 + k * 13 + 4, none⟩ = some (.int .i64 x'.home) ∧ w'.cell? ⟨b2, o2 + k * 13 + 5, none⟩ = some (.string x'.key) ∧ w'.cell? ⟨b2, o2 + k * 13 + 6, none⟩ = some (.int .i64 x'.mode) ∧ w'.cell? ⟨b2, o2 + k * 13 + 7, none⟩ = some (.slice A3 x'.ws.length c3) ∧ w'.cell? ⟨b2, o2 + k * 13 + 8, none⟩ = some (.slice A4 x'.gs.length c4) ∧ w'.cell? ⟨b2, o2 + k * 13 + 9, none⟩ = some (.int .i64 x'.stamp) ∧ w'.cell? ⟨b2, o2 + k * 13 + 10, none⟩ = some (.int .i64 x'.out) ∧ w'.cell? ⟨b2, o2 + k * 13 + 11, none⟩ = some (.int .i64 x'.code) ∧ w'.cell? ⟨b2, o2 + k * 13 + 12, none⟩ = some (.int .i64 x'.grp))) (first | exact ⟨cells13 hr1d, cells13 hr2d⟩ | exact ⟨cells13 hr1e, cells13 hr2e⟩)
        ((go_at_call 37; refine HC.out.mono ?_; rintro e w1 ⟨rfl, hbc⟩; have hr1e := range_below hr1d hbc hb1d; have hr2e := range_below hr2d hbc hb2d))
      have hbn : Below w.heap.size w w1 := hb.trans (((below_drewN (Below.refl _ _) 1).trans hbc).mono hb.size)
      go_wp2
      go_roundw
      case rel => exact ⟨k + 1, by go_num, by omega, hbn⟩
      case measure => simp [intOf]; omega
    · go_wp2
      go_ret
      exact ⟨rfl, hb⟩
end Go.Proofs.Ytdcnfdhhflmdcaa
