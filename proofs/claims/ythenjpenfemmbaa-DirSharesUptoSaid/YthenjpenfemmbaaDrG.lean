/- Layer 12: Range, and the chapter's first example. -/
import Derived.Test.YthenjpenfemmbaaDrF
namespace Go.Proofs.Ythenjpenfemmbaa
open Go.RowKit
set_option linter.unusedSimpArgs false
set_option linter.unusedVariables false

/-- a group's first key, and the next one's -/
def fromK (L : List ByteArray) (g : Nat) : ByteArray := if 0 < g then gx L (g - 1) else E0
def toK (L : List ByteArray) (g : Nat) : ByteArray := if g < L.length then gx L g else E0
def RangeIs (L : List ByteArray) (g : Nat) (w : World) (e : Ending) (w' : World) : Prop := e = .returned (.tuple #[.string (fromK L g), .string (toK L g), .int .i64 0]) ∧ w = w'
set_option maxHeartbeats 4000000 in
set_option maxRecDepth 100000 in
theorem range_in (d : Nat) (A : Option Addr) (c : Nat) (L : List ByteArray) (g : Nat) (w : World) (h : IsD w d L A c) (hfew : L.length < 8) (hg : g ≤ L.length) :
    Calls Try.prog 16 #[.pointer (some ⟨d, 0, none⟩), .int .i64 g] w (RangeIs L g w) := by
  have c0 := h.blk.cell 0
  simp only [List.getElem?_toArray, List.getElem?_cons_zero] at c0
  have hq1 : decide ((g : Int) < 0) = false := decide_eq_false (by omega)
  have hq2 : ¬ ((g : Int) < 0) := by omega
  by_cases h0 : 0 < g
  · obtain ⟨ad, rfl, _, hcell⟩ := h.row.text (k := g - 1) (by omega)
    have hF := Lib.hid (show fromK L g = gx L (g - 1) by unfold fromK; rw [if_pos h0])
    have h1 : 1 ≤ g := h0
    by_cases h2 : g < L.length
    · obtain ⟨ad', e', _, hcell2⟩ := h.row.text (k := g) h2
      cases e'
      have hT := Lib.hid (show toK L g = gx L g by unfold toK; rw [if_pos h2])
      go_enter Try.func16, Try.ntmps16
      go_wp2_with (go_at_call 10; refine (groups_any d _ c L _ h hfew).mono ?_; rintro e w' ⟨rfl, rfl⟩)
      go_ret3
      exact ⟨by rw [hF.out, hT.out]; rfl, rfl⟩
    · have hT := Lib.hid (show toK L g = E0 by unfold toK; rw [if_neg h2])
      have h3 : L.length ≤ g := by omega
      go_enter Try.func16, Try.ntmps16
      go_wp2_with (go_at_call 10; refine (groups_any d _ c L _ h hfew).mono ?_; rintro e w' ⟨rfl, rfl⟩)
      go_ret3
      exact ⟨by rw [hF.out, hT.out]; rfl, rfl⟩
  · have hF := Lib.hid (show fromK L g = E0 by unfold fromK; rw [if_neg h0])
    have hq3 : decide (0 < (g : Int)) = false := decide_eq_false (by omega)
    have hq4 : decide (0 < g) = false := decide_eq_false h0
    by_cases h2 : g < L.length
    · obtain ⟨ad, rfl, _, hcell2⟩ := h.row.text (k := g) h2
      have hT := Lib.hid (show toK L g = gx L g by unfold toK; rw [if_pos h2])
      go_enter Try.func16, Try.ntmps16
      go_wp2_with (go_at_call 10; refine (groups_any d _ c L _ h hfew).mono ?_; rintro e w' ⟨rfl, rfl⟩)
      go_ret3
      exact ⟨by rw [hF.out, hT.out]; rfl, rfl⟩
    · have hT := Lib.hid (show toK L g = E0 by unfold toK; rw [if_neg h2])
      have h3 : L.length ≤ g := by omega
      go_enter Try.func16, Try.ntmps16
      go_wp2_with (go_at_call 10; refine (groups_any d _ c L _ h hfew).mono ?_; rintro e w' ⟨rfl, rfl⟩)
      go_ret3
      exact ⟨by rw [hF.out, hT.out]; rfl, rfl⟩

/-! ### the first example -/
def GP : List ByteArray := [⟨#[103]⟩, ⟨#[112]⟩]
theorem tl (l : List UInt8) : (ByteArray.mk l.toArray).toList = l := by rw [ByteArray.toList_eq]
theorem bl_mk (a b : List UInt8) : bl ⟨a.toArray⟩ ⟨b.toArray⟩ = Op.bytesLess a b := by unfold bl; rw [tl, tl]
theorem gp_new : newE GP = 0 := by
  have h1 : badAt GP 0 = 0 := bad_not rfl (fun h => absurd h (by omega))
  have h2 : badAt GP 1 = 0 := bad_not rfl (fun _ => bl_mk [103] [112])
  show scanI GP (1 + 1) 0 = 0
  rw [scan_on h1, scan_on h2]
  rfl
theorem gp_grp (l : List UInt8) (hk : keyB ⟨l.toArray⟩ = true) (k : Nat) (h : (if Op.bytesLess l [103] = false then 1 else 0) + (if Op.bytesLess l [112] = false then 1 else 0) = k) : grp GP ⟨l.toArray⟩ = k := by
  unfold grp
  rw [hk, if_pos rfl, ← h]
  have e : cntE GP ⟨l.toArray⟩ = (if le ⟨[103].toArray⟩ ⟨l.toArray⟩ = true then 1 else 0) + (if le ⟨[112].toArray⟩ ⟨l.toArray⟩ = true then 1 else 0) := by
    unfold cntE GP
    rw [List.countP_cons, List.countP_cons, List.countP_nil]
    omega
  rw [e]
  unfold le
  rw [bl_mk, bl_mk]
  simp
theorem gp_f : grp GP ⟨#[102]⟩ = 0 := gp_grp [102] rfl 0 rfl
theorem gp_g : grp GP ⟨#[103]⟩ = 1 := gp_grp [103] rfl 1 rfl
theorem gp_zz : grp GP ⟨#[122, 122]⟩ = 2 := gp_grp [122, 122] rfl 2 rfl
theorem gp_no : grp GP ⟨#[]⟩ = -1 := rfl
theorem reads_blk {w : World} {g B : Nat} {t : TypeId} {cs : Array Value} (h : Blk w g t cs) (hB : g < B) : Reads w B 1 (some ⟨g, 0, none⟩) cs.size cs.toList :=
  ⟨by simp, fun _ => ⟨_, rfl, hB, fun j u hj => by
    rw [Addr.add_lit, Nat.zero_add]
    exact (h.cell j).trans (by simpa using hj)⟩⟩
set_option maxHeartbeats 4000000 in
set_option maxRecDepth 100000 in
theorem works_any (w : World) : Calls Try.prog 14 #[] w fun e w' => e = .returned (.bool true) ∧ Below w.heap.size w w' := by
  have hr : Reads (w.alloc (.cells #[.string ⟨#[103]⟩, .string ⟨#[112]⟩] 9)) (w.alloc (.cells #[.string ⟨#[103]⟩, .string ⟨#[112]⟩] 9)).heap.size 1 (some ⟨w.heap.size, 0, none⟩) GP.length (sc GP) :=
    reads_blk (Blk.new w 9 #[.string ⟨#[103]⟩, .string ⟨#[112]⟩]) (by simp)
  have HN := Lib.hid (dnew_ok (some ⟨w.heap.size, 0, none⟩) 2 _ GP _ hr (Nat.le_refl _) (by decide) gp_new)
  have hRi := newE_zero gp_new
  have hb0 := below_alloc w (.cells #[.string ⟨#[103]⟩, .string ⟨#[112]⟩] 9)
  have q1 : ((ByteArray.mk #[103]).toList == (ByteArray.mk #[103]).toList) = true := by simp
  have q2 : ((ByteArray.mk #[112]).toList == (ByteArray.mk #[112]).toList) = true := by simp
  clear hr
  go_enter Try.func14, Try.ntmps14
  go_wp2_with fail
  refine HN.out.mono ?_
  clear HN
  rintro e w1 ⟨d, A, c, rfl, hD, hb1, _, _⟩
  have hbe := hb0.trans (hb1.mono hb0.size)
  have HR : Hid (Calls Try.prog 16 #[.pointer (some ⟨d, 0, none⟩), .int .i64 1] w1 fun e w' => e = .returned (.tuple #[.string ⟨#[103]⟩, .string ⟨#[112]⟩, .int .i64 0]) ∧ w1 = w') := Lib.hid (range_in d A c GP 1 w1 hD (by decide) (by decide))
  have HG := Lib.hid (groups_any d A c GP w1 hD (by decide))
  have H1 := Lib.hid (group_any d A c GP ⟨#[102]⟩ w1 hD hRi)
  have H2 := Lib.hid (group_any d A c GP ⟨#[103]⟩ w1 hD hRi)
  have H3 := Lib.hid (group_any d A c GP ⟨#[122, 122]⟩ w1 hD hRi)
  have H4 := Lib.hid (group_any d A c GP ⟨#[]⟩ w1 hD hRi)
  rw [gp_f] at H1
  rw [gp_g] at H2
  rw [gp_zz] at H3
  rw [gp_no] at H4
  clear hD hRi
  go_wp2_with (first | (go_at_call 9; refine (num_any _ _).mono ?_; rintro e w' ⟨rfl, rfl⟩) | (go_at_call 16; refine HR.out.mono ?_; rintro e w' ⟨rfl, rfl⟩) | (go_at_call 10; refine HG.out.mono ?_; rintro e w' ⟨rfl, rfl⟩))
  go_wp2_with fail
  refine H1.out.mono ?_
  rintro e w' ⟨rfl, rfl⟩
  go_wp2_with fail
  refine H2.out.mono ?_
  rintro e w' ⟨rfl, rfl⟩
  go_wp2_with fail
  refine H3.out.mono ?_
  rintro e w' ⟨rfl, rfl⟩
  go_wp2_with fail
  refine H4.out.mono ?_
  rintro e w' ⟨rfl, rfl⟩
  go_wp2_with (go_at_call 9; refine (num_any _ _).mono ?_; rintro e w' ⟨rfl, rfl⟩)
  go_ret
  exact ⟨rfl, hbe⟩
end Go.Proofs.Ythenjpenfemmbaa
