/- Rows of identities and of locks: BinarySearchFunc. -/
import Derived.Test.YtpidpdbjjdkhoaaGreatLkG
namespace Go.Proofs.YtpidpdbjjdkhoaaGreat
open Go.RowKit
set_option linter.unusedSimpArgs false
set_option linter.unusedVariables false
attribute [local go_sem ↓] Go.wp_at_zero Go.wp_at_succ

theorem cmpI_at {x y : Idn} (h : ol y x = false) : (cmpI y x == 0) = !ol x y := by
  cases h2 : ol x y with
  | true =>
    rw [beq_eq_false_iff_ne.2]; rfl
    intro h0
    rw [cmpI_zero.1 h0, ol_ord.irr] at h2; cases h2
  | false => rw [ol_eq h h2, cmpI_self]; rfl
theorem cmpL_at {x y : Lk} (h : ah y x = false) : (cmpL y x == 0) = !ah x y := by
  cases h2 : ah x y with
  | true =>
    rw [beq_eq_false_iff_ne.2]; rfl
    intro h0
    have := cmpL_zero.1 h0
    rw [ah_at ⟨this.1.symm, this.2.symm⟩] at h2; cases h2
  | false => rw [cmpL_zero.2 (ah_eq h h2)]; rfl
def BsEnds {α : Type} (lt : α → α → Bool) (x : α) (l : List α) (w : World) (e : Ending) (w' : World) : Prop :=
  e = .returned (.tuple #[.int .i64 (pos lt x l), .bool (isAt lt x l)]) ∧ Below w.heap.size w w'
def BsRel {α : Type} (lt : α → α → Bool) (x : α) (l : List α) (w : World) (i j : Value) (wr : World) : Prop :=
  ∃ lo hi : Nat, i = .int .i64 lo ∧ j = .int .i64 hi ∧ lo ≤ hi ∧ hi ≤ l.length ∧ (∀ k y, k + 1 = lo → l[k]? = some y → lt y x = true) ∧ (∀ y, l[hi]? = some y → lt y x = false) ∧ Below w.heap.size w wr
theorem isAt_ofI {x : Idn} {l : List Idn} {lo : Nat} (h : pos ol x l = lo) (hlo : lo < l.length) : isAt ol x l = !ol x (gr idR l lo) := by
  unfold isAt
  rw [h, gr_get (R := idR) hlo]
theorem isAt_noI {x : Idn} {l : List Idn} {lo : Nat} (h : pos ol x l = lo) (hlo : ¬ lo < l.length) : isAt ol x l = false := by
  unfold isAt
  rw [h, List.getElem?_eq_none (by omega)]
set_option maxHeartbeats 4000000 in
set_option maxRecDepth 100000 in
theorem bsfI (A : Option Addr) (c : Nat) (l : List Idn) (x : Idn) (w : World) (hr : Reads w w.heap.size 2 A l.length (rc idR l)) (hs : Srt ol l) (hl : l.length ≤ 8796093022208) :
    Calls Tryz.prog 83 #[.slice A l.length c, idV x, .func (.func 71) #[] #[]] w (BsEnds ol x l w) := by
  have HR := Lib.hid hr
  have HS := Lib.hid hs
  clear hr hs
  unfold idV
  go_enter Tryz.func83, Tryz.ntmps83
  go_upto_block 0 with fail
  have k1 := Blk.new w 29 #[.int .i64 x.n, .int .i64 x.c]
  have HB := Lib.hid (below_alloc w (.cells #[.int .i64 x.n, .int .i64 x.c] 29))
  obtain ⟨w2, hw2⟩ : ∃ w2, w2 = (w.alloc (.cells #[.int .i64 x.n, .int .i64 x.c] 29)) := ⟨_, rfl⟩
  obtain ⟨p1, hp1⟩ : ∃ p1, p1 = w.heap.size := ⟨_, rfl⟩
  rw [← hw2] at HB k1
  rw [← hp1] at k1
  rw [← hw2]
  rw [← hp1]
  clear hw2 hp1
  have HR2 := Lib.hid ((HR.out.below HB.out).more HB.out.size)
  have HK1 := Lib.hid k1
  clear k1
  go_wp2_with fail
  go_loopw [9, 10] (BsRel ol x l w2) (fun i j _ => (intOf j).toNat - (intOf i).toNat)
  case atStart => exact ⟨0, l.length, rfl, rfl, Nat.zero_le _, Nat.le_refl _, fun k y h => absurd h (by omega), fun y h => (by (rw [List.getElem?_eq_none (Nat.le_refl _)] at h); (cases h)), Below.refl _ _⟩
  case round =>
    obtain ⟨lo, hi, rfl, rfl, hlh, hhl, h1, h2, hb⟩ := hrel
    have H1 := Lib.hid h1
    have H2 := Lib.hid h2
    have HBW := Lib.hid hb
    by_cases hlt : lo < hi
    · have HLT : Hid ((lo + hi) / 2 < l.length) := Lib.hid (by omega)
      obtain ⟨b, off, rfl, _, _, _⟩ := rdI (HR2.out.below hb) HLT.out
      obtain ⟨y, hy⟩ : ∃ y, y = gr idR l ((lo + hi) / 2) := ⟨_, rfl⟩
      have HY := Lib.hid hy
      have HG : Hid (l[(lo + hi) / 2]? = some y) := Lib.hid (by rw [hy]; exact gr_get HLT.out)
      have HC := Lib.hid (age_cmp y x)
      unfold idV at HC
      have kL : (0 : Int) ≤ (lo : Int) + (hi : Int) := by omega
      have hm1 : (lo + hi) / 2 < l.length := HLT.out
      have hm2 : (lo + hi) / 2 < hi := by omega
      have hm3 : lo ≤ (lo + hi) / 2 := by omega
      have kM1 : (0 : Int) ≤ ((lo : Int) + (hi : Int)) / 2 := by omega
      have kM2 : ((lo : Int) + (hi : Int)) / 2 < (l.length : Int) := by omega
      have kM3 : (((lo : Int) + (hi : Int)) / 2).toNat = (lo + hi) / 2 := by omega
      clear h1 h2 hb hy
      obtain ⟨g, hg⟩ : ∃ g, g = cmpI y x := ⟨_, rfl⟩
      rw [← hg] at HC
      have HGG := Lib.hid hg
      clear hg
      cases hp : ol y x with
      | true =>
        have HP := Lib.hid hp
        have z : decide (g < 0) = true := decide_eq_true (by rw [HGG.out, cmpI_neg]; exact hp)
        have z' : g < 0 := of_decide_eq_true z
        clear hp
        have hS : Hid (∀ w', Below wr.heap.size wr w' → (w'.cell? ⟨b, off + (lo + hi) / 2 * 2, none⟩ = some (.int .i64 y.n) ∧ w'.cell? ⟨b, off + (lo + hi) / 2 * 2 + 1, none⟩ = some (.int .i64 y.c) ∧ w'.cell? ⟨p1, 0, none⟩ = some (.int .i64 x.n) ∧ w'.cell? ⟨p1, 1, none⟩ = some (.int .i64 x.c))) := Lib.hid (fun w' hb => by
          have hb' := HBW.out.trans (hb.mono HBW.out.size)
          obtain ⟨b', off', hA, _, c0, c1⟩ := rdI (HR2.out.below hb') HLT.out
          injection hA with hA
          injection hA with e1 e2
          subst e1 e2
          have hk := HK1.out.below hb' HK1.out.lt
          rw [HY.out]
          exact ⟨c0, c1, hk.cell 0, hk.cell 1⟩)
        have hD : Below wr.heap.size wr wr.drew := below_drewN (Below.refl _ _) 1
        go_wp2
        go_region_held3 (fun w' => w'.cell? ⟨b, off + (lo + hi) / 2 * 2, none⟩ = some (.int .i64 y.n) ∧ w'.cell? ⟨b, off + (lo + hi) / 2 * 2 + 1, none⟩ = some (.int .i64 y.c) ∧ w'.cell? ⟨p1, 0, none⟩ = some (.int .i64 x.n) ∧ w'.cell? ⟨p1, 1, none⟩ = some (.int .i64 x.c))
          (first | with_reducible exact hS.out _ hD | with_reducible exact hS.out _ hb3')
          (first | (go_at_call 71; (refine (HC.out _).mono ?_); rintro e w3 ⟨rfl, hb3⟩; have hb3' : Below wr.heap.size wr w3 := hD.trans (hb3.mono hD.size)))
        go_wp2
        go_roundw
        case rel => exact ⟨(lo + hi) / 2 + 1, hi, by go_num, rfl, by omega, hhl, fun k y' hk hy' => by
            have e : k = (lo + hi) / 2 := by omega
            rw [e, HG.out] at hy'
            injection hy' with hy'
            rw [← hy']; exact HP.out, H2.out, HBW.out.trans (hb3'.mono HBW.out.size)⟩
        case measure => simp [intOf]; omega
      | false =>
        have HP := Lib.hid hp
        have z' : ¬ g < 0 := by rw [HGG.out, cmpI_neg, hp]; simp
        have z : decide (g < 0) = false := decide_eq_false z'
        clear hp
        have hS : Hid (∀ w', Below wr.heap.size wr w' → (w'.cell? ⟨b, off + (lo + hi) / 2 * 2, none⟩ = some (.int .i64 y.n) ∧ w'.cell? ⟨b, off + (lo + hi) / 2 * 2 + 1, none⟩ = some (.int .i64 y.c) ∧ w'.cell? ⟨p1, 0, none⟩ = some (.int .i64 x.n) ∧ w'.cell? ⟨p1, 1, none⟩ = some (.int .i64 x.c))) := Lib.hid (fun w' hb => by
          have hb' := HBW.out.trans (hb.mono HBW.out.size)
          obtain ⟨b', off', hA, _, c0, c1⟩ := rdI (HR2.out.below hb') HLT.out
          injection hA with hA
          injection hA with e1 e2
          subst e1 e2
          have hk := HK1.out.below hb' HK1.out.lt
          rw [HY.out]
          exact ⟨c0, c1, hk.cell 0, hk.cell 1⟩)
        have hD : Below wr.heap.size wr wr.drew := below_drewN (Below.refl _ _) 1
        go_wp2
        go_region_held3 (fun w' => w'.cell? ⟨b, off + (lo + hi) / 2 * 2, none⟩ = some (.int .i64 y.n) ∧ w'.cell? ⟨b, off + (lo + hi) / 2 * 2 + 1, none⟩ = some (.int .i64 y.c) ∧ w'.cell? ⟨p1, 0, none⟩ = some (.int .i64 x.n) ∧ w'.cell? ⟨p1, 1, none⟩ = some (.int .i64 x.c))
          (first | with_reducible exact hS.out _ hD | with_reducible exact hS.out _ hb3')
          (first | (go_at_call 71; (refine (HC.out _).mono ?_); rintro e w3 ⟨rfl, hb3⟩; have hb3' : Below wr.heap.size wr w3 := hD.trans (hb3.mono hD.size)))
        go_wp2
        go_roundw
        case rel => exact ⟨lo, (lo + hi) / 2, rfl, by go_num, by omega, by omega, H1.out, fun y' hy' => by
            rw [HG.out] at hy'
            injection hy' with hy'
            rw [← hy']; exact HP.out, HBW.out.trans (hb3'.mono HBW.out.size)⟩
        case measure => simp [intOf]; omega
    · obtain rfl : lo = hi := by omega
      have HPOS := Lib.hid (pos_of ol_ord HS.out hhl h1 h2)
      have hlt2 : decide ((lo : Int) < lo) = false := decide_eq_false (by omega)
      by_cases hn : lo < l.length
      · have HLT := Lib.hid hn
        obtain ⟨b, off, rfl, _, _, _⟩ := rdI (HR2.out.below hb) hn
        obtain ⟨y, hy⟩ : ∃ y, y = gr idR l (lo) := ⟨_, rfl⟩
        have HY := Lib.hid hy
        have hyx : ol y x = false := h2 y (by rw [hy]; exact gr_get hn)
        have HF : Hid (isAt ol x l = (cmpI y x == 0)) := Lib.hid (by rw [isAt_ofI HPOS.out hn, ← hy, cmpI_at hyx])
        have HC := Lib.hid (age_cmp y x)
        unfold idV at HC
        have hlt4 : decide ((lo : Int) < l.length) = true := decide_eq_true (by omega)
        obtain ⟨g, hg⟩ : ∃ g, g = cmpI y x := ⟨_, rfl⟩
        rw [← hg] at HC HF
        have kL : (0 : Int) ≤ (lo : Int) := by omega
        have kU : (lo : Int) < (l.length : Int) := by omega
        clear h1 h2 hb hy hyx hg
        have hS : Hid (∀ w', Below wr.heap.size wr w' → (w'.cell? ⟨b, off + lo * 2, none⟩ = some (.int .i64 y.n) ∧ w'.cell? ⟨b, off + lo * 2 + 1, none⟩ = some (.int .i64 y.c) ∧ w'.cell? ⟨p1, 0, none⟩ = some (.int .i64 x.n) ∧ w'.cell? ⟨p1, 1, none⟩ = some (.int .i64 x.c))) := Lib.hid (fun w' hb => by
          have hb' := HBW.out.trans (hb.mono HBW.out.size)
          obtain ⟨b', off', hA, _, c0, c1⟩ := rdI (HR2.out.below hb') HLT.out
          injection hA with hA
          injection hA with e1 e2
          subst e1 e2
          have hk := HK1.out.below hb' HK1.out.lt
          rw [HY.out]
          exact ⟨c0, c1, hk.cell 0, hk.cell 1⟩)
        have hD : Below wr.heap.size wr wr.drew := below_drewN (Below.refl _ _) 1
        go_wp2
        go_region_held3 (fun w' => w'.cell? ⟨b, off + lo * 2, none⟩ = some (.int .i64 y.n) ∧ w'.cell? ⟨b, off + lo * 2 + 1, none⟩ = some (.int .i64 y.c) ∧ w'.cell? ⟨p1, 0, none⟩ = some (.int .i64 x.n) ∧ w'.cell? ⟨p1, 1, none⟩ = some (.int .i64 x.c))
          (first | with_reducible exact hS.out _ hD | with_reducible exact hS.out _ hb3')
          (first | (go_at_call 71; (refine (HC.out _).mono ?_); rintro e w3 ⟨rfl, hb3⟩; have hb3' : Below wr.heap.size wr w3 := hD.trans (hb3.mono hD.size)))
        go_wp2
        go_ret2
        exact ⟨by rw [HF.out, HPOS.out]; rfl, HB.out.trans ((HBW.out.trans (hb3'.mono HBW.out.size)).mono HB.out.size)⟩
      · have hlt4 : decide ((lo : Int) < l.length) = false := decide_eq_false (by omega)
        have HF := Lib.hid (isAt_noI HPOS.out hn)
        clear h1 h2 hb
        go_wp2
        go_quiet (fail)
        go_wp2
        go_ret2
        exact ⟨by rw [HF.out, HPOS.out]; rfl, below_drewN (HB.out.trans (HBW.out.mono HB.out.size)) _⟩
theorem isAt_ofL {x : Lk} {l : List Lk} {lo : Nat} (h : pos ah x l = lo) (hlo : lo < l.length) : isAt ah x l = !ah x (gr lkR l lo) := by
  unfold isAt
  rw [h, gr_get (R := lkR) hlo]
theorem isAt_noL {x : Lk} {l : List Lk} {lo : Nat} (h : pos ah x l = lo) (hlo : ¬ lo < l.length) : isAt ah x l = false := by
  unfold isAt
  rw [h, List.getElem?_eq_none (by omega)]
set_option maxHeartbeats 4000000 in
set_option maxRecDepth 100000 in
theorem bsfL (A : Option Addr) (c : Nat) (l : List Lk) (x : Lk) (w : World) (hr : Reads w w.heap.size 4 A l.length (rc lkR l)) (hs : Srt ah l) (hl : l.length ≤ 3518437208883) :
    Calls Tryz.prog 63 #[.slice A l.length c, lkV x, .func (.func 64) #[] #[]] w (BsEnds ah x l w) := by
  have HR := Lib.hid hr
  have HS := Lib.hid hs
  clear hr hs
  unfold lkV
  go_enter Tryz.func63, Tryz.ntmps63
  go_upto_block 0 with fail
  have k1 := Blk.new w 62 #[.string x.key, .int .i64 x.id.n, .int .i64 x.id.c, .int .i64 x.mode]
  have HB := Lib.hid (below_alloc w (.cells #[.string x.key, .int .i64 x.id.n, .int .i64 x.id.c, .int .i64 x.mode] 62))
  obtain ⟨w2, hw2⟩ : ∃ w2, w2 = (w.alloc (.cells #[.string x.key, .int .i64 x.id.n, .int .i64 x.id.c, .int .i64 x.mode] 62)) := ⟨_, rfl⟩
  obtain ⟨p1, hp1⟩ : ∃ p1, p1 = w.heap.size := ⟨_, rfl⟩
  rw [← hw2] at HB k1
  rw [← hp1] at k1
  rw [← hw2]
  rw [← hp1]
  clear hw2 hp1
  have HR2 := Lib.hid ((HR.out.below HB.out).more HB.out.size)
  have HK1 := Lib.hid k1
  clear k1
  go_wp2_with fail
  go_loopw [9, 10] (BsRel ah x l w2) (fun i j _ => (intOf j).toNat - (intOf i).toNat)
  case atStart => exact ⟨0, l.length, rfl, rfl, Nat.zero_le _, Nat.le_refl _, fun k y h => absurd h (by omega), fun y h => (by (rw [List.getElem?_eq_none (Nat.le_refl _)] at h); (cases h)), Below.refl _ _⟩
  case round =>
    obtain ⟨lo, hi, rfl, rfl, hlh, hhl, h1, h2, hb⟩ := hrel
    have H1 := Lib.hid h1
    have H2 := Lib.hid h2
    have HBW := Lib.hid hb
    by_cases hlt : lo < hi
    · have HLT : Hid ((lo + hi) / 2 < l.length) := Lib.hid (by omega)
      obtain ⟨b, off, rfl, _, _, _, _, _⟩ := rdL (HR2.out.below hb) HLT.out
      obtain ⟨y, hy⟩ : ∃ y, y = gr lkR l ((lo + hi) / 2) := ⟨_, rfl⟩
      have HY := Lib.hid hy
      have HG : Hid (l[(lo + hi) / 2]? = some y) := Lib.hid (by rw [hy]; exact gr_get HLT.out)
      have HC := Lib.hid (order_any y x)
      unfold lkV at HC
      have kL : (0 : Int) ≤ (lo : Int) + (hi : Int) := by omega
      have hm1 : (lo + hi) / 2 < l.length := HLT.out
      have hm2 : (lo + hi) / 2 < hi := by omega
      have hm3 : lo ≤ (lo + hi) / 2 := by omega
      have kM1 : (0 : Int) ≤ ((lo : Int) + (hi : Int)) / 2 := by omega
      have kM2 : ((lo : Int) + (hi : Int)) / 2 < (l.length : Int) := by omega
      have kM3 : (((lo : Int) + (hi : Int)) / 2).toNat = (lo + hi) / 2 := by omega
      clear h1 h2 hb hy
      obtain ⟨g, hg⟩ : ∃ g, g = cmpL y x := ⟨_, rfl⟩
      rw [← hg] at HC
      have HGG := Lib.hid hg
      clear hg
      cases hp : ah y x with
      | true =>
        have HP := Lib.hid hp
        have z : decide (g < 0) = true := decide_eq_true (by rw [HGG.out, cmpL_neg]; exact hp)
        have z' : g < 0 := of_decide_eq_true z
        clear hp
        have hS : Hid (∀ w', Below wr.heap.size wr w' → (w'.cell? ⟨b, off + (lo + hi) / 2 * 4, none⟩ = some (.string y.key) ∧ w'.cell? ⟨b, off + (lo + hi) / 2 * 4 + 1, none⟩ = some (.int .i64 y.id.n) ∧ w'.cell? ⟨b, off + (lo + hi) / 2 * 4 + 2, none⟩ = some (.int .i64 y.id.c) ∧ w'.cell? ⟨b, off + (lo + hi) / 2 * 4 + 3, none⟩ = some (.int .i64 y.mode) ∧ w'.cell? ⟨p1, 0, none⟩ = some (.string x.key) ∧ w'.cell? ⟨p1, 1, none⟩ = some (.int .i64 x.id.n) ∧ w'.cell? ⟨p1, 2, none⟩ = some (.int .i64 x.id.c) ∧ w'.cell? ⟨p1, 3, none⟩ = some (.int .i64 x.mode))) := Lib.hid (fun w' hb => by
          have hb' := HBW.out.trans (hb.mono HBW.out.size)
          obtain ⟨b', off', hA, _, c0, c1, c2, c3⟩ := rdL (HR2.out.below hb') HLT.out
          injection hA with hA
          injection hA with e1 e2
          subst e1 e2
          have hk := HK1.out.below hb' HK1.out.lt
          rw [HY.out]
          exact ⟨c0, c1, c2, c3, hk.cell 0, hk.cell 1, hk.cell 2, hk.cell 3⟩)
        have hD : Below wr.heap.size wr wr.drew := below_drewN (Below.refl _ _) 1
        go_wp2
        go_region_held3 (fun w' => w'.cell? ⟨b, off + (lo + hi) / 2 * 4, none⟩ = some (.string y.key) ∧ w'.cell? ⟨b, off + (lo + hi) / 2 * 4 + 1, none⟩ = some (.int .i64 y.id.n) ∧ w'.cell? ⟨b, off + (lo + hi) / 2 * 4 + 2, none⟩ = some (.int .i64 y.id.c) ∧ w'.cell? ⟨b, off + (lo + hi) / 2 * 4 + 3, none⟩ = some (.int .i64 y.mode) ∧ w'.cell? ⟨p1, 0, none⟩ = some (.string x.key) ∧ w'.cell? ⟨p1, 1, none⟩ = some (.int .i64 x.id.n) ∧ w'.cell? ⟨p1, 2, none⟩ = some (.int .i64 x.id.c) ∧ w'.cell? ⟨p1, 3, none⟩ = some (.int .i64 x.mode))
          (first | with_reducible exact hS.out _ hD | with_reducible exact hS.out _ hb3')
          (first | (go_at_call 64; (refine (HC.out _).mono ?_); rintro e w3 ⟨rfl, hb3⟩; have hb3' : Below wr.heap.size wr w3 := hD.trans (hb3.mono hD.size)))
        go_wp2
        go_roundw
        case rel => exact ⟨(lo + hi) / 2 + 1, hi, by go_num, rfl, by omega, hhl, fun k y' hk hy' => by
            have e : k = (lo + hi) / 2 := by omega
            rw [e, HG.out] at hy'
            injection hy' with hy'
            rw [← hy']; exact HP.out, H2.out, HBW.out.trans (hb3'.mono HBW.out.size)⟩
        case measure => simp [intOf]; omega
      | false =>
        have HP := Lib.hid hp
        have z' : ¬ g < 0 := by rw [HGG.out, cmpL_neg, hp]; simp
        have z : decide (g < 0) = false := decide_eq_false z'
        clear hp
        have hS : Hid (∀ w', Below wr.heap.size wr w' → (w'.cell? ⟨b, off + (lo + hi) / 2 * 4, none⟩ = some (.string y.key) ∧ w'.cell? ⟨b, off + (lo + hi) / 2 * 4 + 1, none⟩ = some (.int .i64 y.id.n) ∧ w'.cell? ⟨b, off + (lo + hi) / 2 * 4 + 2, none⟩ = some (.int .i64 y.id.c) ∧ w'.cell? ⟨b, off + (lo + hi) / 2 * 4 + 3, none⟩ = some (.int .i64 y.mode) ∧ w'.cell? ⟨p1, 0, none⟩ = some (.string x.key) ∧ w'.cell? ⟨p1, 1, none⟩ = some (.int .i64 x.id.n) ∧ w'.cell? ⟨p1, 2, none⟩ = some (.int .i64 x.id.c) ∧ w'.cell? ⟨p1, 3, none⟩ = some (.int .i64 x.mode))) := Lib.hid (fun w' hb => by
          have hb' := HBW.out.trans (hb.mono HBW.out.size)
          obtain ⟨b', off', hA, _, c0, c1, c2, c3⟩ := rdL (HR2.out.below hb') HLT.out
          injection hA with hA
          injection hA with e1 e2
          subst e1 e2
          have hk := HK1.out.below hb' HK1.out.lt
          rw [HY.out]
          exact ⟨c0, c1, c2, c3, hk.cell 0, hk.cell 1, hk.cell 2, hk.cell 3⟩)
        have hD : Below wr.heap.size wr wr.drew := below_drewN (Below.refl _ _) 1
        go_wp2
        go_region_held3 (fun w' => w'.cell? ⟨b, off + (lo + hi) / 2 * 4, none⟩ = some (.string y.key) ∧ w'.cell? ⟨b, off + (lo + hi) / 2 * 4 + 1, none⟩ = some (.int .i64 y.id.n) ∧ w'.cell? ⟨b, off + (lo + hi) / 2 * 4 + 2, none⟩ = some (.int .i64 y.id.c) ∧ w'.cell? ⟨b, off + (lo + hi) / 2 * 4 + 3, none⟩ = some (.int .i64 y.mode) ∧ w'.cell? ⟨p1, 0, none⟩ = some (.string x.key) ∧ w'.cell? ⟨p1, 1, none⟩ = some (.int .i64 x.id.n) ∧ w'.cell? ⟨p1, 2, none⟩ = some (.int .i64 x.id.c) ∧ w'.cell? ⟨p1, 3, none⟩ = some (.int .i64 x.mode))
          (first | with_reducible exact hS.out _ hD | with_reducible exact hS.out _ hb3')
          (first | (go_at_call 64; (refine (HC.out _).mono ?_); rintro e w3 ⟨rfl, hb3⟩; have hb3' : Below wr.heap.size wr w3 := hD.trans (hb3.mono hD.size)))
        go_wp2
        go_roundw
        case rel => exact ⟨lo, (lo + hi) / 2, rfl, by go_num, by omega, by omega, H1.out, fun y' hy' => by
            rw [HG.out] at hy'
            injection hy' with hy'
            rw [← hy']; exact HP.out, HBW.out.trans (hb3'.mono HBW.out.size)⟩
        case measure => simp [intOf]; omega
    · obtain rfl : lo = hi := by omega
      have HPOS := Lib.hid (pos_of ah_ord HS.out hhl h1 h2)
      have hlt2 : decide ((lo : Int) < lo) = false := decide_eq_false (by omega)
      by_cases hn : lo < l.length
      · have HLT := Lib.hid hn
        obtain ⟨b, off, rfl, _, _, _, _, _⟩ := rdL (HR2.out.below hb) hn
        obtain ⟨y, hy⟩ : ∃ y, y = gr lkR l (lo) := ⟨_, rfl⟩
        have HY := Lib.hid hy
        have hyx : ah y x = false := h2 y (by rw [hy]; exact gr_get hn)
        have HF : Hid (isAt ah x l = (cmpL y x == 0)) := Lib.hid (by rw [isAt_ofL HPOS.out hn, ← hy, cmpL_at hyx])
        have HC := Lib.hid (order_any y x)
        unfold lkV at HC
        have hlt4 : decide ((lo : Int) < l.length) = true := decide_eq_true (by omega)
        obtain ⟨g, hg⟩ : ∃ g, g = cmpL y x := ⟨_, rfl⟩
        rw [← hg] at HC HF
        have kL : (0 : Int) ≤ (lo : Int) := by omega
        have kU : (lo : Int) < (l.length : Int) := by omega
        clear h1 h2 hb hy hyx hg
        have hS : Hid (∀ w', Below wr.heap.size wr w' → (w'.cell? ⟨b, off + lo * 4, none⟩ = some (.string y.key) ∧ w'.cell? ⟨b, off + lo * 4 + 1, none⟩ = some (.int .i64 y.id.n) ∧ w'.cell? ⟨b, off + lo * 4 + 2, none⟩ = some (.int .i64 y.id.c) ∧ w'.cell? ⟨b, off + lo * 4 + 3, none⟩ = some (.int .i64 y.mode) ∧ w'.cell? ⟨p1, 0, none⟩ = some (.string x.key) ∧ w'.cell? ⟨p1, 1, none⟩ = some (.int .i64 x.id.n) ∧ w'.cell? ⟨p1, 2, none⟩ = some (.int .i64 x.id.c) ∧ w'.cell? ⟨p1, 3, none⟩ = some (.int .i64 x.mode))) := Lib.hid (fun w' hb => by
          have hb' := HBW.out.trans (hb.mono HBW.out.size)
          obtain ⟨b', off', hA, _, c0, c1, c2, c3⟩ := rdL (HR2.out.below hb') HLT.out
          injection hA with hA
          injection hA with e1 e2
          subst e1 e2
          have hk := HK1.out.below hb' HK1.out.lt
          rw [HY.out]
          exact ⟨c0, c1, c2, c3, hk.cell 0, hk.cell 1, hk.cell 2, hk.cell 3⟩)
        have hD : Below wr.heap.size wr wr.drew := below_drewN (Below.refl _ _) 1
        go_wp2
        go_region_held3 (fun w' => w'.cell? ⟨b, off + lo * 4, none⟩ = some (.string y.key) ∧ w'.cell? ⟨b, off + lo * 4 + 1, none⟩ = some (.int .i64 y.id.n) ∧ w'.cell? ⟨b, off + lo * 4 + 2, none⟩ = some (.int .i64 y.id.c) ∧ w'.cell? ⟨b, off + lo * 4 + 3, none⟩ = some (.int .i64 y.mode) ∧ w'.cell? ⟨p1, 0, none⟩ = some (.string x.key) ∧ w'.cell? ⟨p1, 1, none⟩ = some (.int .i64 x.id.n) ∧ w'.cell? ⟨p1, 2, none⟩ = some (.int .i64 x.id.c) ∧ w'.cell? ⟨p1, 3, none⟩ = some (.int .i64 x.mode))
          (first | with_reducible exact hS.out _ hD | with_reducible exact hS.out _ hb3')
          (first | (go_at_call 64; (refine (HC.out _).mono ?_); rintro e w3 ⟨rfl, hb3⟩; have hb3' : Below wr.heap.size wr w3 := hD.trans (hb3.mono hD.size)))
        go_wp2
        go_ret2
        exact ⟨by rw [HF.out, HPOS.out]; rfl, HB.out.trans ((HBW.out.trans (hb3'.mono HBW.out.size)).mono HB.out.size)⟩
      · have hlt4 : decide ((lo : Int) < l.length) = false := decide_eq_false (by omega)
        have HF := Lib.hid (isAt_noL HPOS.out hn)
        clear h1 h2 hb
        go_wp2
        go_quiet (fail)
        go_wp2
        go_ret2
        exact ⟨by rw [HF.out, HPOS.out]; rfl, below_drewN (HB.out.trans (HBW.out.mono HB.out.size)) _⟩
end Go.Proofs.YtpidpdbjjdkhoaaGreat
