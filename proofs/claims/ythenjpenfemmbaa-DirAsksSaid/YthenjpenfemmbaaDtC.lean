/- Layer 12: the law DirAsks. -/
import Derived.Test.YthenjpenfemmbaaDtB
import Derived.Test.YthenjpenfemmbaaWrB
import Derived.Test.YthenjpenfemmbaaDsH
import Derived.Test.YthenjpenfemmbaaDrH
namespace Go.Proofs.Ythenjpenfemmbaa
open Go.RowKit
set_option linter.unusedSimpArgs false
set_option linter.unusedVariables false

/-- what lies there while the law asks -/
structure AskEnv (w : World) (d : Nat) (L : List ByteArray) (Ad : Option Addr) (cd : Nat) (Am : Option Addr) (cm m0 : Nat) (A1 : Option Addr) (K : List ByteArray) (A3 : Option Addr) (l : List Wrt) : Prop where
  dir : IsD w d L Ad cd
  ris : Rises L
  mm : Reads w w.heap.size 1 Am L.length (sc L)
  mb : Blk w m0 28 #[.slice Am L.length cm]
  keys : Reads w w.heap.size 1 A1 K.length (sc K)
  wr : Reads w w.heap.size 3 A3 l.length (wc l)
theorem AskEnv.below {w w' : World} {d : Nat} {L : List ByteArray} {Ad : Option Addr} {cd : Nat} {Am : Option Addr} {cm m0 : Nat} {A1 : Option Addr} {K : List ByteArray} {A3 : Option Addr} {l : List Wrt} (h : AskEnv w d L Ad cd Am cm m0 A1 K A3 l) (hb : Below w.heap.size w w') : AskEnv w' d L Ad cd Am cm m0 A1 K A3 l :=
  ⟨h.dir.below hb, h.ris, (h.mm.below hb).more hb.size, h.mb.below hb h.mb.lt, (h.keys.below hb).more hb.size, (h.wr.below hb).more hb.size⟩
def Ask1Rel (n : Nat) (w0 : World) (i want : Value) (wr : World) : Prop := ∃ k : Nat, i = .int .i64 k ∧ k ≤ n ∧ Below w0.heap.size w0 wr
def Ask2Rel (w0 : World) (i _a _b _c _d _e _f _g _h _i _j _k _l : Value) (wr : World) : Prop := ∃ k : Int, i = .int .i64 k ∧ -2 ≤ k ∧ k ≤ 11 ∧ Below w0.heap.size w0 wr
def SpoilRel (n : Nat) (A : Option Addr) (c : Nat) (w0 : World) (j : Value) (wr : World) : Prop := ∃ (k : Nat) (ss : List Wrt), j = .int .i64 k ∧ k ≤ n ∧ ss.length = n ∧ wr.ownsRow 0 45 3 (.slice A n c) n (wc ss) ∧ Kept (ob A) w0 wr
def NinesRel (n : Nat) (A : Option Addr) (c : Nat) (w0 : World) (j : Value) (wr : World) : Prop := ∃ (k : Nat) (ss : List Int), j = .int .i64 k ∧ k ≤ n ∧ ss.length = n ∧ wr.ownsRow 0 3 1 (.slice A n c) n (ic ss) ∧ Kept (ob A) w0 wr
theorem ic_set (M : List Int) (x : Int) (i : Nat) : (ic M).set i (.int .i64 x) = ic (M.set i x) := by simp [ic, List.map_set]
theorem ofL_len (L K : List ByteArray) : (ofL L K).length ≤ 8 := by
  unfold ofL
  split
  · exact fewK_len (grps L K) 8
  · simp
def QM : ByteArray := ⟨#[63]⟩
def SPOILT : ByteArray := ⟨#[115, 112, 111, 105, 108, 116]⟩
def XQ : Wrt := ⟨QM, ⟨#[]⟩, false⟩

set_option maxHeartbeats 8000000 in
set_option maxRecDepth 100000 in
theorem asks_any (A : Option Addr) (c : Nat) (L : List ByteArray) (A1 : Option Addr) (c1 : Nat) (K : List ByteArray) (g : Int) (A3 : Option Addr) (c3 : Nat) (l : List Wrt) (w : World)
    (hr : Reads w w.heap.size 1 A L.length (sc L)) (hl : L.length ≤ 8796093022200) (hrk : Reads w w.heap.size 1 A1 K.length (sc K)) (hkl : K.length ≤ 8796093022200) (hrw : Reads w w.heap.size 3 A3 l.length (wc l)) (hll : l.length ≤ 8796093022200) :
    Calls Try.prog 5 #[.slice A L.length c, .slice A1 K.length c1, .int .i64 g, .slice A3 l.length c3] w (Done w) := by
  have hLi : (L.length : Int) ≤ 8796093022200 := by omega
  obtain ⟨i0, hi0, hz0, hz1, hz2⟩ := info_parts Try.infoW
  by_cases hE : newE L = 0
  · have H := Lib.hid hE
    have hRi := newE_zero hE
    clear hE
    go_enter Try.func5, Try.ntmps5
    go_wp2_with fail
    refine (dnew_ok A c w.heap.size L w hr (Nat.le_refl _) (by omega) H.out).mono ?_
    rintro e w3 ⟨d, Ad, cd, rfl, hD3, hb3, hdn, hdf⟩
    go_wp2_with fail
    refine (rnew_ok A c w.heap.size L w3 (hr.below hb3) hb3.size (by omega) H.out).mono ?_
    rintro e w4 ⟨Am, cm, rfl, hm4, hb4, hmf⟩
    have hb4' := hb3.trans (hb4.mono hb3.size)
    have hb5' := hb4'.alloc hb4'.size (.cells #[.slice Am L.length cm] 28)
    have hE5 : AskEnv (w4.alloc (.cells #[.slice Am L.length cm] 28)) d L Ad cd Am cm w4.heap.size A1 K A3 l :=
      ⟨(hD3.below hb4).below (below_alloc w4 _), hRi, (hm4.alloc (Nat.le_refl _) _).more (by simp), Blk.new w4 28 _, (hrk.below hb5').more hb5'.size, (hrw.below hb5').more hb5'.size⟩
    have hfew := hRi.few
    clear hD3 hm4 hb3 hb4 hb4' hdn hdf hmf hr hrk hrw H hRi
    by_cases hkn : 2000 < K.length
    · have z1 : decide (2000 < (K.length : Int)) = true := decide_eq_true (by omega)
      go_wp2_with (go_at_call 9; refine (num_any _ _).mono ?_; rintro e w' ⟨rfl, rfl⟩)
      go_ret
      exact ⟨rfl, hb5'⟩
    by_cases hln : 2000 < l.length
    · have z1 : decide (2000 < (K.length : Int)) = false := decide_eq_false (by omega)
      have z2 : decide (2000 < (l.length : Int)) = true := decide_eq_true (by omega)
      go_wp2_with (go_at_call 9; refine (num_any _ _).mono ?_; rintro e w' ⟨rfl, rfl⟩)
      go_ret
      exact ⟨rfl, hb5'⟩
    have z1 : decide (2000 < (K.length : Int)) = false := decide_eq_false (by omega)
    have z2 : decide (2000 < (l.length : Int)) = false := decide_eq_false (by omega)
    go_wp2_with (go_at_call 9; refine (num_any _ _).mono ?_; rintro e w' ⟨rfl, rfl⟩)
    obtain ⟨m0, hm0⟩ : ∃ m0, m0 = w4.heap.size := ⟨_, rfl⟩
    rw [← hm0] at hE5 ⊢
    clear hm0 z1 z2
    generalize w4.alloc (.cells #[.slice Am L.length cm] 28) = w5 at *
    clear w4
    go_loopw [13, 14] (Ask1Rel K.length w5) (fun i _ _ => K.length - (intOf i).toNat)
    case atStart => exact ⟨0, rfl, Nat.zero_le _, Below.refl _ _⟩
    case round =>
      obtain ⟨k, rfl, hk, hb⟩ := hrel
      have hEk := hE5.below hb
      by_cases hlt : k < K.length
      · obtain ⟨ad, rfl, hadB, hcell⟩ := hEk.keys.text hlt
        have kL : (0 : Int) ≤ (k : Int) := by omega
        have kU : (k : Int) < (K.length : Int) := by omega
        obtain ⟨s, hs⟩ : ∃ s, s = gx K k := ⟨_, rfl⟩
        rw [← hs] at hcell
        clear hs
        have HK := Lib.hid (dkey_any d s)
        have m0c := hEk.mb.cell 0
        simp only [List.getElem?_toArray, List.getElem?_cons_zero] at m0c
        have hDw := hEk.dir
        have hMw := hEk.mb
        have hmw := hEk.mm
        have hRi := hEk.ris
        cases hky : keyB s with
        | true =>
          have HKT := rkey_true s wr hky
          rw [hky] at HK
          clear hky
          go_wp2_with (go_at_call 17; refine HKT.mono ?_; rintro e w' ⟨rfl, rfl⟩)
          go_region_held3 (fun w' => w'.cell? ⟨m0, 0, none⟩ = some (.slice Am L.length cm) ∧ w'.cell? (ad.add k) = some (.string s)) (first | go_keep)
            (first
              | (go_at_call 15; refine (HK.out _).mono ?_; rintro e w' ⟨rfl, rfl⟩; dsimp only)
              | (go_at_call 9; refine (num_any _ _).mono ?_; rintro e w' ⟨rfl, rfl⟩; dsimp only)
              | (go_at_call 12; refine (group_any d Ad cd L s _ (hDw.drewN 1) hRi).mono ?_; rintro e w' ⟨rfl, rfl⟩; dsimp only)
              | (go_at_call 13; refine (rgroup_any Am cm _ L s (wr.drewN 1) (hmw.drewN 1) (Nat.le_refl _) hfew).mono ?_; rintro e w6 ⟨rfl, hb6⟩; have m6 := ((hMw.drewN 1).below hb6 (hMw.drewN 1).lt).cell 0; have d1 := (hb6.cell (p := ad.add k) (by rw [block_of_add]; exact hadB)).trans hcell; simp only [List.getElem?_toArray, List.getElem?_cons_zero] at m6; dsimp only))
          have hd1 : Below wr.heap.size wr w6 := (below_drewN (Below.refl _ _) 1).trans hb6
          have hbn : Below w5.heap.size w5 w6 := hb.trans (hd1.mono hb.size)
          clear m0c hcell d1 m6 hb6
          go_wp2
          go_roundw
          case rel => exact ⟨k + 1, by go_num, by omega, hbn⟩
          case measure => simp [intOf]; omega
        | false =>
          have HKT := rkey_false s wr hky
          rw [hky] at HK
          clear hky
          go_wp2_with (go_at_call 17; refine HKT.mono ?_; rintro e w' ⟨rfl, rfl⟩)
          go_region_held3 (fun w' => w'.cell? ⟨m0, 0, none⟩ = some (.slice Am L.length cm) ∧ w'.cell? (ad.add k) = some (.string s)) (first | go_keep)
            (first
              | (go_at_call 15; refine (HK.out _).mono ?_; rintro e w' ⟨rfl, rfl⟩; dsimp only)
              | (go_at_call 9; refine (num_any _ _).mono ?_; rintro e w' ⟨rfl, rfl⟩; dsimp only)
              | (go_at_call 12; refine (group_any d Ad cd L s _ (hDw.drewN 1) hRi).mono ?_; rintro e w' ⟨rfl, rfl⟩; dsimp only)
              | (go_at_call 13; refine (rgroup_any Am cm _ L s (wr.drewN 1) (hmw.drewN 1) (Nat.le_refl _) hfew).mono ?_; rintro e w6 ⟨rfl, hb6⟩; have m6 := ((hMw.drewN 1).below hb6 (hMw.drewN 1).lt).cell 0; have d1 := (hb6.cell (p := ad.add k) (by rw [block_of_add]; exact hadB)).trans hcell; simp only [List.getElem?_toArray, List.getElem?_cons_zero] at m6; dsimp only))
          have hd1 : Below wr.heap.size wr w6 := (below_drewN (Below.refl _ _) 1).trans hb6
          have hbn : Below w5.heap.size w5 w6 := hb.trans (hd1.mono hb.size)
          clear m0c hcell d1 m6 hb6
          go_wp2
          go_roundw
          case rel => exact ⟨k + 1, by go_num, by omega, hbn⟩
          case measure => simp [intOf]; omega
      · have hlk : ¬ ((k : Int) < (K.length : Int)) := by omega
        go_wp2
        go_loopw [15, 16, 17, 18, 19, 20, 21, 22, 23, 24, 25, 26, 27] (Ask2Rel w5) (fun i _ _ _ _ _ _ _ _ _ _ _ _ _ => (11 - intOf i).toNat)
        case atStart => exact ⟨-2, rfl, by omega, by omega, hb⟩
        case round =>
          clear hb hEk
          obtain ⟨i, rfl, hia, hib, hb⟩ := hrel
          have hEi := hE5.below hb
          have m0c := hEi.mb.cell 0
          simp only [List.getElem?_toArray, List.getElem?_cons_zero] at m0c
          by_cases hlt : i < 11
          · have y1 : decide (i < 11) = true := decide_eq_true hlt
            by_cases h10 : i = 10
            · have y2 : (i == 10) = true := by rw [h10]; rfl
              clear h10
              go_wp2_with fail
              refine (range_any d Ad cd L g wr hEi.dir hfew).mono ?_
              rintro e w' ⟨rfl, rfl⟩
              go_wp2_with fail
              refine (rrange_any Am cm _ L g wr hEi.mm (Nat.le_refl _) hfew).mono ?_
              rintro e w1 ⟨rfl, hb1⟩
              have hbb1 := hb.trans (hb1.mono hb.size)
              have hE1 := hE5.below hbb1
              have hr1 := hE1.wr
              have e1 := Lib.hid (show wc l ++ wcell XQ = wc (l ++ [XQ]) from wc_snoc l XQ)
              generalize rngA L g = ra at *
              generalize rngB L g = rb at *
              generalize rngE L g = re at *
              clear m0c hb1 hEi
              go_wp2_with (first
                | (go_at_call 9; refine (num_any _ _).mono ?_; rintro e w' ⟨rfl, rfl⟩)
                | (at_builtin; refine wpList_app rfl (.tmp 138) (.tmp 139) 40 40 rfl 45 i0 _ 3 40 Try.underlying40 hi0 hz0 hz1 hz2 rfl (by omega) (some ⟨w1.heap.size, 0, none⟩) 0 0 [] rfl (World.ownsRow_made w1 #[] 0 (Nat.zero_le _) (by simp [maxLen]) rfl) _ l.length (wc l) rfl (Src.ofReads Try.underlying40 (hr1.alloc (Nat.le_refl _) _) (wc_one _)) (by simp only [maxLen]; omega) (by omega) ?_; intro A5 k5 w2 hown1 hk1 hf1; rw [Nat.zero_add, List.nil_append] at hown1)
                | (at_builtin; refine wpList_app rfl (.tmp 140) (.tmp 142) 40 40 rfl 45 i0 _ 3 40 Try.underlying40 hi0 hz0 hz1 hz2 rfl (by omega) A5 l.length k5 (wc l) rfl (hown1.alloc _) _ 1 (wcell XQ) rfl (Src.wrt Try.underlying40 XQ 45) (by simp only [maxLen]; omega) (by omega) ?_; intro A6 k6 w3 hown2 hk2 hf2; rw [e1.out] at hown2; obtain ⟨gc, cap, hv, hg0, hgl⟩ := hown2.form (by omega); injection hv with hA _ hc; subst hA hc; have hcap := own_cap hown2; have hc1 : l.length + 1 ≤ k6 := hcap.1))
              have hb2 : Below w1.heap.size w1 w2 := hk1.of_alloc.below (Nat.le_refl _) (by simp [ob])
              have hb3 : Below w1.heap.size w1 w3 := hb2.trans (hk2.of_alloc.below hb2.size (fun x hx => (hf1 x hx).elim (fun h => by simp [ob] at h; omega) (fun h => by simp at h; omega)))
              have hrc : Reads w3 w3.heap.size 3 (some ⟨gc, 0, none⟩) l.length (wc l) := by
                have := (Reads.of_own hown2).take (k := l.length) (by omega)
                rw [wc_take, List.take_append_of_le_length (Nat.le_refl _), List.take_of_length_le (Nat.le_refl _)] at this
                exact this
              have hclast : w3.cell? ⟨gc, l.length * 3, none⟩ = some (.string ⟨#[63]⟩) := by
                have h1 := hown2.cellAt (l.length * 3) (by omega)
                have h2 := (wc_at (l := l ++ [XQ]) (i := l.length) (by simp)).1
                rw [h2] at h1
                rw [h1]
                simp [gw, XQ, QM]
              have hgw : w1.heap.size ≤ gc := (hf2 gc (by simp [ob])).elim (fun h => (hf1 gc h).elim (fun h => by simp [ob] at h; omega) (fun h => by simp at h; omega)) (fun h => by have := hb2.size; simp at h; omega)
              have hgl3 : gc < w3.heap.size := hgl
              have hbb3 := hbb1.trans (hb3.mono hbb1.size)
              have hE3 := hE5.below hbb3
              have k0 : (0 : Int) ≤ (l.length : Int) := by omega
              clear hown1 hk1 hf1 hk2 hf2 hcap hb2 hown2 hr1 e1 hgl
              refine (share_any d L Ad cd g (some ⟨gc, 0, none⟩) k6 l w3 hE3.dir hE3.ris hrc (by omega)).mono ?_
              rintro e w7 ⟨As, cs, rfl, howns, hb7, hfs⟩
              have hbb7 := hbb3.trans (hb7.mono hbb3.size)
              have hE7 := hE5.below hbb7
              go_wp2_with fail
              refine (share_any d L Ad cd g (some ⟨gc, 0, none⟩) k6 l w7 hE7.dir hE7.ris ((hrc.below hb7).more hb7.size) (by omega)).mono ?_
              rintro e w8 ⟨At, ct, rfl, hownt, hb8, hft⟩
              have hbb8 := hbb7.trans (hb8.mono hbb7.size)
              have hE8 := hE5.below hbb8
              have m0d := hE8.mb.cell 0
              simp only [List.getElem?_toArray, List.getElem?_cons_zero] at m0d
              go_wp2_with fail
              refine (rshare_any L Am cm g A3 c3 l w8 hE8.mm hfew hE8.wr (by omega)).mono ?_
              rintro e w9 ⟨Aw, cw, rfl, hownw, hb9, hfw⟩
              have hbb9 := hbb8.trans (hb9.mono hbb8.size)
              have hE9 := hE5.below hbb9
              have hsl := shr_len L g l
              generalize shr L g l = S at *
              have hb39 : Below w3.heap.size w3 w9 := hb7.trans ((hb8.trans (hb9.mono hb8.size)).mono hb7.size)
              have hs9 := (Kept.of_below (S := []) (hb8.trans (hb9.mono hb8.size))).own howns (by simp)
              have ht9 := (Kept.of_below (S := []) hb9).own hownt (by simp)
              have hrs9 := Reads.of_own hs9
              have hrt9 := Reads.of_own ht9
              have hrw9 := Reads.of_own hownw
              have hrc9 := (hrc.below hb39).more hb39.size
              have hcl9 : w9.cell? ⟨gc, l.length * 3, none⟩ = some (.string ⟨#[63]⟩) := (hb39.cell (p := ⟨gc, l.length * 3, none⟩) hgl3).trans hclast
              have hfs2 : ∀ x ∈ ob As, w3.heap.size ≤ x ∧ x < w7.heap.size := fun x hx => ⟨hfs x hx, own_lt howns x hx⟩
              have hft2 : ∀ x ∈ ob At, x ∉ ob As := fun x hx hx2 => by have := hft x hx; have := hfs2 x hx2; omega
              have hfw2 : ∀ x ∈ ob Aw, x ∉ ob As := fun x hx hx2 => by have := hfw x hx; have := hfs2 x hx2; have := hb8.size; omega
              have hgc2 : ∀ x ∈ ob (some (⟨gc, 0, none⟩ : Addr)), x ∉ ob As := fun x hx hx2 => by have := hfs2 x hx2; simp [ob] at hx; omega
              have hfs3 : ∀ x ∈ ob As, w5.heap.size ≤ x := fun x hx => by have := hfs2 x hx; have := hbb3.size; omega
              clear howns hownt hownw hrc hclast m0d hE7 hE8 hE3 hb7 hb8 hb9 hbb7 hbb8 hbb1 hbb3 hfs hft hfw hb39 hb3
              go_wp2_with fail
              refine (sameW_yes As Aw cs cw _ _ S w9 hrs9 hrw9 (by omega)).mono ?_
              rintro e w' ⟨rfl, q1, rfl⟩
              go_wp2_with fail
              refine (sameW_yes At Aw ct cw _ _ S _ (hrt9.drewN q1) (hrw9.drewN q1) (by omega)).mono ?_
              rintro e w' ⟨rfl, q2, rfl⟩
              go_wp2_with fail
              refine (sameW_yes (some ⟨gc, 0, none⟩) A3 k6 c3 _ _ l _ (hrc9.drewN (q1 + q2)) (hE9.wr.drewN (q1 + q2)) (by omega)).mono ?_
              rintro e w' ⟨rfl, q3, rfl⟩
              have kU : (l.length : Int) < (l.length : Int) + 1 := by omega
              go_wp2
              go_loopw [27] (SpoilRel S.length As cs w9) (fun i _ => S.length - (intOf i).toNat)
              case atStart => exact ⟨0, S, rfl, Nat.zero_le _, rfl, hs9, (Kept.refl _ w9).drewN _⟩
              case round =>
                clear hs9
                obtain ⟨k, ss, rfl, hk, hssl, hown, hkp⟩ := hrel
                have HSS := Lib.hid hssl
                clear hssl
                by_cases hlt : k < S.length
                · obtain ⟨gs, cap, hv, _, hgl⟩ := hown.form (by omega)
                  injection hv with hA _ hc
                  subst hA
                  have x1 := (hown.cellAt (k * 3) (by omega)).trans (wc_at (l := ss) (i := k) (by rw [HSS.out]; exact hlt)).1
                  have x2 := hown.frozenAt (k * 3)
                  have kL : (0 : Int) ≤ (k : Int) := by omega
                  have kU : (k : Int) < (S.length : Int) := by omega
                  clear hE9 hrt9 hrw9 hrc9 hrs9
                  go_wp2
                  obtain ⟨hst, _⟩ := hown.stored (k * 3) (.string SPOILT)
                  rw [wc_setKey ss SPOILT k (by rw [HSS.out]; exact hlt)] at hst
                  go_roundw
                  case rel => exact ⟨k + 1, _, by go_num, by omega, by rw [List.length_set]; exact HSS.out, hst, hkp.setCell _ (.inl (by simp [ob]))⟩
                  case measure => simp [intOf]; omega
                · have hbe : Below w5.heap.size w5 wr := hbb9.trans (hkp.below hbb9.size hfs3)
                  have hEe := (hE5.below hbe).wr
                  have hrte := hrt9.far hkp (Nat.le_refl _) hft2
                  have hrwe := hrw9.far hkp (Nat.le_refl _) hfw2
                  have hrce := hrc9.far hkp (Nat.le_refl _) hgc2
                  clear hE9 hrt9 hrw9 hrc9 hrs9 hown hkp hcl9
                  go_wp2_with fail
                  refine (sameW_yes At Aw ct cw _ _ S _ hrte hrwe (by omega)).mono ?_
                  rintro e w' ⟨rfl, p1, rfl⟩
                  go_wp2_with fail
                  refine (sameW_yes (some ⟨gc, 0, none⟩) A3 k6 c3 _ _ l _ (hrce.drewN p1) (hEe.drewN p1) (by omega)).mono ?_
                  rintro e w' ⟨rfl, p2, rfl⟩
                  go_wp2
                  go_roundw
                  case rel => exact ⟨i + 1, by go_num, by omega, by omega, below_drewN hbe _⟩
                  case measure => simp [intOf]; omega
            · have y2 : (i == 10) = false := beq_eq_false_iff_ne.2 h10
              clear h10
              go_wp2_with fail
              refine (range_any d Ad cd L i wr hEi.dir hfew).mono ?_
              rintro e w' ⟨rfl, rfl⟩
              go_wp2_with fail
              refine (rrange_any Am cm _ L i wr hEi.mm (Nat.le_refl _) hfew).mono ?_
              rintro e w1 ⟨rfl, hb1⟩
              have hbb1 := hb.trans (hb1.mono hb.size)
              have hE1 := hE5.below hbb1
              have hr1 := hE1.wr
              have e1 := Lib.hid (show wc l ++ wcell XQ = wc (l ++ [XQ]) from wc_snoc l XQ)
              generalize rngA L i = ra at *
              generalize rngB L i = rb at *
              generalize rngE L i = re at *
              clear m0c hb1 hEi
              go_wp2_with (first
                | (go_at_call 9; refine (num_any _ _).mono ?_; rintro e w' ⟨rfl, rfl⟩)
                | (at_builtin; refine wpList_app rfl (.tmp 138) (.tmp 139) 40 40 rfl 45 i0 _ 3 40 Try.underlying40 hi0 hz0 hz1 hz2 rfl (by omega) (some ⟨w1.heap.size, 0, none⟩) 0 0 [] rfl (World.ownsRow_made w1 #[] 0 (Nat.zero_le _) (by simp [maxLen]) rfl) _ l.length (wc l) rfl (Src.ofReads Try.underlying40 (hr1.alloc (Nat.le_refl _) _) (wc_one _)) (by simp only [maxLen]; omega) (by omega) ?_; intro A5 k5 w2 hown1 hk1 hf1; rw [Nat.zero_add, List.nil_append] at hown1)
                | (at_builtin; refine wpList_app rfl (.tmp 140) (.tmp 142) 40 40 rfl 45 i0 _ 3 40 Try.underlying40 hi0 hz0 hz1 hz2 rfl (by omega) A5 l.length k5 (wc l) rfl (hown1.alloc _) _ 1 (wcell XQ) rfl (Src.wrt Try.underlying40 XQ 45) (by simp only [maxLen]; omega) (by omega) ?_; intro A6 k6 w3 hown2 hk2 hf2; rw [e1.out] at hown2; obtain ⟨gc, cap, hv, hg0, hgl⟩ := hown2.form (by omega); injection hv with hA _ hc; subst hA hc; have hcap := own_cap hown2; have hc1 : l.length + 1 ≤ k6 := hcap.1))
              have hb2 : Below w1.heap.size w1 w2 := hk1.of_alloc.below (Nat.le_refl _) (by simp [ob])
              have hb3 : Below w1.heap.size w1 w3 := hb2.trans (hk2.of_alloc.below hb2.size (fun x hx => (hf1 x hx).elim (fun h => by simp [ob] at h; omega) (fun h => by simp at h; omega)))
              have hrc : Reads w3 w3.heap.size 3 (some ⟨gc, 0, none⟩) l.length (wc l) := by
                have := (Reads.of_own hown2).take (k := l.length) (by omega)
                rw [wc_take, List.take_append_of_le_length (Nat.le_refl _), List.take_of_length_le (Nat.le_refl _)] at this
                exact this
              have hclast : w3.cell? ⟨gc, l.length * 3, none⟩ = some (.string ⟨#[63]⟩) := by
                have h1 := hown2.cellAt (l.length * 3) (by omega)
                have h2 := (wc_at (l := l ++ [XQ]) (i := l.length) (by simp)).1
                rw [h2] at h1
                rw [h1]
                simp [gw, XQ, QM]
              have hgw : w1.heap.size ≤ gc := (hf2 gc (by simp [ob])).elim (fun h => (hf1 gc h).elim (fun h => by simp [ob] at h; omega) (fun h => by simp at h; omega)) (fun h => by have := hb2.size; simp at h; omega)
              have hgl3 : gc < w3.heap.size := hgl
              have hbb3 := hbb1.trans (hb3.mono hbb1.size)
              have hE3 := hE5.below hbb3
              have k0 : (0 : Int) ≤ (l.length : Int) := by omega
              clear hown1 hk1 hf1 hk2 hf2 hcap hb2 hown2 hr1 e1 hgl
              refine (share_any d L Ad cd i (some ⟨gc, 0, none⟩) k6 l w3 hE3.dir hE3.ris hrc (by omega)).mono ?_
              rintro e w7 ⟨As, cs, rfl, howns, hb7, hfs⟩
              have hbb7 := hbb3.trans (hb7.mono hbb3.size)
              have hE7 := hE5.below hbb7
              go_wp2_with fail
              refine (share_any d L Ad cd i (some ⟨gc, 0, none⟩) k6 l w7 hE7.dir hE7.ris ((hrc.below hb7).more hb7.size) (by omega)).mono ?_
              rintro e w8 ⟨At, ct, rfl, hownt, hb8, hft⟩
              have hbb8 := hbb7.trans (hb8.mono hbb7.size)
              have hE8 := hE5.below hbb8
              have m0d := hE8.mb.cell 0
              simp only [List.getElem?_toArray, List.getElem?_cons_zero] at m0d
              go_wp2_with fail
              refine (rshare_any L Am cm i A3 c3 l w8 hE8.mm hfew hE8.wr (by omega)).mono ?_
              rintro e w9 ⟨Aw, cw, rfl, hownw, hb9, hfw⟩
              have hbb9 := hbb8.trans (hb9.mono hbb8.size)
              have hE9 := hE5.below hbb9
              have hsl := shr_len L i l
              generalize shr L i l = S at *
              have hb39 : Below w3.heap.size w3 w9 := hb7.trans ((hb8.trans (hb9.mono hb8.size)).mono hb7.size)
              have hs9 := (Kept.of_below (S := []) (hb8.trans (hb9.mono hb8.size))).own howns (by simp)
              have ht9 := (Kept.of_below (S := []) hb9).own hownt (by simp)
              have hrs9 := Reads.of_own hs9
              have hrt9 := Reads.of_own ht9
              have hrw9 := Reads.of_own hownw
              have hrc9 := (hrc.below hb39).more hb39.size
              have hcl9 : w9.cell? ⟨gc, l.length * 3, none⟩ = some (.string ⟨#[63]⟩) := (hb39.cell (p := ⟨gc, l.length * 3, none⟩) hgl3).trans hclast
              have hfs2 : ∀ x ∈ ob As, w3.heap.size ≤ x ∧ x < w7.heap.size := fun x hx => ⟨hfs x hx, own_lt howns x hx⟩
              have hft2 : ∀ x ∈ ob At, x ∉ ob As := fun x hx hx2 => by have := hft x hx; have := hfs2 x hx2; omega
              have hfw2 : ∀ x ∈ ob Aw, x ∉ ob As := fun x hx hx2 => by have := hfw x hx; have := hfs2 x hx2; have := hb8.size; omega
              have hgc2 : ∀ x ∈ ob (some (⟨gc, 0, none⟩ : Addr)), x ∉ ob As := fun x hx hx2 => by have := hfs2 x hx2; simp [ob] at hx; omega
              have hfs3 : ∀ x ∈ ob As, w5.heap.size ≤ x := fun x hx => by have := hfs2 x hx; have := hbb3.size; omega
              clear howns hownt hownw hrc hclast m0d hE7 hE8 hE3 hb7 hb8 hb9 hbb7 hbb8 hbb1 hbb3 hfs hft hfw hb39 hb3
              go_wp2_with fail
              refine (sameW_yes As Aw cs cw _ _ S w9 hrs9 hrw9 (by omega)).mono ?_
              rintro e w' ⟨rfl, q1, rfl⟩
              go_wp2_with fail
              refine (sameW_yes At Aw ct cw _ _ S _ (hrt9.drewN q1) (hrw9.drewN q1) (by omega)).mono ?_
              rintro e w' ⟨rfl, q2, rfl⟩
              go_wp2_with fail
              refine (sameW_yes (some ⟨gc, 0, none⟩) A3 k6 c3 _ _ l _ (hrc9.drewN (q1 + q2)) (hE9.wr.drewN (q1 + q2)) (by omega)).mono ?_
              rintro e w' ⟨rfl, q3, rfl⟩
              have kU : (l.length : Int) < (l.length : Int) + 1 := by omega
              go_wp2
              go_loopw [27] (SpoilRel S.length As cs w9) (fun i _ => S.length - (intOf i).toNat)
              case atStart => exact ⟨0, S, rfl, Nat.zero_le _, rfl, hs9, (Kept.refl _ w9).drewN _⟩
              case round =>
                clear hs9
                obtain ⟨k, ss, rfl, hk, hssl, hown, hkp⟩ := hrel
                have HSS := Lib.hid hssl
                clear hssl
                by_cases hlt : k < S.length
                · obtain ⟨gs, cap, hv, _, hgl⟩ := hown.form (by omega)
                  injection hv with hA _ hc
                  subst hA
                  have x1 := (hown.cellAt (k * 3) (by omega)).trans (wc_at (l := ss) (i := k) (by rw [HSS.out]; exact hlt)).1
                  have x2 := hown.frozenAt (k * 3)
                  have kL : (0 : Int) ≤ (k : Int) := by omega
                  have kU : (k : Int) < (S.length : Int) := by omega
                  clear hE9 hrt9 hrw9 hrc9 hrs9
                  go_wp2
                  obtain ⟨hst, _⟩ := hown.stored (k * 3) (.string SPOILT)
                  rw [wc_setKey ss SPOILT k (by rw [HSS.out]; exact hlt)] at hst
                  go_roundw
                  case rel => exact ⟨k + 1, _, by go_num, by omega, by rw [List.length_set]; exact HSS.out, hst, hkp.setCell _ (.inl (by simp [ob]))⟩
                  case measure => simp [intOf]; omega
                · have hbe : Below w5.heap.size w5 wr := hbb9.trans (hkp.below hbb9.size hfs3)
                  have hEe := (hE5.below hbe).wr
                  have hrte := hrt9.far hkp (Nat.le_refl _) hft2
                  have hrwe := hrw9.far hkp (Nat.le_refl _) hfw2
                  have hrce := hrc9.far hkp (Nat.le_refl _) hgc2
                  clear hE9 hrt9 hrw9 hrc9 hrs9 hown hkp hcl9
                  go_wp2_with fail
                  refine (sameW_yes At Aw ct cw _ _ S _ hrte hrwe (by omega)).mono ?_
                  rintro e w' ⟨rfl, p1, rfl⟩
                  go_wp2_with fail
                  refine (sameW_yes (some ⟨gc, 0, none⟩) A3 k6 c3 _ _ l _ (hrce.drewN p1) (hEe.drewN p1) (by omega)).mono ?_
                  rintro e w' ⟨rfl, p2, rfl⟩
                  go_wp2
                  go_roundw
                  case rel => exact ⟨i + 1, by go_num, by omega, by omega, below_drewN hbe _⟩
                  case measure => simp [intOf]; omega
          · have y1 : decide (i < 11) = false := decide_eq_false hlt
            go_wp2_with fail
            refine (of_any d Ad cd L A1 c1 K wr hEi.dir hEi.dir.blk.lt hEi.ris hEi.keys (by omega)).mono ?_
            rintro e w6 ⟨Aa, ca, rfl, howna, hb6, hfa⟩
            have hbb6 := hb.trans (hb6.mono hb.size)
            have hE6 := hE5.below hbb6
            go_wp2_with fail
            refine (of_any d Ad cd L A1 c1 K w6 hE6.dir hE6.dir.blk.lt hE6.ris hE6.keys (by omega)).mono ?_
            rintro e w7 ⟨Ab, cb, rfl, hownb, hb7, hfb⟩
            have hbb7 := hbb6.trans (hb7.mono hbb6.size)
            have hE7 := hE5.below hbb7
            have m0d := hE7.mb.cell 0
            simp only [List.getElem?_toArray, List.getElem?_cons_zero] at m0d
            clear m0c
            go_wp2_with fail
            refine (rof_any Am cm L A1 c1 K w7 hE7.mm hfew hE7.keys (by omega)).mono ?_
            rintro e w8 ⟨Aw, cw, rfl, hownw, hb8, hfw⟩
            have hbb8 := hbb7.trans (hb8.mono hbb7.size)
            have hfl := ofL_len L K
            generalize ofL L K = M at *
            generalize ofE K = er at *
            have hs8 := (Kept.of_below (S := []) (hb7.trans (hb8.mono hb7.size))).own howna (by simp)
            have hrb8 := Reads.of_own ((Kept.of_below (S := []) hb8).own hownb (by simp))
            have hra8 := Reads.of_own hs8
            have hrw8 := Reads.of_own hownw
            have hfa2 : ∀ x ∈ ob Aa, wr.heap.size ≤ x ∧ x < w6.heap.size := fun x hx => ⟨hfa x hx, own_lt howna x hx⟩
            have hfb2 : ∀ x ∈ ob Ab, x ∉ ob Aa := fun x hx hx2 => by have := hfb x hx; have := hfa2 x hx2; omega
            have hfw2 : ∀ x ∈ ob Aw, x ∉ ob Aa := fun x hx hx2 => by have := hfw x hx; have := hfa2 x hx2; have := hb7.size; omega
            have hfa3 : ∀ x ∈ ob Aa, w5.heap.size ≤ x := fun x hx => by have := hfa2 x hx; have := hb.size; omega
            clear howna hownb hownw m0d hE6 hE7 hEi hb6 hb7 hb8 hbb6 hbb7
            go_wp2_with (go_at_call 9; refine (num_any _ _).mono ?_; rintro e w' ⟨rfl, rfl⟩)
            refine (sameI_yes Aa Aw ca cw _ _ M w8 hra8 hrw8 (by omega)).mono ?_
            rintro e w' ⟨rfl, q1, rfl⟩
            go_wp2_with fail
            refine (sameI_yes Ab Aw cb cw _ _ M _ (hrb8.drewN q1) (hrw8.drewN q1) (by omega)).mono ?_
            rintro e w' ⟨rfl, q2, rfl⟩
            go_wp2
            go_loopw [32] (NinesRel M.length Aa ca w8) (fun i _ => M.length - (intOf i).toNat)
            case atStart => exact ⟨0, M, rfl, Nat.zero_le _, rfl, hs8, (Kept.refl _ w8).drewN _⟩
            case round =>
              clear hs8
              obtain ⟨k, ss, rfl, hk, hssl, hown, hkp⟩ := hrel
              have HSS := Lib.hid hssl
              clear hssl
              by_cases hlt : k < M.length
              · obtain ⟨gs, cap, hv, _, hgl⟩ := hown.form (by omega)
                injection hv with hA _ hc
                subst hA
                have x1 := (hown.cellAt k (by omega)).trans (ic_at (M := ss) (i := k) (by rw [HSS.out]; exact hlt))
                have x2 := hown.frozenAt k
                have kL : (0 : Int) ≤ (k : Int) := by omega
                have kU : (k : Int) < (M.length : Int) := by omega
                clear hrb8 hra8 hrw8
                go_wp2
                obtain ⟨hst, _⟩ := hown.stored k (.int .i64 (-9))
                rw [ic_set ss (-9) k] at hst
                go_roundw
                case rel => exact ⟨k + 1, _, by go_num, by omega, by rw [List.length_set]; exact HSS.out, hst, hkp.setCell _ (.inl (by simp [ob]))⟩
                case measure => simp [intOf]; omega
              · have hbe : Below w5.heap.size w5 wr := hbb8.trans (hkp.below hbb8.size hfa3)
                have hrbe := hrb8.far hkp (Nat.le_refl _) hfb2
                have hrwe := hrw8.far hkp (Nat.le_refl _) hfw2
                clear hrb8 hra8 hrw8 hown hkp
                go_wp2_with fail
                refine (sameI_yes Ab Aw cb cw _ _ M _ hrbe hrwe (by omega)).mono ?_
                rintro e w' ⟨rfl, q3, rfl⟩
                go_wp2
                go_ret
                exact ⟨rfl, below_drewN (hb5'.trans (hbe.mono hb5'.size)) _⟩
  · have hx0 : (newE L == 0) = false := beq_eq_false_iff_ne.2 hE
    have hx1 : (newE L != 0) = true := by simp [hE]
    have HN := Lib.hid (dnew_no A c w.heap.size L w hr (Nat.le_refl _) (by omega) hE)
    have HR := Lib.hid (fun w3 (hb3' : Below w.heap.size w w3) => rnew_no A c w.heap.size L w3 (hr.below hb3') hb3'.size (by omega) hE)
    generalize newE L = x at *
    go_enter Try.func5, Try.ntmps5
    go_wp2_with fail
    refine HN.out.mono ?_
    clear HN
    rintro e w3 ⟨rfl, hb3⟩
    go_wp2_with fail
    refine (HR.out w3 hb3).mono ?_
    clear HR
    rintro e w4 ⟨rfl, hb4⟩
    have hb4' := hb3.trans (hb4.mono hb3.size)
    have hb5' := hb4'.alloc hb4'.size (.cells #[.slice none 0 0] 28)
    go_wp2_with (go_at_call 9; refine (num_any _ _).mono ?_; rintro e w' ⟨rfl, rfl⟩)
    go_ret
    exact ⟨rfl, hb5'⟩
end Go.Proofs.Ythenjpenfemmbaa
