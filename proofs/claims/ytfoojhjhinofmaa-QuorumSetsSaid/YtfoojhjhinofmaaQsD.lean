/- Layer 7: the law QuorumSets. -/
import Derived.Test.YtfoojhjhinofmaaQsC
namespace Go.Proofs.Ytfoojhjhinofmaa
open Go.RowKit Go.Shelf
set_option linter.unusedSimpArgs false
set_option linter.unusedVariables false
attribute [local go_sem] Oper.semAt_some
attribute [local go_sem] run_eq_func

/-- the frame between two turns -/
def lawFr (b4 b5 b6 b7 b8 b9 : Nat) (stop inner k : Int) (u : Nat → Value) (ds : List Deferred) : Act := { tmps := #[.int .i64 k, .int .i64 stop, .int .i64 inner, u 3, .pointer (some ⟨b4, 0, none⟩), .pointer (some ⟨b5, 0, none⟩), .pointer (some ⟨b6, 0, none⟩), .pointer (some ⟨b7, 0, none⟩), .pointer (some ⟨b8, 0, none⟩), .pointer (some ⟨b9, 0, none⟩), u 10, u 11, u 12, u 13, u 14, u 15, u 16, u 17, u 18, u 19, u 20, u 21, u 22, u 23, u 24, u 25, u 26, u 27, u 28, u 29, u 30, u 31, u 32, u 33, u 34, u 35, u 36, u 37, u 38, u 39, u 40, u 41, u 42, u 43, u 44, u 45, u 46, u 47, u 48, u 49, u 50, u 51, u 52, u 53, u 54, u 55, u 56, u 57, u 58, u 59, u 60, u 61, u 62, u 63, u 64, u 65, u 66, u 67, u 68, u 69, u 70, u 71, u 72, u 73, u 74, u 75, u 76, u 77, u 78, u 79, u 80, u 81, u 82, u 83, u 84, u 85, u 86, u 87, u 88, u 89, u 90, u 91], defers := ds }
/-- between two turns -/
def LawI (w : World) (b4 b5 b6 b7 bn b8 : Nat) (stop inner k : Int) (Aw : Option Addr) (cw : Nat) (L : List Nat) (t : Nat) (a : Act) (W : World) : Prop :=
  ∃ (u : Nat → Value) (b9 : Nat) (ds : List Deferred), a = lawFr b4 b5 b6 b7 b8 b9 stop inner k u ds ∧
    t ≤ 2 ∧ QEnv W b4 b5 b6 b7 bn b8 stop inner k Aw cw L ∧ Boxed W b9 3 (.int .i64 (t : Nat)) ∧ w.heap.size ≤ b9 ∧ Marks w.heap.size ds W ∧ Below w.heap.size w W
theorem LawI.mk {w W : World} {b4 b5 b6 b7 bn b8 b9 t : Nat} {stop inner k : Int} {Aw : Option Addr} {cw : Nat} {L : List Nat} {tm : Array Value} {ds : List Deferred}
    (hf : (⟨tm, ds⟩ : Act) = lawFr b4 b5 b6 b7 b8 b9 stop inner k (fun i => tm.getD i undef) ds) (ht : t ≤ 2) (hE : QEnv W b4 b5 b6 b7 bn b8 stop inner k Aw cw L) (bT : Boxed W b9 3 (.int .i64 (t : Nat))) (hb9 : w.heap.size ≤ b9) (hM : Marks w.heap.size ds W) (hB : Below w.heap.size w W) :
    LawI w b4 b5 b6 b7 bn b8 stop inner k Aw cw L t ⟨tm, ds⟩ W := ⟨_, b9, ds, hf, ht, hE, bT, hb9, hM, hB⟩

set_option maxHeartbeats 8000000 in
set_option maxRecDepth 100000 in
theorem setsLaw_any (n stop inner : Int) (w : World) : Calls Try.prog 3 #[.int .i64 n, .int .i64 stop, .int .i64 inner] w (Done w) := by
  refine (callsIn_wide (n := 9)).1 ?_
  by_cases hn : 10 < n ∧ n ≤ 16
  · have z1 : decide (10 < n) = true := decide_eq_true hn.1
    have z2 : decide (n ≤ 16) = true := decide_eq_true hn.2
    have hk : (10 : Int) ≤ 10 ∨ 16 < (10 : Int) := .inl (by decide)
    clear hn
    refine callsIn_of_wp_marks Try.func3 rfl trivial ?_ rfl
    simp only [Try.ntmps3, List.size_toArray, List.length_cons, List.length_nil, Nat.reduceAdd, Nat.reduceSub, Array.replicate_succ, Array.replicate_zero, List.push_toArray, List.append_toArray, List.nil_append, List.cons_append]
    have b4 := ((((Boxed.new w 3 (.int .i64 stop)).alloc (.cells #[.int .i64 inner] 3)).alloc (.cells #[.bool false] 4)).alloc (.cells #[.int .i64 10] 3)).alloc (.cells #[.func (.func 19) #[] #[.pointer (some ⟨w.heap.size + 1 + 1 + 1, 0, none⟩)]] 23)
    have b5 := (((Boxed.new (w.alloc (.cells #[.int .i64 stop] 3)) 3 (.int .i64 inner)).alloc (.cells #[.bool false] 4)).alloc (.cells #[.int .i64 10] 3)).alloc (.cells #[.func (.func 19) #[] #[.pointer (some ⟨w.heap.size + 1 + 1 + 1, 0, none⟩)]] 23)
    have b6 := ((Boxed.new ((w.alloc (.cells #[.int .i64 stop] 3)).alloc (.cells #[.int .i64 inner] 3)) 4 (.bool false)).alloc (.cells #[.int .i64 10] 3)).alloc (.cells #[.func (.func 19) #[] #[.pointer (some ⟨w.heap.size + 1 + 1 + 1, 0, none⟩)]] 23)
    have bn := (Boxed.new (((w.alloc (.cells #[.int .i64 stop] 3)).alloc (.cells #[.int .i64 inner] 3)).alloc (.cells #[.bool false] 4)) 3 (.int .i64 10)).alloc (.cells #[.func (.func 19) #[] #[.pointer (some ⟨w.heap.size + 1 + 1 + 1, 0, none⟩)]] 23)
    have b7 := Boxed.new ((((w.alloc (.cells #[.int .i64 stop] 3)).alloc (.cells #[.int .i64 inner] 3)).alloc (.cells #[.bool false] 4)).alloc (.cells #[.int .i64 10] 3)) 23 (.func (.func 19) #[] #[.pointer (some ⟨w.heap.size + 1 + 1 + 1, 0, none⟩)])
    have hB1 := ((((((Below.refl w.heap.size w).alloc (Nat.le_refl _) (.cells #[.int .i64 stop] 3)).alloc (by simp) (.cells #[.int .i64 inner] 3)).alloc (by simp; omega) (.cells #[.bool false] 4)).alloc (by simp; omega) (.cells #[.int .i64 10] 3)).alloc (by simp; omega) (.cells #[.func (.func 19) #[] #[.pointer (some ⟨w.heap.size + 1 + 1 + 1, 0, none⟩)]] 23))
    have hz : (((((w.alloc (.cells #[.int .i64 stop] 3)).alloc (.cells #[.int .i64 inner] 3)).alloc (.cells #[.bool false] 4)).alloc (.cells #[.int .i64 10] 3)).alloc (.cells #[.func (.func 19) #[] #[.pointer (some ⟨w.heap.size + 1 + 1 + 1, 0, none⟩)]] 23)).heap.size = w.heap.size + 5 := by simp
    simp only [World.size_alloc] at b5 b6 bn b7
    have HREF := Lib.hid (ref_all 10 hk (((((w.alloc (.cells #[.int .i64 stop] 3)).alloc (.cells #[.int .i64 inner] 3)).alloc (.cells #[.bool false] 4)).alloc (.cells #[.int .i64 10] 3)).alloc (.cells #[.func (.func 19) #[] #[.pointer (some ⟨w.heap.size + 1 + 1 + 1, 0, none⟩)]] 23)))
    have hLl := setsL_len 10
    have HST := Lib.hid (fun (nn : Nat) (hn : 1 ≤ nn) (Bn n₀ : Nat) => stops_all nn hn Bn n₀ 10 hk)
    generalize setsL 10 = L at HREF hLl HST
    have c7 := b7.cell
    gi_wp2_with (first
      | (refine ⟨trivial, ?_⟩; gi_at_call 8; refine (callsIn_wide.2 (sets_any 10 _)).mono ?_; rintro e w' ⟨rfl, rfl⟩)
      | (refine ⟨trivial, ?_⟩; gi_at_call 9; refine (callsIn_wide.2 HREF.out).mono ?_; rintro e w2 ⟨Aw, cw, rfl, hrow, hbw, hfw⟩))
    clear c7 HREF hfw
    have hw2 := hbw.size
    have hB2 := hB1.trans (hbw.mono hB1.size)
    have e8 := Boxed.new w2 25 (.slice Aw L.length cw)
    have hz1 : (w2.alloc (.cells #[.slice Aw L.length cw] 25)).heap.size = w2.heap.size + 1 := by simp
    have hE0 : QEnv (w2.alloc (.cells #[.slice Aw L.length cw] 25)) w.heap.size (w.heap.size + 1) (w.heap.size + 1 + 1) (w.heap.size + 1 + 1 + 1 + 1) (w.heap.size + 1 + 1 + 1) w2.heap.size stop inner 10 Aw cw L :=
      ⟨(b4.blwQ hbw b4.lt).alloc _, (b5.blwQ hbw b5.lt).alloc _, (b6.blwQ hbw b6.lt).alloc _, (b7.blwQ hbw b7.lt).alloc _, (bn.blwQ hbw bn.lt).alloc _, e8, ((Reads.of_own hrow).alloc (Nat.le_refl _) _).more (by omega)⟩
    have hE1 := hE0.below ((Below.refl _ _).alloc (Nat.le_refl _) (.cells #[.int .i64 0] 3))
    have bT := Boxed.new (w2.alloc (.cells #[.slice Aw L.length cw] 25)) 3 (.int .i64 0)
    have hB3 := (hB2.alloc (by omega) (.cells #[.slice Aw L.length cw] 25)).alloc (by omega) (.cells #[.int .i64 0] 3)
    rw [hz1] at bT
    have hb6 : w.heap.size ≤ w.heap.size + 1 + 1 := by omega
    have hb9 : w.heap.size ≤ w2.heap.size + 1 := by omega
    refine rounds_of (LawI w w.heap.size (w.heap.size + 1) (w.heap.size + 1 + 1) (w.heap.size + 1 + 1 + 1 + 1) (w.heap.size + 1 + 1 + 1) w2.heap.size stop inner 10 Aw cw L) ?_ ?_ (LawI.mk rfl (by omega) hE1 bT hb9 trivial hB3)
    · rintro a W ⟨u, b9, ds, _, h, _⟩
      omega
    generalize w.heap.size + 1 + 1 + 1 + 1 = b7' at *
    generalize w.heap.size + 1 + 1 + 1 = bn' at *
    generalize w.heap.size + 1 + 1 = b6' at *
    generalize w.heap.size + 1 = b5' at *
    clear b4 b5 b6 bn b7 hB1 hrow hbw hB2 e8 hE0 hE1 bT hB3 z1 z2 hz hz1 hb9 hw2
    rintro t a W ⟨u, b9, ds, rfl, ht2, hE, bT, hb9, hM, hB⟩
    dsimp only [lawFr]
    by_cases ht : t = 2
    · subst ht
      have y1 : decide ((2 : Int) < 2) = false := by decide
      have c9 := bT.cell
      have c6 := hE.s6.cell
      have f6 := hE.s6.frozen
      gi_wp2
      refine leaves_marks (w := w) rfl ?_ (hM.kept (fun k o ho hc hd => (KeepsOthers.setCell W ⟨b6', 0, none⟩ (.bool true)).same k o ho hc)) (hE.s6.set (.bool true)) (hB.setCell (p := ⟨b6', 0, none⟩) hb6 _)
      intro W' hc hBW
      refine ⟨.bool true, ?_, rfl, hBW⟩
      simp [results, Try.f3, go_sem, hc]
    have hlE := hE.sn.lt
    have c9 := (bT.alloc (.cells #[.int .i64 0] 3)).cell
    have c90 := bT.cell
    have c7 := (hE.s7.alloc (.cells #[.int .i64 0] 3)).cell
    have y1 : decide ((t : Int) < 2) = true := decide_eq_true (by omega)
    gi_wp2
    refine frame_of 31 11 ?_
    intro Fr hFr
    simp only [List.setIfInBounds_toArray, List.set_cons_succ, List.set_cons_zero] at hFr
    have bI0 := Boxed.new W 3 (.int .i64 0)
    obtain ⟨s, hs⟩ : ∃ s, s = W.heap.size := ⟨_, rfl⟩
    have hE0 := hE.below ((Below.refl _ W).alloc (Nat.le_refl _) (.cells #[.int .i64 0] 3))
    have hBs0 : Below s W (W.alloc (.cells #[.int .i64 0] 3)) := (Below.refl s W).alloc (by omega) _
    have hsz : (W.alloc (.cells #[.int .i64 0] 3)).heap.size = s + 1 := by simp [hs]
    have hsB := hB.size
    simp only [← hs] at bI0 hFr hlE
    rw [← hs]
    obtain ⟨W0, hW0⟩ : ∃ W0, W.alloc (.cells #[.int .i64 0] 3) = W0 := ⟨_, rfl⟩
    rw [hW0] at bI0 hE0 hBs0 hsz ⊢
    have hT9 := bT.lt
    rw [← hs] at hsB hT9
    have HS := Lib.hid hs
    have HSZ := Lib.hid hsz
    clear hW0
    clear c9 c7 y1 hs hsz
    refine wpIn_rangeFunc_ownH rfl (by decide) (gf := 19) (lb := #[.pointer (some ⟨bn', 0, none⟩)]) rfl trivial (enters_of Try.func19 (by kernel_rfl) rfl)
      (HST.out 8 (by decide) bn' s W0 (by omega) (by have := HSZ.out; omega) hE0.sn.cell) belowK_t (belowK_b (by have := HSZ.out; omega)) (Below.refl _ _) (fun _ => rfl)
      (fun pre W' => (pre = L.take pre.length ∧ Boxed W' s 3 (.int .i64 (pre.length : Nat))) ∧ Below s W W')
      (fun c pre W' => (c = .ret ∧ ¬ pre <+: L) ∨ (((c = .exit 2 ∧ t = 0 ∧ ((pre.length : Int) - 1 = stop)) ∧ Boxed W' s 3 (.int .i64 (pre.length : Nat))) ∧ Below s W W'))
      (OwnFrom.and (OwnFrom.and (ownFrom_pure _ _) (Own.from (boxed_own _ _ _) _)) (ownFrom_below (by have := HS.out; omega) (by have := HSZ.out; omega)))
      (fun c => ownFrom_or (ownFrom_pure _ _) (OwnFrom.and (OwnFrom.and (ownFrom_pure _ _) (Own.from (boxed_own _ _ _) _)) (ownFrom_below (by have := HS.out; omega) (by have := HSZ.out; omega))))
      ⟨⟨rfl, bI0⟩, hBs0⟩
      (fun x a' _ => a' = Fr x) (fun _ _ _ _ _ _ hs _ _ => hs)
      ?assign ?body ?done ?stop
    case assign =>
      rintro l pre x V K hi hK
      gi_wp2
      exact hK _ _ (KeepsFrom.refl _ _) (Below.refl _ _) hi (hFr x).symm
    case body =>
      rintro l pre x a' V hl ⟨r, hr⟩ ⟨⟨hp, bI1⟩, hB1⟩ rfl hlt
      rw [hFr x]
      have HP := Lib.hid hp
      clear hp
      have hE1 := hE.below (by rw [← HS.out]; exact hB1)
      have hsV := bI1.lt
      have bT1 := bT.blwQ hB1 hT9
      have cI := bI1.cell
      have fI := bI1.frozen
      have c4 := hE1.s4.cell
      have c5 := hE1.s5.cell
      have c6 := hE1.s6.cell
      have f6 := hE1.s6.frozen
      have c8 := hE1.s8.cell
      have c9 := bT1.cell
      obtain ⟨ad, hA, hcw⟩ := hE1.want hlt
      subst hA
      have v1 : (0 : Int) ≤ (pre.length : Int) := by omega
      have v2 : (pre.length : Int) < (L.length : Int) := by omega
      have v3 : decide ((L.length : Int) ≤ (pre.length : Int)) = false := decide_eq_false (by omega)
      have v3' : decide (L.length ≤ pre.length) = false := decide_eq_false (by omega)
      by_cases hx : x = gn L pre.length
      · rw [← hx] at hcw
        have HX := Lib.hid hx
        clear hx
        by_cases hin : (pre.length : Int) = inner
        · have v4 : ((pre.length : Int) == inner) = true := by rw [hin]; simp
          clear hin
          have c7' := (hE1.s7.alloc (.cells #[.int .i64 0] 3)).cell
          gi_wp2
          refine frame_of 48 13 ?_
          intro Fr2 hFr2
          simp only [List.setIfInBounds_toArray, List.set_cons_succ, List.set_cons_zero] at hFr2
          have hr' : (V.alloc (.cells #[.int .i64 0] 3)).heap[l]? = some (.loop r) := (Below.heap_alloc V _ l (Array.getElem?_eq_some_iff.1 hr).1).trans hr
          have bK := Boxed.new V 3 (.int .i64 0)
          have hEV := hE1.below ((Below.refl _ V).alloc (Nat.le_refl _) (.cells #[.int .i64 0] 3))
          have bIV := bI1.alloc (.cells #[.int .i64 0] 3)
          have hsW : s < V.heap.size := bI1.lt
          have hsV : (V.alloc (.cells #[.int .i64 0] 3)).heap.size = V.heap.size + 1 := by simp
          have hBV : Below s V (V.alloc (.cells #[.int .i64 0] 3)) := (Below.refl s V).alloc (by omega) _
          have hKV : KeepsFrom (s + 1) V (V.alloc (.cells #[.int .i64 0] 3)) := (KeepsOthers.alloc _ _).from _
          have hlV := hEV.sn.lt
          have hsz0 : V.heap.size ≤ (V.alloc (.cells #[.int .i64 0] 3)).heap.size := by simp
          refine wpIn_rangeFunc_ownN (l₀ := l) (r₀ := r) rfl hr' (by decide) (gf := 19) (lb := #[.pointer (some ⟨bn', 0, none⟩)]) rfl trivial (enters_of Try.func19 (by kernel_rfl) rfl)
            ((HST.out 6 (by decide) bn' s (V.alloc (.cells #[.int .i64 0] 3)) (by omega) (by omega) hEV.sn.cell).inRound l) belowK_t (belowK_b (by omega)) (Below.refl _ _) (fun _ => rfl)
            (fun pre' W' => ((pre' = L.take pre'.length ∧ Boxed W' s 3 (.int .i64 (pre.length : Nat))) ∧ Boxed W' V.heap.size 3 (.int .i64 (pre'.length : Nat))) ∧ (Below s V W' ∧ KeepsFrom (s + 1) V W'))
            (fun c pre' W' => (c = .ret ∧ ¬ pre' <+: L) ∧ KeepsFrom (s + 1) V W')
            (OwnFrom.and (OwnFrom.and (OwnFrom.and (ownFrom_pure _ _) (Own.from (boxed_own _ _ _) _)) (Own.from (boxed_own _ _ _) _)) (OwnFrom.and (ownFrom_below (by omega) (by omega)) (ownFrom_keepsFrom hsz0)))
            (fun c => OwnFrom.and (ownFrom_pure _ _) (ownFrom_keepsFrom hsz0))
            ⟨⟨⟨rfl, bIV⟩, bK⟩, hBV, hKV⟩
            (fun y a'' _ => a'' = Fr2 y) (fun _ _ _ _ _ _ hs _ _ => hs)
            ?assign2 ?body2 ?done2 ?stop2
          case assign2 =>
            rintro l2 pre' y W' K hi hK
            gi_wp2
            exact hK _ _ (KeepsFrom.refl _ _) (Below.refl _ _) hi (hFr2 y).symm
          case body2 =>
            rintro l2 pre' y a'' W' _ _ ⟨⟨⟨hp', bI2⟩, bK2⟩, hBW, hKF⟩ rfl hlt2
            have HP2 := Lib.hid hp'
            clear hp'
            rw [hFr2 y]
            have hE2 := hE.below (by rw [← HS.out]; exact hB1.trans hBW)
            have cK := bK2.cell
            have fK := bK2.frozen
            have c8' := hE2.s8.cell
            have c6' := hE2.s6.cell
            have f6' := hE2.s6.frozen
            obtain ⟨ad2, hA2, hcw2⟩ := hE2.want hlt2
            cases hA2
            have w1 : (0 : Int) ≤ (pre'.length : Int) := by omega
            have w2 : (pre'.length : Int) < (L.length : Int) := by omega
            have w3 : decide ((L.length : Int) ≤ (pre'.length : Int)) = false := decide_eq_false (by omega)
            have w3' : decide (L.length ≤ pre'.length) = false := decide_eq_false (by omega)
            by_cases hy : y = gn L pre'.length
            · rw [← hy] at hcw2
              have HY := Lib.hid hy
              clear hy
              gi_wp2
              exact ⟨(KeepsOthers.setCell _ _ _).from _, (Below.refl s W').setCell (p := ⟨V.heap.size, 0, none⟩) (by simp only; omega) _, ⟨⟨⟨pre_on HP2.out hlt2 HY.out, bI2.other (by omega) _⟩, by rw [pre_len]; exact bK2.set _⟩, hBW.setCell (p := ⟨V.heap.size, 0, none⟩) (by simp only; omega) _, hKF.trans ((KeepsOthers.setCell _ _ _).from _)⟩⟩
            · have hy2 : ((y : Int) != (gn L pre'.length : Int)) = true := bne_iff_ne.2 (by omega)
              have HY := Lib.hid hy
              clear hy
              gi_wp2
              exact ⟨(KeepsOthers.setCell _ _ _).from _, ⟨rfl, pre_no hlt2 HY.out⟩, hKF.trans ((KeepsOthers.setCell _ _ _).from _)⟩
          case done2 =>
            rintro ys W' hys ⟨⟨⟨hp', bI2⟩, bK2⟩, hBW, hKF⟩
            rw [hys] at bK2
            have hE2 := hE.below (by rw [← HS.out]; exact hB1.trans hBW)
            have cK := bK2.cell
            have c8' := hE2.s8.cell
            have cI2 := bI2.cell
            have fI2 := bI2.frozen
            have c42 := hE2.s4.cell
            have c92 := (bT.blwQ (hB1.trans hBW) hT9).cell
            have hKF' : KeepsFrom W0.heap.size V W' := by rw [HSZ.out]; exact hKF
            clear cI c8 c9 c4 c7' c5 c6 f6 hcw fI hKF
            by_cases ht0 : t = 0
            · have y3 : ((t : Int) == 0) = true := by rw [ht0]; rfl
              have HT0 := Lib.hid ht0
              clear ht0
              by_cases hst : (pre.length : Int) = stop
              · have y4 : ((pre.length : Int) == stop) = true := by rw [hst]; simp
                have HST2 := Lib.hid hst
                clear hst
                gi_wp2
                exact ⟨hKF'.trans ((KeepsOthers.setCell _ _ _).from _), .inr ⟨⟨⟨rfl, HT0.out, by have := HST2.out; rw [pre_len]; omega⟩, by rw [pre_len]; exact bI2.set _⟩, (hB1.trans hBW).setCell (p := ⟨s, 0, none⟩) (by simp) _⟩⟩
              · have y4 : ((pre.length : Int) == stop) = false := beq_eq_false_iff_ne.2 hst
                clear hst
                gi_wp2
                exact ⟨hKF'.trans ((KeepsOthers.setCell _ _ _).from _), hBW.setCell (p := ⟨s, 0, none⟩) (by simp) _, ⟨⟨pre_on HP.out hlt HX.out, by rw [pre_len]; exact bI2.set _⟩, (hB1.trans hBW).setCell (p := ⟨s, 0, none⟩) (by simp) _⟩⟩
            · have y3 : ((t : Int) == 0) = false := beq_eq_false_iff_ne.2 (by omega)
              clear ht0
              gi_wp2
              exact ⟨hKF'.trans ((KeepsOthers.setCell _ _ _).from _), hBW.setCell (p := ⟨s, 0, none⟩) (by simp) _, ⟨⟨pre_on HP.out hlt HX.out, by rw [pre_len]; exact bI2.set _⟩, (hB1.trans hBW).setCell (p := ⟨s, 0, none⟩) (by simp) _⟩⟩
          case stop2 =>
            rintro c pre' W' hpre ⟨⟨rfl, hno⟩, hKF⟩
            exact absurd hpre hno
        · have v4 : ((pre.length : Int) == inner) = false := beq_eq_false_iff_ne.2 hin
          clear hin
          by_cases ht0 : t = 0
          · have y3 : ((t : Int) == 0) = true := by rw [ht0]; rfl
            have HT0 := Lib.hid ht0
            clear ht0
            by_cases hst : (pre.length : Int) = stop
            · have y4 : ((pre.length : Int) == stop) = true := by rw [hst]; simp
              have HST2 := Lib.hid hst
              clear hst
              gi_wp2
              exact ⟨(KeepsFrom.refl _ _).trans ((KeepsOthers.setCell _ _ _).from _), .inr ⟨⟨⟨rfl, HT0.out, by have := HST2.out; rw [pre_len]; omega⟩, by rw [pre_len]; exact bI1.set _⟩, hB1.setCell (p := ⟨s, 0, none⟩) (by simp) _⟩⟩
            · have y4 : ((pre.length : Int) == stop) = false := beq_eq_false_iff_ne.2 hst
              clear hst
              gi_wp2
              exact ⟨(KeepsFrom.refl _ _).trans ((KeepsOthers.setCell _ _ _).from _), (Below.refl s V).setCell (p := ⟨s, 0, none⟩) (by simp) _, ⟨⟨pre_on HP.out hlt HX.out, by rw [pre_len]; exact bI1.set _⟩, hB1.setCell (p := ⟨s, 0, none⟩) (by simp) _⟩⟩
          · have y3 : ((t : Int) == 0) = false := beq_eq_false_iff_ne.2 (by omega)
            clear ht0
            gi_wp2
            exact ⟨(KeepsFrom.refl _ _).trans ((KeepsOthers.setCell _ _ _).from _), (Below.refl s V).setCell (p := ⟨s, 0, none⟩) (by simp) _, ⟨⟨pre_on HP.out hlt HX.out, by rw [pre_len]; exact bI1.set _⟩, hB1.setCell (p := ⟨s, 0, none⟩) (by simp) _⟩⟩
      · have hx2 : ¬ (x : Int) = (gn L pre.length : Int) := by omega
        have hx3 : ((x : Int) != (gn L pre.length : Int)) = true := bne_iff_ne.2 hx2
        have HX := Lib.hid hx
        clear hx hx2
        gi_wp2
        exact ⟨(KeepsOthers.setCell _ _ _).from _, .inl ⟨rfl, pre_no hlt HX.out⟩⟩
    case done =>
      rintro D xs V hD hxs ⟨⟨hp, bI1⟩, hB1⟩ hK
      clear hp
      rw [hxs] at bI1
      clear hxs
      have hBW : Below W.heap.size W V := by rw [← HS.out]; exact hB1
      have hEV := hE.below hBW
      have bT1 := bT.blwQ hB1 hT9
      have cI := bI1.cell
      have c8 := hEV.s8.cell
      have c9 := bT1.cell
      clear c90 hE0 bI0 hBs0
      gi_wp2
      have hVA := (Below.refl V.heap.size V).alloc (Nat.le_refl _) (.cells #[.int .i64 ((t : Int) + 1)] 3)
      have hEn := hEV.below hVA
      have bTn := Boxed.new V 3 (.int .i64 ((t : Int) + 1))
      have hDs : s + 1 ≤ D := by have := HSZ.out; omega
      have hBV : Below w.heap.size w V := hB.trans (hB1.mono hsB)
      have hsV := hBV.size
      have hMn : Marks w.heap.size ({ target := .collected D, args := #[] } :: ds) (V.alloc (.cells #[.int .i64 ((t : Int) + 1)] 3)) :=
        ⟨⟨D, rfl, by omega, (hVA.block D (Array.getElem?_eq_some_iff.1 hK).1).trans hK, fun d' hd' htt => by have := hM.lt d' hd' htt; have := HS.out; omega⟩, (hM.below (N := 0) hBW).below (N := 0) hVA⟩
      have bTn' : Boxed (V.alloc (.cells #[.int .i64 ((t : Int) + 1)] 3)) V.heap.size 3 (.int .i64 ((t + 1 : Nat) : Int)) := by rw [show ((t + 1 : Nat) : Int) = (t : Int) + 1 by omega]; exact bTn
      exact LawI.mk rfl (by omega) hEn bTn' hsV hMn (hBV.alloc hsV _)
    case stop =>
      rintro D c pre V hD hpre (⟨rfl, hno⟩ | ⟨⟨⟨rfl, ht0, hst⟩, bI1⟩, hB1⟩) hK
      · exact absurd hpre hno
      · have hpl := hpre.length_le
        clear hpre
        have hBW : Below W.heap.size W V := by rw [← HS.out]; exact hB1
        have hEV := hE.below hBW
        have bT1 := bT.blwQ hB1 hT9
        have cI := bI1.cell
        have c4 := hEV.s4.cell
        have c8 := hEV.s8.cell
        have c9 := bT1.cell
        have y5 : ((t : Int) == 1) = false := beq_eq_false_iff_ne.2 (by omega)
        have y6 : ((pre.length : Int) - 1 != stop) = false := by rw [hst]; simp
        have y8 : (wrap64 ((pre.length : Int) - 1) != stop) = false := by rw [show wrap64 ((pre.length : Int) - 1) = (pre.length : Int) - 1 by unfold wrap64; omega, hst]; simp
        clear c90 hE0 bI0 hBs0 ht0 hst
        by_cases hne : pre.length = L.length
        · have y7 : ((pre.length : Int) != (L.length : Int)) = false := by rw [hne]; simp
          clear hne
          gi_wp2
          have hVA := (Below.refl V.heap.size V).alloc (Nat.le_refl _) (.cells #[.int .i64 ((t : Int) + 1)] 3)
          have hEn := hEV.below hVA
          have bTn := Boxed.new V 3 (.int .i64 ((t : Int) + 1))
          have hDs : s + 1 ≤ D := by have := HSZ.out; omega
          have hBV : Below w.heap.size w V := hB.trans (hB1.mono hsB)
          have hsV := hBV.size
          have hMn : Marks w.heap.size ({ target := .collected D, args := #[] } :: ds) (V.alloc (.cells #[.int .i64 ((t : Int) + 1)] 3)) :=
            ⟨⟨D, rfl, by omega, (hVA.block D (Array.getElem?_eq_some_iff.1 hK).1).trans hK, fun d' hd' htt => by have := hM.lt d' hd' htt; have := HS.out; omega⟩, (hM.below (N := 0) hBW).below (N := 0) hVA⟩
          have bTn' : Boxed (V.alloc (.cells #[.int .i64 ((t : Int) + 1)] 3)) V.heap.size 3 (.int .i64 ((t + 1 : Nat) : Int)) := by rw [show ((t + 1 : Nat) : Int) = (t : Int) + 1 by omega]; exact bTn
          exact LawI.mk rfl (by omega) hEn bTn' hsV hMn (hBV.alloc hsV _)
        · have y7 : ((pre.length : Int) != (L.length : Int)) = true := bne_iff_ne.2 (by omega)
          clear hne
          gi_wp2
          have hVA := (Below.refl V.heap.size V).alloc (Nat.le_refl _) (.cells #[.int .i64 ((t : Int) + 1)] 3)
          have hEn := hEV.below hVA
          have bTn := Boxed.new V 3 (.int .i64 ((t : Int) + 1))
          have hDs : s + 1 ≤ D := by have := HSZ.out; omega
          have hBV : Below w.heap.size w V := hB.trans (hB1.mono hsB)
          have hsV := hBV.size
          have hMn : Marks w.heap.size ({ target := .collected D, args := #[] } :: ds) (V.alloc (.cells #[.int .i64 ((t : Int) + 1)] 3)) :=
            ⟨⟨D, rfl, by omega, (hVA.block D (Array.getElem?_eq_some_iff.1 hK).1).trans hK, fun d' hd' htt => by have := hM.lt d' hd' htt; have := HS.out; omega⟩, (hM.below (N := 0) hBW).below (N := 0) hVA⟩
          have bTn' : Boxed (V.alloc (.cells #[.int .i64 ((t : Int) + 1)] 3)) V.heap.size 3 (.int .i64 ((t + 1 : Nat) : Int)) := by rw [show ((t + 1 : Nat) : Int) = (t : Int) + 1 by omega]; exact bTn
          exact LawI.mk rfl (by omega) hEn bTn' hsV hMn (hBV.alloc hsV _)
  · have hk : n ≤ 10 ∨ 16 < n := by omega
    have z3 : decide (10 < n) = true → decide (n ≤ 16) = false := fun h => decide_eq_false (by have := of_decide_eq_true h; omega)
    clear hn
    cases z1 : decide (10 < n) with
    | true =>
      have z2 := z3 z1
      clear z3
      refine callsIn_of_wp_marks Try.func3 rfl trivial ?_ rfl
      simp only [Try.ntmps3, List.size_toArray, List.length_cons, List.length_nil, Nat.reduceAdd, Nat.reduceSub, Array.replicate_succ, Array.replicate_zero, List.push_toArray, List.append_toArray, List.nil_append, List.cons_append]
      have b4 := ((((Boxed.new w 3 (.int .i64 stop)).alloc (.cells #[.int .i64 inner] 3)).alloc (.cells #[.bool false] 4)).alloc (.cells #[.int .i64 n] 3)).alloc (.cells #[.func (.func 19) #[] #[.pointer (some ⟨w.heap.size + 1 + 1 + 1, 0, none⟩)]] 23)
      have b5 := (((Boxed.new (w.alloc (.cells #[.int .i64 stop] 3)) 3 (.int .i64 inner)).alloc (.cells #[.bool false] 4)).alloc (.cells #[.int .i64 n] 3)).alloc (.cells #[.func (.func 19) #[] #[.pointer (some ⟨w.heap.size + 1 + 1 + 1, 0, none⟩)]] 23)
      have b6 := ((Boxed.new ((w.alloc (.cells #[.int .i64 stop] 3)).alloc (.cells #[.int .i64 inner] 3)) 4 (.bool false)).alloc (.cells #[.int .i64 n] 3)).alloc (.cells #[.func (.func 19) #[] #[.pointer (some ⟨w.heap.size + 1 + 1 + 1, 0, none⟩)]] 23)
      have bn := (Boxed.new (((w.alloc (.cells #[.int .i64 stop] 3)).alloc (.cells #[.int .i64 inner] 3)).alloc (.cells #[.bool false] 4)) 3 (.int .i64 n)).alloc (.cells #[.func (.func 19) #[] #[.pointer (some ⟨w.heap.size + 1 + 1 + 1, 0, none⟩)]] 23)
      have b7 := Boxed.new ((((w.alloc (.cells #[.int .i64 stop] 3)).alloc (.cells #[.int .i64 inner] 3)).alloc (.cells #[.bool false] 4)).alloc (.cells #[.int .i64 n] 3)) 23 (.func (.func 19) #[] #[.pointer (some ⟨w.heap.size + 1 + 1 + 1, 0, none⟩)])
      have hB1 := ((((((Below.refl w.heap.size w).alloc (Nat.le_refl _) (.cells #[.int .i64 stop] 3)).alloc (by simp) (.cells #[.int .i64 inner] 3)).alloc (by simp; omega) (.cells #[.bool false] 4)).alloc (by simp; omega) (.cells #[.int .i64 n] 3)).alloc (by simp; omega) (.cells #[.func (.func 19) #[] #[.pointer (some ⟨w.heap.size + 1 + 1 + 1, 0, none⟩)]] 23))
      have hz : (((((w.alloc (.cells #[.int .i64 stop] 3)).alloc (.cells #[.int .i64 inner] 3)).alloc (.cells #[.bool false] 4)).alloc (.cells #[.int .i64 n] 3)).alloc (.cells #[.func (.func 19) #[] #[.pointer (some ⟨w.heap.size + 1 + 1 + 1, 0, none⟩)]] 23)).heap.size = w.heap.size + 5 := by simp
      simp only [World.size_alloc] at b5 b6 bn b7
      have HREF := Lib.hid (ref_all n hk (((((w.alloc (.cells #[.int .i64 stop] 3)).alloc (.cells #[.int .i64 inner] 3)).alloc (.cells #[.bool false] 4)).alloc (.cells #[.int .i64 n] 3)).alloc (.cells #[.func (.func 19) #[] #[.pointer (some ⟨w.heap.size + 1 + 1 + 1, 0, none⟩)]] 23)))
      have hLl := setsL_len n
      have HST := Lib.hid (fun (nn : Nat) (hn : 1 ≤ nn) (Bn n₀ : Nat) => stops_all nn hn Bn n₀ n hk)
      generalize setsL n = L at HREF hLl HST
      have c7 := b7.cell
      gi_wp2_with (first
        | (refine ⟨trivial, ?_⟩; gi_at_call 8; refine (callsIn_wide.2 (sets_any n _)).mono ?_; rintro e w' ⟨rfl, rfl⟩)
        | (refine ⟨trivial, ?_⟩; gi_at_call 9; refine (callsIn_wide.2 HREF.out).mono ?_; rintro e w2 ⟨Aw, cw, rfl, hrow, hbw, hfw⟩))
      clear c7 HREF hfw
      have hw2 := hbw.size
      have hB2 := hB1.trans (hbw.mono hB1.size)
      have e8 := Boxed.new w2 25 (.slice Aw L.length cw)
      have hz1 : (w2.alloc (.cells #[.slice Aw L.length cw] 25)).heap.size = w2.heap.size + 1 := by simp
      have hE0 : QEnv (w2.alloc (.cells #[.slice Aw L.length cw] 25)) w.heap.size (w.heap.size + 1) (w.heap.size + 1 + 1) (w.heap.size + 1 + 1 + 1 + 1) (w.heap.size + 1 + 1 + 1) w2.heap.size stop inner n Aw cw L :=
        ⟨(b4.blwQ hbw b4.lt).alloc _, (b5.blwQ hbw b5.lt).alloc _, (b6.blwQ hbw b6.lt).alloc _, (b7.blwQ hbw b7.lt).alloc _, (bn.blwQ hbw bn.lt).alloc _, e8, ((Reads.of_own hrow).alloc (Nat.le_refl _) _).more (by omega)⟩
      have hE1 := hE0.below ((Below.refl _ _).alloc (Nat.le_refl _) (.cells #[.int .i64 0] 3))
      have bT := Boxed.new (w2.alloc (.cells #[.slice Aw L.length cw] 25)) 3 (.int .i64 0)
      have hB3 := (hB2.alloc (by omega) (.cells #[.slice Aw L.length cw] 25)).alloc (by omega) (.cells #[.int .i64 0] 3)
      rw [hz1] at bT
      have hb6 : w.heap.size ≤ w.heap.size + 1 + 1 := by omega
      have hb9 : w.heap.size ≤ w2.heap.size + 1 := by omega
      refine rounds_of (LawI w w.heap.size (w.heap.size + 1) (w.heap.size + 1 + 1) (w.heap.size + 1 + 1 + 1 + 1) (w.heap.size + 1 + 1 + 1) w2.heap.size stop inner n Aw cw L) ?_ ?_ (LawI.mk rfl (by omega) hE1 bT hb9 trivial hB3)
      · rintro a W ⟨u, b9, ds, _, h, _⟩
        omega
      generalize w.heap.size + 1 + 1 + 1 + 1 = b7' at *
      generalize w.heap.size + 1 + 1 + 1 = bn' at *
      generalize w.heap.size + 1 + 1 = b6' at *
      generalize w.heap.size + 1 = b5' at *
      clear b4 b5 b6 bn b7 hB1 hrow hbw hB2 e8 hE0 hE1 bT hB3 z1 z2 hz hz1 hb9 hw2
      rintro t a W ⟨u, b9, ds, rfl, ht2, hE, bT, hb9, hM, hB⟩
      dsimp only [lawFr]
      by_cases ht : t = 2
      · subst ht
        have y1 : decide ((2 : Int) < 2) = false := by decide
        have c9 := bT.cell
        have c6 := hE.s6.cell
        have f6 := hE.s6.frozen
        gi_wp2
        refine leaves_marks (w := w) rfl ?_ (hM.kept (fun k o ho hc hd => (KeepsOthers.setCell W ⟨b6', 0, none⟩ (.bool true)).same k o ho hc)) (hE.s6.set (.bool true)) (hB.setCell (p := ⟨b6', 0, none⟩) hb6 _)
        intro W' hc hBW
        refine ⟨.bool true, ?_, rfl, hBW⟩
        simp [results, Try.f3, go_sem, hc]
      have hlE := hE.sn.lt
      have c9 := (bT.alloc (.cells #[.int .i64 0] 3)).cell
      have c90 := bT.cell
      have c7 := (hE.s7.alloc (.cells #[.int .i64 0] 3)).cell
      have y1 : decide ((t : Int) < 2) = true := decide_eq_true (by omega)
      gi_wp2
      refine frame_of 31 11 ?_
      intro Fr hFr
      simp only [List.setIfInBounds_toArray, List.set_cons_succ, List.set_cons_zero] at hFr
      have bI0 := Boxed.new W 3 (.int .i64 0)
      obtain ⟨s, hs⟩ : ∃ s, s = W.heap.size := ⟨_, rfl⟩
      have hE0 := hE.below ((Below.refl _ W).alloc (Nat.le_refl _) (.cells #[.int .i64 0] 3))
      have hBs0 : Below s W (W.alloc (.cells #[.int .i64 0] 3)) := (Below.refl s W).alloc (by omega) _
      have hsz : (W.alloc (.cells #[.int .i64 0] 3)).heap.size = s + 1 := by simp [hs]
      have hsB := hB.size
      simp only [← hs] at bI0 hFr hlE
      rw [← hs]
      obtain ⟨W0, hW0⟩ : ∃ W0, W.alloc (.cells #[.int .i64 0] 3) = W0 := ⟨_, rfl⟩
      rw [hW0] at bI0 hE0 hBs0 hsz ⊢
      have hT9 := bT.lt
      rw [← hs] at hsB hT9
      have HS := Lib.hid hs
      have HSZ := Lib.hid hsz
      clear hW0
      clear c9 c7 y1 hs hsz
      refine wpIn_rangeFunc_ownH rfl (by decide) (gf := 19) (lb := #[.pointer (some ⟨bn', 0, none⟩)]) rfl trivial (enters_of Try.func19 (by kernel_rfl) rfl)
        (HST.out 8 (by decide) bn' s W0 (by omega) (by have := HSZ.out; omega) hE0.sn.cell) belowK_t (belowK_b (by have := HSZ.out; omega)) (Below.refl _ _) (fun _ => rfl)
        (fun pre W' => (pre = L.take pre.length ∧ Boxed W' s 3 (.int .i64 (pre.length : Nat))) ∧ Below s W W')
        (fun c pre W' => (c = .ret ∧ ¬ pre <+: L) ∨ (((c = .exit 2 ∧ t = 0 ∧ ((pre.length : Int) - 1 = stop)) ∧ Boxed W' s 3 (.int .i64 (pre.length : Nat))) ∧ Below s W W'))
        (OwnFrom.and (OwnFrom.and (ownFrom_pure _ _) (Own.from (boxed_own _ _ _) _)) (ownFrom_below (by have := HS.out; omega) (by have := HSZ.out; omega)))
        (fun c => ownFrom_or (ownFrom_pure _ _) (OwnFrom.and (OwnFrom.and (ownFrom_pure _ _) (Own.from (boxed_own _ _ _) _)) (ownFrom_below (by have := HS.out; omega) (by have := HSZ.out; omega))))
        ⟨⟨rfl, bI0⟩, hBs0⟩
        (fun x a' _ => a' = Fr x) (fun _ _ _ _ _ _ hs _ _ => hs)
        ?assign ?body ?done ?stop
      case assign =>
        rintro l pre x V K hi hK
        gi_wp2
        exact hK _ _ (KeepsFrom.refl _ _) (Below.refl _ _) hi (hFr x).symm
      case body =>
        rintro l pre x a' V hl ⟨r, hr⟩ ⟨⟨hp, bI1⟩, hB1⟩ rfl hlt
        rw [hFr x]
        have HP := Lib.hid hp
        clear hp
        have hE1 := hE.below (by rw [← HS.out]; exact hB1)
        have hsV := bI1.lt
        have bT1 := bT.blwQ hB1 hT9
        have cI := bI1.cell
        have fI := bI1.frozen
        have c4 := hE1.s4.cell
        have c5 := hE1.s5.cell
        have c6 := hE1.s6.cell
        have f6 := hE1.s6.frozen
        have c8 := hE1.s8.cell
        have c9 := bT1.cell
        obtain ⟨ad, hA, hcw⟩ := hE1.want hlt
        subst hA
        have v1 : (0 : Int) ≤ (pre.length : Int) := by omega
        have v2 : (pre.length : Int) < (L.length : Int) := by omega
        have v3 : decide ((L.length : Int) ≤ (pre.length : Int)) = false := decide_eq_false (by omega)
        have v3' : decide (L.length ≤ pre.length) = false := decide_eq_false (by omega)
        by_cases hx : x = gn L pre.length
        · rw [← hx] at hcw
          have HX := Lib.hid hx
          clear hx
          by_cases hin : (pre.length : Int) = inner
          · have v4 : ((pre.length : Int) == inner) = true := by rw [hin]; simp
            clear hin
            have c7' := (hE1.s7.alloc (.cells #[.int .i64 0] 3)).cell
            gi_wp2
            refine frame_of 48 13 ?_
            intro Fr2 hFr2
            simp only [List.setIfInBounds_toArray, List.set_cons_succ, List.set_cons_zero] at hFr2
            have hr' : (V.alloc (.cells #[.int .i64 0] 3)).heap[l]? = some (.loop r) := (Below.heap_alloc V _ l (Array.getElem?_eq_some_iff.1 hr).1).trans hr
            have bK := Boxed.new V 3 (.int .i64 0)
            have hEV := hE1.below ((Below.refl _ V).alloc (Nat.le_refl _) (.cells #[.int .i64 0] 3))
            have bIV := bI1.alloc (.cells #[.int .i64 0] 3)
            have hsW : s < V.heap.size := bI1.lt
            have hsV : (V.alloc (.cells #[.int .i64 0] 3)).heap.size = V.heap.size + 1 := by simp
            have hBV : Below s V (V.alloc (.cells #[.int .i64 0] 3)) := (Below.refl s V).alloc (by omega) _
            have hKV : KeepsFrom (s + 1) V (V.alloc (.cells #[.int .i64 0] 3)) := (KeepsOthers.alloc _ _).from _
            have hlV := hEV.sn.lt
            have hsz0 : V.heap.size ≤ (V.alloc (.cells #[.int .i64 0] 3)).heap.size := by simp
            refine wpIn_rangeFunc_ownN (l₀ := l) (r₀ := r) rfl hr' (by decide) (gf := 19) (lb := #[.pointer (some ⟨bn', 0, none⟩)]) rfl trivial (enters_of Try.func19 (by kernel_rfl) rfl)
              ((HST.out 6 (by decide) bn' s (V.alloc (.cells #[.int .i64 0] 3)) (by omega) (by omega) hEV.sn.cell).inRound l) belowK_t (belowK_b (by omega)) (Below.refl _ _) (fun _ => rfl)
              (fun pre' W' => ((pre' = L.take pre'.length ∧ Boxed W' s 3 (.int .i64 (pre.length : Nat))) ∧ Boxed W' V.heap.size 3 (.int .i64 (pre'.length : Nat))) ∧ (Below s V W' ∧ KeepsFrom (s + 1) V W'))
              (fun c pre' W' => (c = .ret ∧ ¬ pre' <+: L) ∧ KeepsFrom (s + 1) V W')
              (OwnFrom.and (OwnFrom.and (OwnFrom.and (ownFrom_pure _ _) (Own.from (boxed_own _ _ _) _)) (Own.from (boxed_own _ _ _) _)) (OwnFrom.and (ownFrom_below (by omega) (by omega)) (ownFrom_keepsFrom hsz0)))
              (fun c => OwnFrom.and (ownFrom_pure _ _) (ownFrom_keepsFrom hsz0))
              ⟨⟨⟨rfl, bIV⟩, bK⟩, hBV, hKV⟩
              (fun y a'' _ => a'' = Fr2 y) (fun _ _ _ _ _ _ hs _ _ => hs)
              ?assign2 ?body2 ?done2 ?stop2
            case assign2 =>
              rintro l2 pre' y W' K hi hK
              gi_wp2
              exact hK _ _ (KeepsFrom.refl _ _) (Below.refl _ _) hi (hFr2 y).symm
            case body2 =>
              rintro l2 pre' y a'' W' _ _ ⟨⟨⟨hp', bI2⟩, bK2⟩, hBW, hKF⟩ rfl hlt2
              have HP2 := Lib.hid hp'
              clear hp'
              rw [hFr2 y]
              have hE2 := hE.below (by rw [← HS.out]; exact hB1.trans hBW)
              have cK := bK2.cell
              have fK := bK2.frozen
              have c8' := hE2.s8.cell
              have c6' := hE2.s6.cell
              have f6' := hE2.s6.frozen
              obtain ⟨ad2, hA2, hcw2⟩ := hE2.want hlt2
              cases hA2
              have w1 : (0 : Int) ≤ (pre'.length : Int) := by omega
              have w2 : (pre'.length : Int) < (L.length : Int) := by omega
              have w3 : decide ((L.length : Int) ≤ (pre'.length : Int)) = false := decide_eq_false (by omega)
              have w3' : decide (L.length ≤ pre'.length) = false := decide_eq_false (by omega)
              by_cases hy : y = gn L pre'.length
              · rw [← hy] at hcw2
                have HY := Lib.hid hy
                clear hy
                gi_wp2
                exact ⟨(KeepsOthers.setCell _ _ _).from _, (Below.refl s W').setCell (p := ⟨V.heap.size, 0, none⟩) (by simp only; omega) _, ⟨⟨⟨pre_on HP2.out hlt2 HY.out, bI2.other (by omega) _⟩, by rw [pre_len]; exact bK2.set _⟩, hBW.setCell (p := ⟨V.heap.size, 0, none⟩) (by simp only; omega) _, hKF.trans ((KeepsOthers.setCell _ _ _).from _)⟩⟩
              · have hy2 : ((y : Int) != (gn L pre'.length : Int)) = true := bne_iff_ne.2 (by omega)
                have HY := Lib.hid hy
                clear hy
                gi_wp2
                exact ⟨(KeepsOthers.setCell _ _ _).from _, ⟨rfl, pre_no hlt2 HY.out⟩, hKF.trans ((KeepsOthers.setCell _ _ _).from _)⟩
            case done2 =>
              rintro ys W' hys ⟨⟨⟨hp', bI2⟩, bK2⟩, hBW, hKF⟩
              rw [hys] at bK2
              have hE2 := hE.below (by rw [← HS.out]; exact hB1.trans hBW)
              have cK := bK2.cell
              have c8' := hE2.s8.cell
              have cI2 := bI2.cell
              have fI2 := bI2.frozen
              have c42 := hE2.s4.cell
              have c92 := (bT.blwQ (hB1.trans hBW) hT9).cell
              have hKF' : KeepsFrom W0.heap.size V W' := by rw [HSZ.out]; exact hKF
              clear cI c8 c9 c4 c7' c5 c6 f6 hcw fI hKF
              by_cases ht0 : t = 0
              · have y3 : ((t : Int) == 0) = true := by rw [ht0]; rfl
                have HT0 := Lib.hid ht0
                clear ht0
                by_cases hst : (pre.length : Int) = stop
                · have y4 : ((pre.length : Int) == stop) = true := by rw [hst]; simp
                  have HST2 := Lib.hid hst
                  clear hst
                  gi_wp2
                  exact ⟨hKF'.trans ((KeepsOthers.setCell _ _ _).from _), .inr ⟨⟨⟨rfl, HT0.out, by have := HST2.out; rw [pre_len]; omega⟩, by rw [pre_len]; exact bI2.set _⟩, (hB1.trans hBW).setCell (p := ⟨s, 0, none⟩) (by simp) _⟩⟩
                · have y4 : ((pre.length : Int) == stop) = false := beq_eq_false_iff_ne.2 hst
                  clear hst
                  gi_wp2
                  exact ⟨hKF'.trans ((KeepsOthers.setCell _ _ _).from _), hBW.setCell (p := ⟨s, 0, none⟩) (by simp) _, ⟨⟨pre_on HP.out hlt HX.out, by rw [pre_len]; exact bI2.set _⟩, (hB1.trans hBW).setCell (p := ⟨s, 0, none⟩) (by simp) _⟩⟩
              · have y3 : ((t : Int) == 0) = false := beq_eq_false_iff_ne.2 (by omega)
                clear ht0
                gi_wp2
                exact ⟨hKF'.trans ((KeepsOthers.setCell _ _ _).from _), hBW.setCell (p := ⟨s, 0, none⟩) (by simp) _, ⟨⟨pre_on HP.out hlt HX.out, by rw [pre_len]; exact bI2.set _⟩, (hB1.trans hBW).setCell (p := ⟨s, 0, none⟩) (by simp) _⟩⟩
            case stop2 =>
              rintro c pre' W' hpre ⟨⟨rfl, hno⟩, hKF⟩
              exact absurd hpre hno
          · have v4 : ((pre.length : Int) == inner) = false := beq_eq_false_iff_ne.2 hin
            clear hin
            by_cases ht0 : t = 0
            · have y3 : ((t : Int) == 0) = true := by rw [ht0]; rfl
              have HT0 := Lib.hid ht0
              clear ht0
              by_cases hst : (pre.length : Int) = stop
              · have y4 : ((pre.length : Int) == stop) = true := by rw [hst]; simp
                have HST2 := Lib.hid hst
                clear hst
                gi_wp2
                exact ⟨(KeepsFrom.refl _ _).trans ((KeepsOthers.setCell _ _ _).from _), .inr ⟨⟨⟨rfl, HT0.out, by have := HST2.out; rw [pre_len]; omega⟩, by rw [pre_len]; exact bI1.set _⟩, hB1.setCell (p := ⟨s, 0, none⟩) (by simp) _⟩⟩
              · have y4 : ((pre.length : Int) == stop) = false := beq_eq_false_iff_ne.2 hst
                clear hst
                gi_wp2
                exact ⟨(KeepsFrom.refl _ _).trans ((KeepsOthers.setCell _ _ _).from _), (Below.refl s V).setCell (p := ⟨s, 0, none⟩) (by simp) _, ⟨⟨pre_on HP.out hlt HX.out, by rw [pre_len]; exact bI1.set _⟩, hB1.setCell (p := ⟨s, 0, none⟩) (by simp) _⟩⟩
            · have y3 : ((t : Int) == 0) = false := beq_eq_false_iff_ne.2 (by omega)
              clear ht0
              gi_wp2
              exact ⟨(KeepsFrom.refl _ _).trans ((KeepsOthers.setCell _ _ _).from _), (Below.refl s V).setCell (p := ⟨s, 0, none⟩) (by simp) _, ⟨⟨pre_on HP.out hlt HX.out, by rw [pre_len]; exact bI1.set _⟩, hB1.setCell (p := ⟨s, 0, none⟩) (by simp) _⟩⟩
        · have hx2 : ¬ (x : Int) = (gn L pre.length : Int) := by omega
          have hx3 : ((x : Int) != (gn L pre.length : Int)) = true := bne_iff_ne.2 hx2
          have HX := Lib.hid hx
          clear hx hx2
          gi_wp2
          exact ⟨(KeepsOthers.setCell _ _ _).from _, .inl ⟨rfl, pre_no hlt HX.out⟩⟩
      case done =>
        rintro D xs V hD hxs ⟨⟨hp, bI1⟩, hB1⟩ hK
        clear hp
        rw [hxs] at bI1
        clear hxs
        have hBW : Below W.heap.size W V := by rw [← HS.out]; exact hB1
        have hEV := hE.below hBW
        have bT1 := bT.blwQ hB1 hT9
        have cI := bI1.cell
        have c8 := hEV.s8.cell
        have c9 := bT1.cell
        clear c90 hE0 bI0 hBs0
        gi_wp2
        have hVA := (Below.refl V.heap.size V).alloc (Nat.le_refl _) (.cells #[.int .i64 ((t : Int) + 1)] 3)
        have hEn := hEV.below hVA
        have bTn := Boxed.new V 3 (.int .i64 ((t : Int) + 1))
        have hDs : s + 1 ≤ D := by have := HSZ.out; omega
        have hBV : Below w.heap.size w V := hB.trans (hB1.mono hsB)
        have hsV := hBV.size
        have hMn : Marks w.heap.size ({ target := .collected D, args := #[] } :: ds) (V.alloc (.cells #[.int .i64 ((t : Int) + 1)] 3)) :=
          ⟨⟨D, rfl, by omega, (hVA.block D (Array.getElem?_eq_some_iff.1 hK).1).trans hK, fun d' hd' htt => by have := hM.lt d' hd' htt; have := HS.out; omega⟩, (hM.below (N := 0) hBW).below (N := 0) hVA⟩
        have bTn' : Boxed (V.alloc (.cells #[.int .i64 ((t : Int) + 1)] 3)) V.heap.size 3 (.int .i64 ((t + 1 : Nat) : Int)) := by rw [show ((t + 1 : Nat) : Int) = (t : Int) + 1 by omega]; exact bTn
        exact LawI.mk rfl (by omega) hEn bTn' hsV hMn (hBV.alloc hsV _)
      case stop =>
        rintro D c pre V hD hpre (⟨rfl, hno⟩ | ⟨⟨⟨rfl, ht0, hst⟩, bI1⟩, hB1⟩) hK
        · exact absurd hpre hno
        · have hpl := hpre.length_le
          clear hpre
          have hBW : Below W.heap.size W V := by rw [← HS.out]; exact hB1
          have hEV := hE.below hBW
          have bT1 := bT.blwQ hB1 hT9
          have cI := bI1.cell
          have c4 := hEV.s4.cell
          have c8 := hEV.s8.cell
          have c9 := bT1.cell
          have y5 : ((t : Int) == 1) = false := beq_eq_false_iff_ne.2 (by omega)
          have y6 : ((pre.length : Int) - 1 != stop) = false := by rw [hst]; simp
          have y8 : (wrap64 ((pre.length : Int) - 1) != stop) = false := by rw [show wrap64 ((pre.length : Int) - 1) = (pre.length : Int) - 1 by unfold wrap64; omega, hst]; simp
          clear c90 hE0 bI0 hBs0 ht0 hst
          by_cases hne : pre.length = L.length
          · have y7 : ((pre.length : Int) != (L.length : Int)) = false := by rw [hne]; simp
            clear hne
            gi_wp2
            have hVA := (Below.refl V.heap.size V).alloc (Nat.le_refl _) (.cells #[.int .i64 ((t : Int) + 1)] 3)
            have hEn := hEV.below hVA
            have bTn := Boxed.new V 3 (.int .i64 ((t : Int) + 1))
            have hDs : s + 1 ≤ D := by have := HSZ.out; omega
            have hBV : Below w.heap.size w V := hB.trans (hB1.mono hsB)
            have hsV := hBV.size
            have hMn : Marks w.heap.size ({ target := .collected D, args := #[] } :: ds) (V.alloc (.cells #[.int .i64 ((t : Int) + 1)] 3)) :=
              ⟨⟨D, rfl, by omega, (hVA.block D (Array.getElem?_eq_some_iff.1 hK).1).trans hK, fun d' hd' htt => by have := hM.lt d' hd' htt; have := HS.out; omega⟩, (hM.below (N := 0) hBW).below (N := 0) hVA⟩
            have bTn' : Boxed (V.alloc (.cells #[.int .i64 ((t : Int) + 1)] 3)) V.heap.size 3 (.int .i64 ((t + 1 : Nat) : Int)) := by rw [show ((t + 1 : Nat) : Int) = (t : Int) + 1 by omega]; exact bTn
            exact LawI.mk rfl (by omega) hEn bTn' hsV hMn (hBV.alloc hsV _)
          · have y7 : ((pre.length : Int) != (L.length : Int)) = true := bne_iff_ne.2 (by omega)
            clear hne
            gi_wp2
            have hVA := (Below.refl V.heap.size V).alloc (Nat.le_refl _) (.cells #[.int .i64 ((t : Int) + 1)] 3)
            have hEn := hEV.below hVA
            have bTn := Boxed.new V 3 (.int .i64 ((t : Int) + 1))
            have hDs : s + 1 ≤ D := by have := HSZ.out; omega
            have hBV : Below w.heap.size w V := hB.trans (hB1.mono hsB)
            have hsV := hBV.size
            have hMn : Marks w.heap.size ({ target := .collected D, args := #[] } :: ds) (V.alloc (.cells #[.int .i64 ((t : Int) + 1)] 3)) :=
              ⟨⟨D, rfl, by omega, (hVA.block D (Array.getElem?_eq_some_iff.1 hK).1).trans hK, fun d' hd' htt => by have := hM.lt d' hd' htt; have := HS.out; omega⟩, (hM.below (N := 0) hBW).below (N := 0) hVA⟩
            have bTn' : Boxed (V.alloc (.cells #[.int .i64 ((t : Int) + 1)] 3)) V.heap.size 3 (.int .i64 ((t + 1 : Nat) : Int)) := by rw [show ((t + 1 : Nat) : Int) = (t : Int) + 1 by omega]; exact bTn
            exact LawI.mk rfl (by omega) hEn bTn' hsV hMn (hBV.alloc hsV _)
    | false =>
      clear z3
      refine callsIn_of_wp_marks Try.func3 rfl trivial ?_ rfl
      simp only [Try.ntmps3, List.size_toArray, List.length_cons, List.length_nil, Nat.reduceAdd, Nat.reduceSub, Array.replicate_succ, Array.replicate_zero, List.push_toArray, List.append_toArray, List.nil_append, List.cons_append]
      have b4 := ((((Boxed.new w 3 (.int .i64 stop)).alloc (.cells #[.int .i64 inner] 3)).alloc (.cells #[.bool false] 4)).alloc (.cells #[.int .i64 n] 3)).alloc (.cells #[.func (.func 19) #[] #[.pointer (some ⟨w.heap.size + 1 + 1 + 1, 0, none⟩)]] 23)
      have b5 := (((Boxed.new (w.alloc (.cells #[.int .i64 stop] 3)) 3 (.int .i64 inner)).alloc (.cells #[.bool false] 4)).alloc (.cells #[.int .i64 n] 3)).alloc (.cells #[.func (.func 19) #[] #[.pointer (some ⟨w.heap.size + 1 + 1 + 1, 0, none⟩)]] 23)
      have b6 := ((Boxed.new ((w.alloc (.cells #[.int .i64 stop] 3)).alloc (.cells #[.int .i64 inner] 3)) 4 (.bool false)).alloc (.cells #[.int .i64 n] 3)).alloc (.cells #[.func (.func 19) #[] #[.pointer (some ⟨w.heap.size + 1 + 1 + 1, 0, none⟩)]] 23)
      have bn := (Boxed.new (((w.alloc (.cells #[.int .i64 stop] 3)).alloc (.cells #[.int .i64 inner] 3)).alloc (.cells #[.bool false] 4)) 3 (.int .i64 n)).alloc (.cells #[.func (.func 19) #[] #[.pointer (some ⟨w.heap.size + 1 + 1 + 1, 0, none⟩)]] 23)
      have b7 := Boxed.new ((((w.alloc (.cells #[.int .i64 stop] 3)).alloc (.cells #[.int .i64 inner] 3)).alloc (.cells #[.bool false] 4)).alloc (.cells #[.int .i64 n] 3)) 23 (.func (.func 19) #[] #[.pointer (some ⟨w.heap.size + 1 + 1 + 1, 0, none⟩)])
      have hB1 := ((((((Below.refl w.heap.size w).alloc (Nat.le_refl _) (.cells #[.int .i64 stop] 3)).alloc (by simp) (.cells #[.int .i64 inner] 3)).alloc (by simp; omega) (.cells #[.bool false] 4)).alloc (by simp; omega) (.cells #[.int .i64 n] 3)).alloc (by simp; omega) (.cells #[.func (.func 19) #[] #[.pointer (some ⟨w.heap.size + 1 + 1 + 1, 0, none⟩)]] 23))
      have hz : (((((w.alloc (.cells #[.int .i64 stop] 3)).alloc (.cells #[.int .i64 inner] 3)).alloc (.cells #[.bool false] 4)).alloc (.cells #[.int .i64 n] 3)).alloc (.cells #[.func (.func 19) #[] #[.pointer (some ⟨w.heap.size + 1 + 1 + 1, 0, none⟩)]] 23)).heap.size = w.heap.size + 5 := by simp
      simp only [World.size_alloc] at b5 b6 bn b7
      have HREF := Lib.hid (ref_all n hk (((((w.alloc (.cells #[.int .i64 stop] 3)).alloc (.cells #[.int .i64 inner] 3)).alloc (.cells #[.bool false] 4)).alloc (.cells #[.int .i64 n] 3)).alloc (.cells #[.func (.func 19) #[] #[.pointer (some ⟨w.heap.size + 1 + 1 + 1, 0, none⟩)]] 23)))
      have hLl := setsL_len n
      have HST := Lib.hid (fun (nn : Nat) (hn : 1 ≤ nn) (Bn n₀ : Nat) => stops_all nn hn Bn n₀ n hk)
      generalize setsL n = L at HREF hLl HST
      have c7 := b7.cell
      gi_wp2_with (first
        | (refine ⟨trivial, ?_⟩; gi_at_call 8; refine (callsIn_wide.2 (sets_any n _)).mono ?_; rintro e w' ⟨rfl, rfl⟩)
        | (refine ⟨trivial, ?_⟩; gi_at_call 9; refine (callsIn_wide.2 HREF.out).mono ?_; rintro e w2 ⟨Aw, cw, rfl, hrow, hbw, hfw⟩))
      clear c7 HREF hfw
      have hw2 := hbw.size
      have hB2 := hB1.trans (hbw.mono hB1.size)
      have e8 := Boxed.new w2 25 (.slice Aw L.length cw)
      have hz1 : (w2.alloc (.cells #[.slice Aw L.length cw] 25)).heap.size = w2.heap.size + 1 := by simp
      have hE0 : QEnv (w2.alloc (.cells #[.slice Aw L.length cw] 25)) w.heap.size (w.heap.size + 1) (w.heap.size + 1 + 1) (w.heap.size + 1 + 1 + 1 + 1) (w.heap.size + 1 + 1 + 1) w2.heap.size stop inner n Aw cw L :=
        ⟨(b4.blwQ hbw b4.lt).alloc _, (b5.blwQ hbw b5.lt).alloc _, (b6.blwQ hbw b6.lt).alloc _, (b7.blwQ hbw b7.lt).alloc _, (bn.blwQ hbw bn.lt).alloc _, e8, ((Reads.of_own hrow).alloc (Nat.le_refl _) _).more (by omega)⟩
      have hE1 := hE0.below ((Below.refl _ _).alloc (Nat.le_refl _) (.cells #[.int .i64 0] 3))
      have bT := Boxed.new (w2.alloc (.cells #[.slice Aw L.length cw] 25)) 3 (.int .i64 0)
      have hB3 := (hB2.alloc (by omega) (.cells #[.slice Aw L.length cw] 25)).alloc (by omega) (.cells #[.int .i64 0] 3)
      rw [hz1] at bT
      have hb6 : w.heap.size ≤ w.heap.size + 1 + 1 := by omega
      have hb9 : w.heap.size ≤ w2.heap.size + 1 := by omega
      refine rounds_of (LawI w w.heap.size (w.heap.size + 1) (w.heap.size + 1 + 1) (w.heap.size + 1 + 1 + 1 + 1) (w.heap.size + 1 + 1 + 1) w2.heap.size stop inner n Aw cw L) ?_ ?_ (LawI.mk rfl (by omega) hE1 bT hb9 trivial hB3)
      · rintro a W ⟨u, b9, ds, _, h, _⟩
        omega
      generalize w.heap.size + 1 + 1 + 1 + 1 = b7' at *
      generalize w.heap.size + 1 + 1 + 1 = bn' at *
      generalize w.heap.size + 1 + 1 = b6' at *
      generalize w.heap.size + 1 = b5' at *
      clear b4 b5 b6 bn b7 hB1 hrow hbw hB2 e8 hE0 hE1 bT hB3 z1  hz hz1 hb9 hw2
      rintro t a W ⟨u, b9, ds, rfl, ht2, hE, bT, hb9, hM, hB⟩
      dsimp only [lawFr]
      by_cases ht : t = 2
      · subst ht
        have y1 : decide ((2 : Int) < 2) = false := by decide
        have c9 := bT.cell
        have c6 := hE.s6.cell
        have f6 := hE.s6.frozen
        gi_wp2
        refine leaves_marks (w := w) rfl ?_ (hM.kept (fun k o ho hc hd => (KeepsOthers.setCell W ⟨b6', 0, none⟩ (.bool true)).same k o ho hc)) (hE.s6.set (.bool true)) (hB.setCell (p := ⟨b6', 0, none⟩) hb6 _)
        intro W' hc hBW
        refine ⟨.bool true, ?_, rfl, hBW⟩
        simp [results, Try.f3, go_sem, hc]
      have hlE := hE.sn.lt
      have c9 := (bT.alloc (.cells #[.int .i64 0] 3)).cell
      have c90 := bT.cell
      have c7 := (hE.s7.alloc (.cells #[.int .i64 0] 3)).cell
      have y1 : decide ((t : Int) < 2) = true := decide_eq_true (by omega)
      gi_wp2
      refine frame_of 31 11 ?_
      intro Fr hFr
      simp only [List.setIfInBounds_toArray, List.set_cons_succ, List.set_cons_zero] at hFr
      have bI0 := Boxed.new W 3 (.int .i64 0)
      obtain ⟨s, hs⟩ : ∃ s, s = W.heap.size := ⟨_, rfl⟩
      have hE0 := hE.below ((Below.refl _ W).alloc (Nat.le_refl _) (.cells #[.int .i64 0] 3))
      have hBs0 : Below s W (W.alloc (.cells #[.int .i64 0] 3)) := (Below.refl s W).alloc (by omega) _
      have hsz : (W.alloc (.cells #[.int .i64 0] 3)).heap.size = s + 1 := by simp [hs]
      have hsB := hB.size
      simp only [← hs] at bI0 hFr hlE
      rw [← hs]
      obtain ⟨W0, hW0⟩ : ∃ W0, W.alloc (.cells #[.int .i64 0] 3) = W0 := ⟨_, rfl⟩
      rw [hW0] at bI0 hE0 hBs0 hsz ⊢
      have hT9 := bT.lt
      rw [← hs] at hsB hT9
      have HS := Lib.hid hs
      have HSZ := Lib.hid hsz
      clear hW0
      clear c9 c7 y1 hs hsz
      refine wpIn_rangeFunc_ownH rfl (by decide) (gf := 19) (lb := #[.pointer (some ⟨bn', 0, none⟩)]) rfl trivial (enters_of Try.func19 (by kernel_rfl) rfl)
        (HST.out 8 (by decide) bn' s W0 (by omega) (by have := HSZ.out; omega) hE0.sn.cell) belowK_t (belowK_b (by have := HSZ.out; omega)) (Below.refl _ _) (fun _ => rfl)
        (fun pre W' => (pre = L.take pre.length ∧ Boxed W' s 3 (.int .i64 (pre.length : Nat))) ∧ Below s W W')
        (fun c pre W' => (c = .ret ∧ ¬ pre <+: L) ∨ (((c = .exit 2 ∧ t = 0 ∧ ((pre.length : Int) - 1 = stop)) ∧ Boxed W' s 3 (.int .i64 (pre.length : Nat))) ∧ Below s W W'))
        (OwnFrom.and (OwnFrom.and (ownFrom_pure _ _) (Own.from (boxed_own _ _ _) _)) (ownFrom_below (by have := HS.out; omega) (by have := HSZ.out; omega)))
        (fun c => ownFrom_or (ownFrom_pure _ _) (OwnFrom.and (OwnFrom.and (ownFrom_pure _ _) (Own.from (boxed_own _ _ _) _)) (ownFrom_below (by have := HS.out; omega) (by have := HSZ.out; omega))))
        ⟨⟨rfl, bI0⟩, hBs0⟩
        (fun x a' _ => a' = Fr x) (fun _ _ _ _ _ _ hs _ _ => hs)
        ?assign ?body ?done ?stop
      case assign =>
        rintro l pre x V K hi hK
        gi_wp2
        exact hK _ _ (KeepsFrom.refl _ _) (Below.refl _ _) hi (hFr x).symm
      case body =>
        rintro l pre x a' V hl ⟨r, hr⟩ ⟨⟨hp, bI1⟩, hB1⟩ rfl hlt
        rw [hFr x]
        have HP := Lib.hid hp
        clear hp
        have hE1 := hE.below (by rw [← HS.out]; exact hB1)
        have hsV := bI1.lt
        have bT1 := bT.blwQ hB1 hT9
        have cI := bI1.cell
        have fI := bI1.frozen
        have c4 := hE1.s4.cell
        have c5 := hE1.s5.cell
        have c6 := hE1.s6.cell
        have f6 := hE1.s6.frozen
        have c8 := hE1.s8.cell
        have c9 := bT1.cell
        obtain ⟨ad, hA, hcw⟩ := hE1.want hlt
        subst hA
        have v1 : (0 : Int) ≤ (pre.length : Int) := by omega
        have v2 : (pre.length : Int) < (L.length : Int) := by omega
        have v3 : decide ((L.length : Int) ≤ (pre.length : Int)) = false := decide_eq_false (by omega)
        have v3' : decide (L.length ≤ pre.length) = false := decide_eq_false (by omega)
        by_cases hx : x = gn L pre.length
        · rw [← hx] at hcw
          have HX := Lib.hid hx
          clear hx
          by_cases hin : (pre.length : Int) = inner
          · have v4 : ((pre.length : Int) == inner) = true := by rw [hin]; simp
            clear hin
            have c7' := (hE1.s7.alloc (.cells #[.int .i64 0] 3)).cell
            gi_wp2
            refine frame_of 48 13 ?_
            intro Fr2 hFr2
            simp only [List.setIfInBounds_toArray, List.set_cons_succ, List.set_cons_zero] at hFr2
            have hr' : (V.alloc (.cells #[.int .i64 0] 3)).heap[l]? = some (.loop r) := (Below.heap_alloc V _ l (Array.getElem?_eq_some_iff.1 hr).1).trans hr
            have bK := Boxed.new V 3 (.int .i64 0)
            have hEV := hE1.below ((Below.refl _ V).alloc (Nat.le_refl _) (.cells #[.int .i64 0] 3))
            have bIV := bI1.alloc (.cells #[.int .i64 0] 3)
            have hsW : s < V.heap.size := bI1.lt
            have hsV : (V.alloc (.cells #[.int .i64 0] 3)).heap.size = V.heap.size + 1 := by simp
            have hBV : Below s V (V.alloc (.cells #[.int .i64 0] 3)) := (Below.refl s V).alloc (by omega) _
            have hKV : KeepsFrom (s + 1) V (V.alloc (.cells #[.int .i64 0] 3)) := (KeepsOthers.alloc _ _).from _
            have hlV := hEV.sn.lt
            have hsz0 : V.heap.size ≤ (V.alloc (.cells #[.int .i64 0] 3)).heap.size := by simp
            refine wpIn_rangeFunc_ownN (l₀ := l) (r₀ := r) rfl hr' (by decide) (gf := 19) (lb := #[.pointer (some ⟨bn', 0, none⟩)]) rfl trivial (enters_of Try.func19 (by kernel_rfl) rfl)
              ((HST.out 6 (by decide) bn' s (V.alloc (.cells #[.int .i64 0] 3)) (by omega) (by omega) hEV.sn.cell).inRound l) belowK_t (belowK_b (by omega)) (Below.refl _ _) (fun _ => rfl)
              (fun pre' W' => ((pre' = L.take pre'.length ∧ Boxed W' s 3 (.int .i64 (pre.length : Nat))) ∧ Boxed W' V.heap.size 3 (.int .i64 (pre'.length : Nat))) ∧ (Below s V W' ∧ KeepsFrom (s + 1) V W'))
              (fun c pre' W' => (c = .ret ∧ ¬ pre' <+: L) ∧ KeepsFrom (s + 1) V W')
              (OwnFrom.and (OwnFrom.and (OwnFrom.and (ownFrom_pure _ _) (Own.from (boxed_own _ _ _) _)) (Own.from (boxed_own _ _ _) _)) (OwnFrom.and (ownFrom_below (by omega) (by omega)) (ownFrom_keepsFrom hsz0)))
              (fun c => OwnFrom.and (ownFrom_pure _ _) (ownFrom_keepsFrom hsz0))
              ⟨⟨⟨rfl, bIV⟩, bK⟩, hBV, hKV⟩
              (fun y a'' _ => a'' = Fr2 y) (fun _ _ _ _ _ _ hs _ _ => hs)
              ?assign2 ?body2 ?done2 ?stop2
            case assign2 =>
              rintro l2 pre' y W' K hi hK
              gi_wp2
              exact hK _ _ (KeepsFrom.refl _ _) (Below.refl _ _) hi (hFr2 y).symm
            case body2 =>
              rintro l2 pre' y a'' W' _ _ ⟨⟨⟨hp', bI2⟩, bK2⟩, hBW, hKF⟩ rfl hlt2
              have HP2 := Lib.hid hp'
              clear hp'
              rw [hFr2 y]
              have hE2 := hE.below (by rw [← HS.out]; exact hB1.trans hBW)
              have cK := bK2.cell
              have fK := bK2.frozen
              have c8' := hE2.s8.cell
              have c6' := hE2.s6.cell
              have f6' := hE2.s6.frozen
              obtain ⟨ad2, hA2, hcw2⟩ := hE2.want hlt2
              cases hA2
              have w1 : (0 : Int) ≤ (pre'.length : Int) := by omega
              have w2 : (pre'.length : Int) < (L.length : Int) := by omega
              have w3 : decide ((L.length : Int) ≤ (pre'.length : Int)) = false := decide_eq_false (by omega)
              have w3' : decide (L.length ≤ pre'.length) = false := decide_eq_false (by omega)
              by_cases hy : y = gn L pre'.length
              · rw [← hy] at hcw2
                have HY := Lib.hid hy
                clear hy
                gi_wp2
                exact ⟨(KeepsOthers.setCell _ _ _).from _, (Below.refl s W').setCell (p := ⟨V.heap.size, 0, none⟩) (by simp only; omega) _, ⟨⟨⟨pre_on HP2.out hlt2 HY.out, bI2.other (by omega) _⟩, by rw [pre_len]; exact bK2.set _⟩, hBW.setCell (p := ⟨V.heap.size, 0, none⟩) (by simp only; omega) _, hKF.trans ((KeepsOthers.setCell _ _ _).from _)⟩⟩
              · have hy2 : ((y : Int) != (gn L pre'.length : Int)) = true := bne_iff_ne.2 (by omega)
                have HY := Lib.hid hy
                clear hy
                gi_wp2
                exact ⟨(KeepsOthers.setCell _ _ _).from _, ⟨rfl, pre_no hlt2 HY.out⟩, hKF.trans ((KeepsOthers.setCell _ _ _).from _)⟩
            case done2 =>
              rintro ys W' hys ⟨⟨⟨hp', bI2⟩, bK2⟩, hBW, hKF⟩
              rw [hys] at bK2
              have hE2 := hE.below (by rw [← HS.out]; exact hB1.trans hBW)
              have cK := bK2.cell
              have c8' := hE2.s8.cell
              have cI2 := bI2.cell
              have fI2 := bI2.frozen
              have c42 := hE2.s4.cell
              have c92 := (bT.blwQ (hB1.trans hBW) hT9).cell
              have hKF' : KeepsFrom W0.heap.size V W' := by rw [HSZ.out]; exact hKF
              clear cI c8 c9 c4 c7' c5 c6 f6 hcw fI hKF
              by_cases ht0 : t = 0
              · have y3 : ((t : Int) == 0) = true := by rw [ht0]; rfl
                have HT0 := Lib.hid ht0
                clear ht0
                by_cases hst : (pre.length : Int) = stop
                · have y4 : ((pre.length : Int) == stop) = true := by rw [hst]; simp
                  have HST2 := Lib.hid hst
                  clear hst
                  gi_wp2
                  exact ⟨hKF'.trans ((KeepsOthers.setCell _ _ _).from _), .inr ⟨⟨⟨rfl, HT0.out, by have := HST2.out; rw [pre_len]; omega⟩, by rw [pre_len]; exact bI2.set _⟩, (hB1.trans hBW).setCell (p := ⟨s, 0, none⟩) (by simp) _⟩⟩
                · have y4 : ((pre.length : Int) == stop) = false := beq_eq_false_iff_ne.2 hst
                  clear hst
                  gi_wp2
                  exact ⟨hKF'.trans ((KeepsOthers.setCell _ _ _).from _), hBW.setCell (p := ⟨s, 0, none⟩) (by simp) _, ⟨⟨pre_on HP.out hlt HX.out, by rw [pre_len]; exact bI2.set _⟩, (hB1.trans hBW).setCell (p := ⟨s, 0, none⟩) (by simp) _⟩⟩
              · have y3 : ((t : Int) == 0) = false := beq_eq_false_iff_ne.2 (by omega)
                clear ht0
                gi_wp2
                exact ⟨hKF'.trans ((KeepsOthers.setCell _ _ _).from _), hBW.setCell (p := ⟨s, 0, none⟩) (by simp) _, ⟨⟨pre_on HP.out hlt HX.out, by rw [pre_len]; exact bI2.set _⟩, (hB1.trans hBW).setCell (p := ⟨s, 0, none⟩) (by simp) _⟩⟩
            case stop2 =>
              rintro c pre' W' hpre ⟨⟨rfl, hno⟩, hKF⟩
              exact absurd hpre hno
          · have v4 : ((pre.length : Int) == inner) = false := beq_eq_false_iff_ne.2 hin
            clear hin
            by_cases ht0 : t = 0
            · have y3 : ((t : Int) == 0) = true := by rw [ht0]; rfl
              have HT0 := Lib.hid ht0
              clear ht0
              by_cases hst : (pre.length : Int) = stop
              · have y4 : ((pre.length : Int) == stop) = true := by rw [hst]; simp
                have HST2 := Lib.hid hst
                clear hst
                gi_wp2
                exact ⟨(KeepsFrom.refl _ _).trans ((KeepsOthers.setCell _ _ _).from _), .inr ⟨⟨⟨rfl, HT0.out, by have := HST2.out; rw [pre_len]; omega⟩, by rw [pre_len]; exact bI1.set _⟩, hB1.setCell (p := ⟨s, 0, none⟩) (by simp) _⟩⟩
              · have y4 : ((pre.length : Int) == stop) = false := beq_eq_false_iff_ne.2 hst
                clear hst
                gi_wp2
                exact ⟨(KeepsFrom.refl _ _).trans ((KeepsOthers.setCell _ _ _).from _), (Below.refl s V).setCell (p := ⟨s, 0, none⟩) (by simp) _, ⟨⟨pre_on HP.out hlt HX.out, by rw [pre_len]; exact bI1.set _⟩, hB1.setCell (p := ⟨s, 0, none⟩) (by simp) _⟩⟩
            · have y3 : ((t : Int) == 0) = false := beq_eq_false_iff_ne.2 (by omega)
              clear ht0
              gi_wp2
              exact ⟨(KeepsFrom.refl _ _).trans ((KeepsOthers.setCell _ _ _).from _), (Below.refl s V).setCell (p := ⟨s, 0, none⟩) (by simp) _, ⟨⟨pre_on HP.out hlt HX.out, by rw [pre_len]; exact bI1.set _⟩, hB1.setCell (p := ⟨s, 0, none⟩) (by simp) _⟩⟩
        · have hx2 : ¬ (x : Int) = (gn L pre.length : Int) := by omega
          have hx3 : ((x : Int) != (gn L pre.length : Int)) = true := bne_iff_ne.2 hx2
          have HX := Lib.hid hx
          clear hx hx2
          gi_wp2
          exact ⟨(KeepsOthers.setCell _ _ _).from _, .inl ⟨rfl, pre_no hlt HX.out⟩⟩
      case done =>
        rintro D xs V hD hxs ⟨⟨hp, bI1⟩, hB1⟩ hK
        clear hp
        rw [hxs] at bI1
        clear hxs
        have hBW : Below W.heap.size W V := by rw [← HS.out]; exact hB1
        have hEV := hE.below hBW
        have bT1 := bT.blwQ hB1 hT9
        have cI := bI1.cell
        have c8 := hEV.s8.cell
        have c9 := bT1.cell
        clear c90 hE0 bI0 hBs0
        gi_wp2
        have hVA := (Below.refl V.heap.size V).alloc (Nat.le_refl _) (.cells #[.int .i64 ((t : Int) + 1)] 3)
        have hEn := hEV.below hVA
        have bTn := Boxed.new V 3 (.int .i64 ((t : Int) + 1))
        have hDs : s + 1 ≤ D := by have := HSZ.out; omega
        have hBV : Below w.heap.size w V := hB.trans (hB1.mono hsB)
        have hsV := hBV.size
        have hMn : Marks w.heap.size ({ target := .collected D, args := #[] } :: ds) (V.alloc (.cells #[.int .i64 ((t : Int) + 1)] 3)) :=
          ⟨⟨D, rfl, by omega, (hVA.block D (Array.getElem?_eq_some_iff.1 hK).1).trans hK, fun d' hd' htt => by have := hM.lt d' hd' htt; have := HS.out; omega⟩, (hM.below (N := 0) hBW).below (N := 0) hVA⟩
        have bTn' : Boxed (V.alloc (.cells #[.int .i64 ((t : Int) + 1)] 3)) V.heap.size 3 (.int .i64 ((t + 1 : Nat) : Int)) := by rw [show ((t + 1 : Nat) : Int) = (t : Int) + 1 by omega]; exact bTn
        exact LawI.mk rfl (by omega) hEn bTn' hsV hMn (hBV.alloc hsV _)
      case stop =>
        rintro D c pre V hD hpre (⟨rfl, hno⟩ | ⟨⟨⟨rfl, ht0, hst⟩, bI1⟩, hB1⟩) hK
        · exact absurd hpre hno
        · have hpl := hpre.length_le
          clear hpre
          have hBW : Below W.heap.size W V := by rw [← HS.out]; exact hB1
          have hEV := hE.below hBW
          have bT1 := bT.blwQ hB1 hT9
          have cI := bI1.cell
          have c4 := hEV.s4.cell
          have c8 := hEV.s8.cell
          have c9 := bT1.cell
          have y5 : ((t : Int) == 1) = false := beq_eq_false_iff_ne.2 (by omega)
          have y6 : ((pre.length : Int) - 1 != stop) = false := by rw [hst]; simp
          have y8 : (wrap64 ((pre.length : Int) - 1) != stop) = false := by rw [show wrap64 ((pre.length : Int) - 1) = (pre.length : Int) - 1 by unfold wrap64; omega, hst]; simp
          clear c90 hE0 bI0 hBs0 ht0 hst
          by_cases hne : pre.length = L.length
          · have y7 : ((pre.length : Int) != (L.length : Int)) = false := by rw [hne]; simp
            clear hne
            gi_wp2
            have hVA := (Below.refl V.heap.size V).alloc (Nat.le_refl _) (.cells #[.int .i64 ((t : Int) + 1)] 3)
            have hEn := hEV.below hVA
            have bTn := Boxed.new V 3 (.int .i64 ((t : Int) + 1))
            have hDs : s + 1 ≤ D := by have := HSZ.out; omega
            have hBV : Below w.heap.size w V := hB.trans (hB1.mono hsB)
            have hsV := hBV.size
            have hMn : Marks w.heap.size ({ target := .collected D, args := #[] } :: ds) (V.alloc (.cells #[.int .i64 ((t : Int) + 1)] 3)) :=
              ⟨⟨D, rfl, by omega, (hVA.block D (Array.getElem?_eq_some_iff.1 hK).1).trans hK, fun d' hd' htt => by have := hM.lt d' hd' htt; have := HS.out; omega⟩, (hM.below (N := 0) hBW).below (N := 0) hVA⟩
            have bTn' : Boxed (V.alloc (.cells #[.int .i64 ((t : Int) + 1)] 3)) V.heap.size 3 (.int .i64 ((t + 1 : Nat) : Int)) := by rw [show ((t + 1 : Nat) : Int) = (t : Int) + 1 by omega]; exact bTn
            exact LawI.mk rfl (by omega) hEn bTn' hsV hMn (hBV.alloc hsV _)
          · have y7 : ((pre.length : Int) != (L.length : Int)) = true := bne_iff_ne.2 (by omega)
            clear hne
            gi_wp2
            have hVA := (Below.refl V.heap.size V).alloc (Nat.le_refl _) (.cells #[.int .i64 ((t : Int) + 1)] 3)
            have hEn := hEV.below hVA
            have bTn := Boxed.new V 3 (.int .i64 ((t : Int) + 1))
            have hDs : s + 1 ≤ D := by have := HSZ.out; omega
            have hBV : Below w.heap.size w V := hB.trans (hB1.mono hsB)
            have hsV := hBV.size
            have hMn : Marks w.heap.size ({ target := .collected D, args := #[] } :: ds) (V.alloc (.cells #[.int .i64 ((t : Int) + 1)] 3)) :=
              ⟨⟨D, rfl, by omega, (hVA.block D (Array.getElem?_eq_some_iff.1 hK).1).trans hK, fun d' hd' htt => by have := hM.lt d' hd' htt; have := HS.out; omega⟩, (hM.below (N := 0) hBW).below (N := 0) hVA⟩
            have bTn' : Boxed (V.alloc (.cells #[.int .i64 ((t : Int) + 1)] 3)) V.heap.size 3 (.int .i64 ((t + 1 : Nat) : Int)) := by rw [show ((t + 1 : Nat) : Int) = (t : Int) + 1 by omega]; exact bTn
            exact LawI.mk rfl (by omega) hEn bTn' hsV hMn (hBV.alloc hsV _)
end Go.Proofs.Ytfoojhjhinofmaa
