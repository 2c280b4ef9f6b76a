/- RlogRises: the walk. -/
import Derived.Test.YtdcnfdhhflmdcaaRmA
import Derived.Test.YtdcnfdhhflmdcaaLogB
import Derived.Test.YtdcnfdhhflmdcaaRrA
import Derived.Test.YtdcnfdhhflmdcaaOpO
import Derived.Deep.DeepCutAuto
import Derived.Deep.CutBlock
namespace Go.Proofs.Ytdcnfdhhflmdcaa
open Go.RowKit
set_option linter.unusedSimpArgs false
set_option linter.unusedVariables false

/-- a log whose terms rise, all in new memory, apart from the block g -/
def LogRise (W : World) (d g : Nat) (w : World) : Prop := ∃ F b t l, IsLog 69 w d F b t l ∧ riseB t l = true ∧ (∀ x ∈ F, W.heap.size ≤ x) ∧ g ∉ F ∧ Below W.heap.size W w
theorem LogRise.step {W : World} {d g : Nat} {w w' : World} {F : List Nat} {b t b' t' : Int} {l l' : List Ent} (h : IsLog 69 w d F b t l) (hlo : ∀ x ∈ F, W.heap.size ≤ x) (hg : g ∉ F) (hgl : g < w.heap.size) (hb : Below W.heap.size W w)
    (hs : ∃ F', IsLog 69 w' d F' b' t' l' ∧ Moves F F' w w') (hr : riseB t' l' = true) : LogRise W d g w' := by
  obtain ⟨F', h', hm⟩ := hs
  refine ⟨F', b', t', l', h', hr, fun x hx => ?_, fun hx => ?_, hb.trans (hm.below hb.size hlo)⟩
  · rcases hm.foot x hx with h1 | h1
    · exact hlo x h1
    · have := hb.size; omega
  · rcases hm.foot g hx with h1 | h1
    · exact hg h1
    · omega
theorem LogRise.below {W : World} {d g : Nat} {w w' : World} (h : LogRise W d g w) (hb : Below w.heap.size w w') : LogRise W d g w' := by
  obtain ⟨F, b, t, l, h1, h2, h3, h4, h5⟩ := h
  exact ⟨F, b, t, l, h1.below hb, h2, h3, h4, h5.trans (hb.mono h5.size)⟩
theorem rise_reset {t t' : Int} {l : List Ent} {c : Bool} (h : riseB t l = true) : riseB (if c then t' else t) (if c then [] else l) = true := by
  cases c
  · exact h
  · rfl
theorem small_like {ms ms' : List MEnt} (h : es ms' = es ms) (hs : SmallL ms) : SmallL ms' := by
  have hl : ms'.length = ms.length := by rw [← es_len ms', h, es_len]
  exact ⟨by rw [hl]; exact hs.1, small_of h hs.2⟩
def RRel (W : World) (d : Nat) (i : Value) (wr : World) : Prop := ∃ k : Nat, i = .int .i64 k ∧ k ≤ 100 ∧ ∃ g, LogRise W d g wr
def JRel (W : World) (d g n : Nat) (cs : Array Value) (i : Value) (wr : World) : Prop := ∃ j : Nat, i = .int .i64 j ∧ j ≤ n ∧ LogRise W d g wr ∧ Blk wr g 50 cs
def KRel (t : Int) (l : List Ent) (tv i : Value) : Prop := ∃ j : Nat, i = .int .i64 j ∧ j ≤ l.length ∧ tv = .int .i64 (endT t (l.take j))
set_option maxHeartbeats 4000000 in
set_option maxRecDepth 100000 in
theorem rlogRises_any (A : Option Addr) (c : Nat) (os : List MOp) (W : World) (hO : OpsR W W.heap.size A os) (hn : os.length * 48 ≤ 140737488355328) :
    Calls Try.prog 4 #[.slice A os.length c] W fun e w' => e = .returned (.bool true) ∧ Below W.heap.size W w' := by
  have HO := Lib.hid hO
  clear hO
  go_enter Try.func4, Try.ntmps4
  go_wp2_with fail
  refine (works_any W).mono ?_
  rintro e w0 ⟨rfl, hb0⟩
  go_wp2_with fail
  refine (new_any _).mono ?_
  rintro e w1 ⟨rfl, hw1⟩
  have hb1 : Below w0.heap.size w0 w1 := by rw [hw1]; exact below_alloc _ _
  have hI : IsLog 69 w1 w0.heap.size [w0.heap.size] 0 0 [] := by rw [hw1]; exact new_is _ _
  obtain ⟨d, hd⟩ : ∃ d, d = w0.heap.size := ⟨_, rfl⟩
  have HR : Hid (LogRise W d (d + 1) w1) := Lib.hid ⟨[w0.heap.size], 0, 0, [], by rw [hd]; exact hI, rfl, fun x hx => by rw [List.mem_singleton.1 hx]; exact hb0.size, by rw [hd]; simp, hb0.trans (hb1.mono hb0.size)⟩
  rw [← hd]
  clear hw1 hb0 hb1 hI hd
  go_wp2
  go_loopw [4] (RRel W d) (fun i _ => 100 - (intOf i).toNat)
  case atStart => exact ⟨0, rfl, by omega, _, HR.out⟩
  case round =>
    clear HR
    obtain ⟨k, rfl, hk, g0, hR⟩ := hrel
    by_cases hgo : k < os.length ∧ k < 100
    · obtain ⟨hg1, hg2⟩ := hgo
      obtain ⟨F, b, t, l, h1, h2, h3, h4, h5⟩ := hR
      obtain ⟨bo, off, rfl, hbo, hc⟩ := (HO.out.below h5).at_ hg1
      have y0 := hc 0 _ rfl
      have y1 := hc 1 _ rfl
      have y2 := hc 2 _ rfl
      have y3 := hc 3 _ rfl
      rw [Nat.add_zero] at y0
      have HF := Lib.hid (HO.out.fine _ (gmo_mem hg1))
      generalize gmo os k = o at *
      obtain ⟨kd, oi, ot, oA, oC, ms⟩ := o
      have kL : (0 : Int) ≤ (k : Int) := by omega
      have kU : (k : Int) < (os.length : Int) := by omega
      have k1 : (k : Int) < 100 := by omega
      have hba := below_alloc wr (.cells #[.int .i64 kd, .int .i64 oi, .int .i64 ot, .slice oA ms.length oC] 50)
      have HX := Lib.hid (Blk.new wr 50 #[.int .i64 kd, .int .i64 oi, .int .i64 ot, .slice oA ms.length oC])
      have HIS := Lib.hid (h1.below hba)
      have HB := Lib.hid (h5.trans (hba.mono h5.size))
      have HLO := Lib.hid h3
      have HRI := Lib.hid h2
      have hgF : wr.heap.size ∉ F := fun hm => by have := h1.lt _ hm; omega
      have HGF := Lib.hid hgF
      clear hc h1 h2 h3 h4 h5 hba hgF hg1
      go_upto_block 2 with fail
      obtain ⟨wb, hwb⟩ : ∃ wb, wb = wr.alloc (.cells #[.int .i64 kd, .int .i64 oi, .int .i64 ot, .slice oA ms.length oC] 50) := ⟨_, rfl⟩
      obtain ⟨g, hg⟩ : ∃ g, g = wr.heap.size := ⟨_, rfl⟩
      rw [← hwb, ← hg] at HX
      rw [← hwb] at HIS HB
      rw [← hg] at HGF
      rw [← hwb, ← hg]
      clear hwb hg y0 y1 y2 y3 g0
      have hgl := HX.out.lt
      have x0 : wb.cell? ⟨g, 0, none⟩ = some (.int .i64 kd) := HX.out.cell 0
      have x1 : wb.cell? ⟨g, 1, none⟩ = some (.int .i64 oi) := HX.out.cell 1
      have x2 : wb.cell? ⟨g, 2, none⟩ = some (.int .i64 ot) := HX.out.cell 2
      have x3 : wb.cell? ⟨g, 3, none⟩ = some (.slice oA ms.length oC) := HX.out.cell 3
      have HEB := Lib.hid (((HF.out.ents).below HB.out).more HB.out.size)
      have HSM := Lib.hid HF.out.small
      have HLR : Hid (LogRise W d g wb) := Lib.hid ⟨F, b, t, l, HIS.out, HRI.out, HLO.out, HGF.out, HB.out⟩
      have hmn := HSM.out.1
      go_cut [6, 33, 50, 61, 67] (fun s6 s33 s50 s61 s67 wx => LogRise W d g wx)
      case first =>
        by_cases hk0 : kd = 0
        · have z0 : (kd == 0) = true := by rw [hk0]; rfl
          clear hk0
          go_wp2
          go_loopw [6] (JRel W d g ms.length #[.int .i64 kd, .int .i64 oi, .int .i64 ot, .slice oA ms.length oC]) (fun i _ => ms.length - (intOf i).toNat)
          case atStart => exact ⟨0, rfl, Nat.zero_le _, HLR.out, HX.out⟩
          case round =>
            obtain ⟨j, rfl, hj, ⟨F2, b2, t2, l2, i1, i2, i3, i4, i5⟩, hbx⟩ := hrel
            have y3 : wr.cell? ⟨g, 3, none⟩ = some (.slice oA ms.length oC) := hbx.cell 3
            by_cases hlt : j < ms.length
            · have jL : (0 : Int) ≤ (j : Int) := by omega
              have jU : (j : Int) < (ms.length : Int) := by omega
              have hEn := ((HF.out.ents).below i5).more i5.size
              obtain ⟨b1, o1, rfl, hb1, hr1⟩ := hEn.range hlt
              have hfm := hEn.fine _ (gme_mem hlt)
              have hsm := HSM.out.2 _ (gme_mem hlt)
              generalize gme ms j = m at *
              have HC := Lib.hid (copy_any m wr hfm hsm)
              have I1 := Lib.hid i1
              have I2 := Lib.hid i2
              have I3 := Lib.hid i3
              have I4 := Lib.hid i4
              have I5 := Lib.hid i5
              have HBX := Lib.hid hbx
              have HSM1 := Lib.hid hsm
              clear i1 i2 i3 i4 i5 hbx hEn hfm hsm
              go_wp2_with ((with_reducible refine wpList_load_mid ?e1 37 (.tmp 46) ?e2 b1 (o1 + j * 13) ?e3 (mcell m) _ ?e4 Try.underlying37 ?e5 ?e6 ?e7); (case e1 => rfl); (case e2 => rfl); (case e3 => rfl); (case e4 => exact hr1); (case e5 => rfl); (case e6 => kernel_rfl); (case' e7 => skip))
              refine HC.out.mono ?_
              rintro e w3 ⟨m', rfl, hme, hOF, hb3⟩
              have HI3 := Lib.hid (I1.out.below hb3)
              have hg3 : g < w3.heap.size := Nat.lt_of_lt_of_le HBX.out.lt hb3.size
              have HB3 := Lib.hid (I5.out.trans (hb3.mono I5.out.size))
              have HBX3 := Lib.hid (HBX.out.below hb3 HBX.out.lt)
              have HA := Lib.hid (append_any d F2 b2 t2 l2 m' w3 HI3.out hOF.fine (by unfold SmallE; rw [hme]; exact HSM1.out))
              clear hme hOF hb3 hr1
              unfold magg at HA ⊢
              go_wp2_with fail
              refine HA.out.mono ?_
              rintro e w4 ⟨he, hs⟩
              obtain ⟨F4, h4, hm4⟩ := hs
              have HN := Lib.hid (LogRise.step HI3.out I3.out I4.out hg3 HB3.out ⟨F4, h4, hm4⟩ (rise_append I2.out))
              have HBX4 := Lib.hid (hm4.kept.blk HBX3.out I4.out)
              subst he
              clear h4 hm4
              go_wp2
              go_roundw
              case rel => exact ⟨j + 1, by go_num, by omega, HN.out, HBX4.out⟩
              case measure => simp [intOf]; omega
            · have jU : ¬ (j : Int) < (ms.length : Int) := by omega
              have HN : Hid (LogRise W d g wr) := Lib.hid ⟨F2, b2, t2, l2, i1, i2, i3, i4, i5⟩
              clear i1 i2 i3 i4 i5 hbx
              go_wp2_with fail
              go_meet
              exact HN.out
        have z0 : (kd == 0) = false := beq_eq_false_iff_ne.2 hk0
        by_cases hk1 : kd = 1
        · have z1 : (kd == 1) = true := by rw [hk1]; rfl
          clear hk0 hk1
          have HC := Lib.hid (lcopies_any oA oC ms wb.drew (HEB.out.drewN 1) HSM.out)
          have x1d : wb.drew.cell? ⟨g, 1, none⟩ = some (.int .i64 oi) := x1
          have x2d : wb.drew.cell? ⟨g, 2, none⟩ = some (.int .i64 ot) := x2
          have x3d : wb.drew.cell? ⟨g, 3, none⟩ = some (.slice oA ms.length oC) := x3
          have hgd : g < wb.drew.heap.size := hgl
          go_wp2
          go_region_held3 (fun w' => w'.cell? ⟨g, 1, none⟩ = some (.int .i64 oi) ∧ w'.cell? ⟨g, 2, none⟩ = some (.int .i64 ot) ∧ w'.cell? ⟨g, 3, none⟩ = some (.slice oA ms.length oC)) (first | exact ⟨x1d, x2d, x3d⟩ | exact ⟨x1e, x2e, x3e⟩ | exact ⟨x1f, x2f, x3f⟩)
            (first
              | (go_at_call 16; refine HC.out.mono ?_; rintro e w3 ⟨A3, c3, ms3, rfl, hm3, hO3, hb3⟩; have x1e := (hb3.cell (p := ⟨g, 1, none⟩) hgd).trans x1d; have x2e := (hb3.cell (p := ⟨g, 2, none⟩) hgd).trans x2d; have x3e := (hb3.cell (p := ⟨g, 3, none⟩) hgd).trans x3d; have HM3 := Lib.hid hm3; clear hm3)
              | (go_at_call 13; refine (try_any d F b t l oi ot A3 c3 ms3 w3 ((HIS.out.drewN 1).below hb3) hO3.ents (small_like HM3.out HSM.out) (own_cap hO3.row).1).mono ?_; rintro e w4 ⟨rfl, hs4⟩; obtain ⟨F4, h4, hm4⟩ := hs4; have hg3 : g < w3.heap.size := Nat.lt_of_lt_of_le hgd hb3.size; have x1f := (hm4.kept.cell (p := ⟨g, 1, none⟩) hg3 HGF.out).trans x1e; have x2f := (hm4.kept.cell (p := ⟨g, 2, none⟩) hg3 HGF.out).trans x2e; have x3f := (hm4.kept.cell (p := ⟨g, 3, none⟩) hg3 HGF.out).trans x3e))
          have hB3 : Below W.heap.size W w3 := (below_drewN HB.out 1).trans (hb3.mono HB.out.size)
          have HN := Lib.hid (LogRise.step ((HIS.out.drewN 1).below hb3) HLO.out HGF.out hg3 hB3 ⟨F4, h4, hm4⟩ (rise_try HRI.out))
          clear h4 hm4 hB3 hb3 hO3
          go_wp2_with fail
          go_meet
          exact HN.out
        have z1 : (kd == 1) = false := beq_eq_false_iff_ne.2 hk1
        by_cases hk2 : kd = 2
        · have z2 : (kd == 2) = true := by rw [hk2]; rfl
          clear hk0 hk1 hk2
          go_wp2_with fail
          refine (compact_any d F b t l oi _ HIS.out).mono ?_
          rintro e w3 ⟨he, hs⟩
          have hN := LogRise.step HIS.out HLO.out HGF.out hgl HB.out hs (rise_compact HRI.out)
          subst he
          have HN := Lib.hid hN
          clear hs hN
          go_wp2_with fail
          go_meet
          exact HN.out
        have z2 : (kd == 2) = false := beq_eq_false_iff_ne.2 hk2
        by_cases hk3 : kd = 3
        · have z3 : (kd == 3) = true := by rw [hk3]; rfl
          clear hk0 hk1 hk2 hk3
          go_wp2_with fail
          refine (reset_log HIS.out oi ot).mono ?_
          rintro e w3 ⟨he, hs⟩
          have hN := LogRise.step HIS.out HLO.out HGF.out hgl HB.out hs (rise_reset HRI.out)
          subst he
          have HN := Lib.hid hN
          clear hs hN
          go_wp2_with fail
          go_meet
          exact HN.out
        have z3 : (kd == 3) = false := beq_eq_false_iff_ne.2 hk3
        clear hk0 hk1 hk2 hk3
        go_wp2_with fail
        go_meet
        exact HLR.out
      case rest =>
        obtain ⟨F2, b2, t2, l2, i1, i2, i3, i4, i5⟩ := hcut
        have I1 := Lib.hid i1
        have I2 := Lib.hid i2
        have I3 := Lib.hid i3
        have I4 := Lib.hid i4
        have I5 := Lib.hid i5
        have hN := i1.few
        have hb0 := i1.b0
        have hb1 := i1.b1
        obtain ⟨N, hNN⟩ : ∃ N, N = l2.length := ⟨_, rfl⟩
        rw [← hNN] at hN hb1
        have HNN := Lib.hid hNN
        have HL := Lib.hid (fun q => last_log (I1.out.drewN q))
        unfold LastEnds lastI at HL
        rw [← hNN] at HL
        obtain ⟨TE, hTE⟩ : ∃ TE, TE = lastT b2 t2 l2 := ⟨_, rfl⟩
        rw [← hTE] at HL
        have HTE : Hid (TE = endT t2 l2) := Lib.hid (by rw [hTE, lastT_end])
        clear i1 i2 i3 i4 i5 hNN hTE x0 x1 x2 x3
        go_wp2_with fail
        refine (base_log I1.out).mono ?_
        rintro e w' ⟨rfl, q1, rfl⟩
        go_wp2_with fail
        refine (HL.out q1).mono ?_
        rintro e w' ⟨rfl, q2, rfl⟩
        have hSE : sliceE b2 l2 (b2 + 1) = 0 := by unfold sliceE; rw [if_neg (by omega), if_neg (by omega)]
        have hSL : sliceL b2 l2 (b2 + 1) (b2 + (N : Int) - b2 + 1) = l2 := by
          unfold sliceL
          rw [if_pos hSE, show (b2 + 1 - b2 - 1).toNat = 0 by omega, List.drop_zero, List.take_of_length_le (by rw [← HNN.out]; omega)]
        have HSS := Lib.hid (slice_log (I1.out.drewN (q1 + q2)) (b2 + 1) (b2 + (N : Int) - b2 + 1))
        unfold SliceEnds at HSS
        rw [hSE, hSL] at HSS
        clear hSE hSL
        go_wp2_with fail
        refine HSS.out.mono ?_
        rintro e w3 ⟨A1, c1, ns, he, hms, hO, hbs⟩
        have hnl : ns.length = N := by rw [← es_len, hms, HNN.out]
        rw [hnl] at he
        subst he
        have HNL := Lib.hid hnl
        have HE3 := Lib.hid hO.ents
        have HMS := Lib.hid hms
        have HBS := Lib.hid ((below_drewN (Below.refl _ _) (q1 + q2)).trans hbs)
        clear hnl hO hms hbs
        have eN : b2 + (N : Int) - b2 = (N : Int) := by omega
        have z5 : decide ((512 : Int) < (N : Int)) = false := decide_eq_false (by omega)
        have hte : t2 ≤ TE := by rw [HTE.out]; exact rise_end I2.out
        have z6 : decide (TE < t2) = false := decide_eq_false (by omega)
        go_wp2
        go_loop [8, 13] (KRel t2 l2) (fun _ i => N - (intOf i).toNat)
        case atStart => exact ⟨0, rfl, Nat.zero_le _, rfl⟩
        case round =>
          obtain ⟨j, rfl, hj, rfl⟩ := hrel
          by_cases hlt : j < N
          · have hlt2 : j < ns.length := by rw [HNL.out]; exact hlt
            obtain ⟨b1, o1, rfl, hb1, hr1⟩ := HE3.out.range hlt2
            have y0 : w3.cell? ⟨b1, o1 + j * 13, none⟩ = some (.int .i64 (gme ns j).e.term) := hr1 0 _ rfl
            have hx : (l2.getD j ent0).term = (gme ns j).e.term := by
              rw [← HMS.out, List.getD_eq_getElem?_getD, List.getElem?_eq_getElem (by rw [es_len]; exact hlt2), Option.getD_some, es_at hlt2]
            have hnx := end_take t2 l2 j (by rw [← HNN.out]; exact hlt)
            rw [hx] at hnx
            have hle : endT t2 (l2.take j) ≤ (gme ns j).e.term := by
              have h1 := rise_drop I2.out j
              rw [List.drop_eq_getElem_cons (by rw [← HNN.out]; exact hlt)] at h1
              simp only [riseB, Bool.and_eq_true, decide_eq_true_eq] at h1
              have h2 := h1.1.2
              rw [← hx, List.getD_eq_getElem?_getD, List.getElem?_eq_getElem (by rw [← HNN.out]; exact hlt), Option.getD_some]
              exact h2
            generalize (gme ns j).e.term = x at *
            have HNX := Lib.hid hnx
            generalize endT t2 (l2.take j) = tj at *
            have z7 : decide (x < tj) = false := decide_eq_false (by omega)
            have jL : (0 : Int) ≤ (j : Int) := by omega
            have jU : (j : Int) < (N : Int) := by omega
            clear hx hnx hr1 hle
            go_wp2
            go_round
            case rel => exact ⟨j + 1, by go_num, by rw [← HNN.out]; omega, by rw [HNX.out]⟩
            case measure => simp [intOf]; omega
          · have jU : ¬ (j : Int) < (N : Int) := by omega
            have hTj : endT t2 (l2.take j) = TE := by rw [HTE.out, List.take_of_length_le (by rw [← HNN.out]; omega)]
            rw [hTj]
            clear hTj
            go_wp2
            go_roundw
            case rel => exact ⟨k + 1, by go_num, by omega, g, F2, b2, t2, l2, I1.out.below HBS.out, I2.out, I3.out, I4.out, I5.out.trans (HBS.out.mono I5.out.size)⟩
            case measure => simp [intOf]; omega
    · have hz : decide (k < os.length) = false ∨ (decide (k < os.length) = true ∧ decide ((k : Int) < 100) = false) := by
        by_cases h1 : k < os.length
        · exact .inr ⟨decide_eq_true (by omega), decide_eq_false (by omega)⟩
        · exact .inl (decide_eq_false (by omega))
      have HBX : Hid (Below W.heap.size W wr) := Lib.hid hR.choose_spec.choose_spec.choose_spec.choose_spec.2.2.2.2
      clear hgo hR
      rcases hz with z1 | ⟨z1, z2⟩
      all_goals
        go_wp2
        go_ret
        exact ⟨rfl, HBX.out⟩
end Go.Proofs.Ytdcnfdhhflmdcaa
