/- RlogBase: the walk. -/
import Derived.Test.YtdcnfdhhflmdcaaRmA
import Derived.Test.YtdcnfdhhflmdcaaRbA
import Derived.Test.YtdcnfdhhflmdcaaOpE
import Derived.Deep.DeepCutAuto
import Derived.Deep.CutBlock
import Derived.IntWalk
namespace Go.Proofs.Ytdcnfdhhflmdcaa
open Go.RowKit
set_option linter.unusedSimpArgs false
set_option linter.unusedVariables false

theorem rem_u64' (x : Int) (m : Nat) (hm : 0 < m) : ∃ a : Nat, a < m ∧ (IntKind.u64.wrap x).tmod (m : Int) = (a : Int) := by
  have h0 : 0 ≤ IntKind.u64.wrap x := by rw [IntKind.wrap_u64]; omega
  rw [Int.tmod_eq_emod_of_nonneg h0]
  have h1 := Int.emod_nonneg (IntKind.u64.wrap x) (show (m : Int) ≠ 0 by omega)
  have h2 := Int.emod_lt_of_pos (IntKind.u64.wrap x) (show (0 : Int) < (m : Int) by omega)
  exact ⟨(IntKind.u64.wrap x % (m : Int)).toNat, by omega, by omega⟩
def Dis (F G : List Nat) : Prop := ∀ k ∈ F, k ∉ G
theorem Dis.symm {F G : List Nat} (h : Dis F G) : Dis G F := fun k h1 h2 => h k h2 h1
theorem Dis.step {F F' G : List Nat} {w w' : World} (h : Dis F G) (hm : Moves F F' w w') (hl : ∀ k ∈ G, k < w.heap.size) : Dis F' G := fun k hk hg =>
  (hm.foot k hk).elim (fun h1 => h k h1 hg) (fun h1 => by have := hl k hg; omega)
/-- two logs apart from each other, in new memory, with the same entries -/
def Two (B : Nat) (w : World) (d1 d2 : Nat) (L : List Ent) : Prop := ∃ F1 F2, IsLog 69 w d1 F1 0 0 L ∧ IsLog 69 w d2 F2 0 0 L ∧ Dis F1 F2 ∧ (∀ k ∈ F1, B ≤ k) ∧ ∀ k ∈ F2, B ≤ k
theorem low_step {B : Nat} {F F' : List Nat} {w w' : World} (h : ∀ k ∈ F, B ≤ k) (hB : B ≤ w.heap.size) (hm : Moves F F' w w') : ∀ k ∈ F', B ≤ k := fun k hk => (hm.foot k hk).elim (h k) (fun h1 => by omega)
theorem comp_vals {L : List Ent} {p : Nat} (hp : p ≤ L.length) : termE 0 L p = 0 ∧ compB 0 L p = p ∧ compT 0 0 L p = termV 0 0 L p ∧ compL 0 L p = L.drop p := by
  have h : termE 0 L p = 0 := termE_zero.2 (by omega)
  unfold compB compT compL
  rw [if_pos h, if_pos h, if_pos h, show ((p : Int) - 0).toNat = p by omega]
  exact ⟨h, rfl, rfl, rfl⟩
theorem slice_all {b : Int} {l : List Ent} {n : Nat} (h : l.length ≤ n) : sliceE b l (b + 1) = 0 ∧ sliceL b l (b + 1) (n : Int) = l := by
  have h0 : sliceE b l (b + 1) = 0 := by unfold sliceE; rw [if_neg (by omega), if_neg (by omega)]
  refine ⟨h0, ?_⟩
  unfold sliceL
  rw [if_pos h0, show (b + 1 - b - 1).toNat = 0 by omega, List.drop_zero, show ((n : Int)).toNat = n by omega, List.take_of_length_le h]
theorem slice_from {l : List Ent} {p n : Nat} (hp : p ≤ l.length) (h : l.length ≤ n) : sliceE 0 l ((p : Int) + 1) = 0 ∧ sliceL 0 l ((p : Int) + 1) (n : Int) = l.drop p := by
  have h0 : sliceE 0 l ((p : Int) + 1) = 0 := by unfold sliceE; rw [if_neg (by omega), if_neg (by omega)]
  refine ⟨h0, ?_⟩
  unfold sliceL
  rw [if_pos h0, show ((p : Int) + 1 - 0 - 1).toNat = p by omega, show ((n : Int)).toNat = n by omega, List.take_of_length_le (by rw [List.length_drop]; omega)]
def BRel (W : World) (d1 d2 : Nat) (i : Value) (wr : World) : Prop := ∃ (k : Nat) (L : List Ent), i = .int .i64 k ∧ k ≤ 60 ∧ L.length ≤ k ∧ riseB 0 L = true ∧ Two W.heap.size wr d1 d2 L ∧ Below W.heap.size W wr
set_option maxHeartbeats 4000000 in
set_option maxRecDepth 100000 in
theorem rlogBase_any (A : Option Addr) (c : Nat) (P : List Int) (tq pv : Int) (A4 : Option Addr) (c4 : Nat) (ps : List MEnt) (W : World) (hP : Reads W W.heap.size 1 A P.length (ic P)) (hn : P.length ≤ 17592186044416)
    (hE : Ents W W.heap.size A4 ps.length ps) (hs : SmallL ps) (hc4 : ps.length ≤ c4) :
    Calls Try.prog 5 #[.slice A P.length c, .int .i64 tq, .int .i64 pv, .slice A4 ps.length c4] W fun e w' => e = .returned (.bool true) ∧ Below W.heap.size W w' := by
  have HP := Lib.hid hP
  have HE := Lib.hid hE
  have HS := Lib.hid hs
  have hpn : ps.length ≤ 977343669134 := by have := hs.1; omega
  clear hP hE hs
  go_enter Try.func5, Try.ntmps5
  go_wp2_with fail
  refine (works_any W).mono ?_
  rintro e w0 ⟨rfl, hb0⟩
  go_wp2_with fail
  refine (new_any _).mono ?_
  rintro e w1 ⟨rfl, hw1⟩
  have HW1 := Lib.hid hw1
  clear hw1
  go_wp2_with fail
  refine (new_any _).mono ?_
  rintro e w2 ⟨rfl, hw2⟩
  have hw1 := HW1.out
  have hb1 : Below w0.heap.size w0 w1 := by rw [hw1]; exact below_alloc _ _
  have hb2 : Below w1.heap.size w1 w2 := by rw [hw2]; exact below_alloc _ _
  have hI1 : IsLog 69 w1 w0.heap.size [w0.heap.size] 0 0 [] := by rw [hw1]; exact new_is _ _
  have hI2 : IsLog 69 w2 w1.heap.size [w1.heap.size] 0 0 [] := by rw [hw2]; exact new_is _ _
  have hz1 : w1.heap.size = w0.heap.size + 1 := by rw [hw1]; simp
  obtain ⟨d1, hd1⟩ : ∃ d, d = w0.heap.size := ⟨_, rfl⟩
  obtain ⟨d2, hd2⟩ : ∃ d, d = w1.heap.size := ⟨_, rfl⟩
  have HT : Hid (Two W.heap.size w2 d1 d2 []) := Lib.hid ⟨[d1], [d2], by rw [hd1]; exact hI1.below hb2, by rw [hd2]; exact hI2, fun k h1 h2 => by rw [List.mem_singleton] at h1 h2; omega, fun k hk => by rw [List.mem_singleton.1 hk, hd1]; exact hb0.size, fun k hk => by rw [List.mem_singleton.1 hk, hd2]; exact Nat.le_trans hb0.size hb1.size⟩
  have HB : Hid (Below W.heap.size W w2) := Lib.hid (hb0.trans ((hb1.trans (hb2.mono hb1.size)).mono hb0.size))
  rw [← hd1, ← hd2]
  clear hw1 hw2 hb0 hb1 hb2 hI1 hI2 hz1 hd1 hd2 HW1
  go_wp2
  go_loopw [11] (BRel W d1 d2) (fun i _ => 60 - (intOf i).toNat)
  case atStart => exact ⟨0, [], rfl, by omega, by simp, rfl, HT.out, HB.out⟩
  case round =>
    clear HT HB
    obtain ⟨k, L, rfl, hk, hL, hR, ⟨F1, F2, h1, h2, h12, lo1, lo2⟩, hb⟩ := hrel
    by_cases hgo : k < P.length ∧ k < 60
    · obtain ⟨hg1, hg2⟩ := hgo
      obtain ⟨ad, rfl, hadb, y0⟩ := HP.out.numb (k := k) hg1
      obtain ⟨ad', hA', _, y00⟩ := HP.out.numb (k := 0) (by omega)
      cases hA'
      obtain ⟨b, off, sp⟩ := ad
      obtain rfl : sp = none := by have := spot_none y00; simpa [Addr.add] using this
      rw [Addr.add_lit] at y0
      have y1 := (hb.cell (p := ⟨b, off + k, none⟩) hadb).trans y0
      generalize gm P k = x at *
      obtain ⟨a, ha2, ea⟩ := rem_u64' x 2 (by omega)
      have ea : (IntKind.u64.wrap x).tmod 2 = (a : Int) := ea
      have kL : (0 : Int) ≤ (k : Int) := by omega
      have kU : (k : Int) < (P.length : Int) := by omega
      have k6 : (k : Int) < 60 := by omega
      have aL : (0 : Int) ≤ (a : Int) := by omega
      have aU : (a : Int) < 2 := by omega
      have H1 := Lib.hid h1
      have H2 := Lib.hid h2
      have H12 := Lib.hid h12
      have LO1 := Lib.hid lo1
      have LO2 := Lib.hid lo2
      have HB := Lib.hid hb
      have HR := Lib.hid hR
      have HLk := Lib.hid hL
      clear h1 h2 h12 lo1 lo2 hb hR y0 y00 hL
      go_wp2_with fail
      obtain ⟨tv, htv⟩ : ∃ tv, tv = 1 + (k : Int) / 7 + (a : Int) := ⟨_, rfl⟩
      rw [← htv]
      obtain ⟨wb, hwb⟩ : ∃ wb, wb = wr.alloc (.cells (mcell (mT tv)).toArray 37) := ⟨_, rfl⟩
      have hba : Below wr.heap.size wr wb := by rw [hwb]; exact below_alloc _ _
      have hkx : Blk wb wr.heap.size 37 (mcell (mT tv)).toArray := by rw [hwb]; exact Blk.new _ _ _
      have HWB : Hid (wb = wr.alloc (.cells #[.int .i64 tv, .int .i64 0, .int .i64 0, .int .i64 0, .int .i64 0, .string ⟨#[]⟩, .int .i64 0, .slice none 0 0, .slice none 0 0, .int .i64 0, .int .i64 0, .int .i64 0, .int .i64 0] 37)) := Lib.hid hwb
      rw [← HWB.out]
      clear hwb htv ea
      have hg1' : wr.heap.size ∉ F1 := fun hm => by have := H1.out.lt _ hm; omega
      have hg2' : wr.heap.size ∉ F2 := fun hm => by have := H2.out.lt _ hm; omega
      have HA := Lib.hid (append_any d1 F1 0 0 L (mT tv) wb (H1.out.below hba) (fine_nil _ _ _ rfl rfl) (small_nil _ rfl rfl))
      have HKX := Lib.hid hkx
      have HBA := Lib.hid hba
      have HBW := Lib.hid (HB.out.trans (hba.mono HB.out.size))
      have HG1 := Lib.hid hg1'
      clear hg1' hkx hba
      refine HA.out.mono ?_
      rintro e w3 ⟨he, F1', h1', hm1⟩
      rw [show (mT tv).e = eT tv from rfl] at he h1'
      subst he
      have hsz2 : ∀ x ∈ F2, x < wb.heap.size := fun x hx => Nat.lt_of_lt_of_le (H2.out.lt x hx) HBA.out.size
      have h2a : IsLog 69 w3 d2 F2 0 0 L := (H2.out.below HBA.out).kept hm1.kept H12.out.symm
      have h12a : Dis F1' F2 := H12.out.step hm1 hsz2
      have hb3 := hm1.below HBW.out.size LO1.out
      have H1a := Lib.hid h1'
      have H12a := Lib.hid h12a
      have LO1a := Lib.hid (low_step LO1.out HBW.out.size hm1)
      have HB3 := Lib.hid (HBW.out.trans hb3)
      have hk3 : Blk w3 wr.heap.size 37 (mcell (mT tv)).toArray := hm1.kept.blk HKX.out HG1.out
      have hrg := Blk.range hk3
      have HA2 := Lib.hid (append_any d2 F2 0 0 L (mT tv) w3 h2a (fine_nil _ _ _ rfl rfl) (small_nil _ rfl rfl))
      have H2a := Lib.hid h2a
      obtain ⟨eE, heE⟩ : ∃ eE, eE = appE 0 0 L (eT tv) := ⟨_, rfl⟩
      have HEE := Lib.hid heE
      rw [← heE]
      clear heE h1' hm1 h2a h12a hb3 hk3 hsz2 HA
      go_wp2_with ((with_reducible refine wpList_load_mid ?e1 37 (.tmp 12) ?e2 wr.heap.size 0 ?e3 (mcell (mT tv)) _ ?e4 Try.underlying37 ?e5 ?e6 ?e7); (case e1 => rfl); (case e2 => rfl); (case e3 => rfl); (case e4 => exact hrg); (case e5 => rfl); (case e6 => kernel_rfl); (case' e7 => skip))
      refine HA2.out.mono ?_
      rintro e w4 ⟨he, F2', h2', hm2⟩
      rw [show (mT tv).e = eT tv from rfl] at he h2'
      rw [← HEE.out] at he
      subst he
      have h1b := H1a.out.kept hm2.kept H12a.out
      have h12b : Dis F1' F2' := (H12a.out.symm.step hm2 H1a.out.lt).symm
      have lo2b := low_step LO2.out HB3.out.size hm2
      have HTW : Hid (Two W.heap.size w4 d1 d2 (appL 0 0 L (eT tv))) := Lib.hid ⟨F1', F2', h1b, h2', h12b, LO1a.out, lo2b⟩
      have HB4 := Lib.hid (HB3.out.trans (hm2.below HB3.out.size LO2.out))
      have hll : (appL 0 0 L (eT tv)).length ≤ k + 1 := by
        have := HLk.out
        unfold appL
        split
        · simp; omega
        · omega
      have HLL := Lib.hid hll
      have HRR := Lib.hid (rise_append (b := 0) (e := eT tv) HR.out)
      clear h1b h12b lo2b h2' hm2 hll hrg HA2
      go_wp2
      go_roundw
      case rel => exact ⟨k + 1, _, by go_num, by omega, HLL.out, HRR.out, HTW.out, HB4.out⟩
      case measure => simp [intOf]; omega
    · have hz : decide (k < P.length) = false ∨ (decide (k < P.length) = true ∧ decide ((k : Int) < 60) = false) := by
        by_cases h1 : k < P.length
        · exact .inr ⟨decide_eq_true (by omega), decide_eq_false (by omega)⟩
        · exact .inl (decide_eq_false (by omega))
      have H1 := Lib.hid h1
      have H2 := Lib.hid h2
      have H12 := Lib.hid h12
      have LO1 := Lib.hid lo1
      have LO2 := Lib.hid lo2
      have HB := Lib.hid hb
      have HR := Lib.hid hR
      obtain ⟨N, hNN⟩ : ∃ N, N = L.length := ⟨_, rfl⟩
      have hN : N ≤ 60 := by omega
      have HNN := Lib.hid hNN
      obtain ⟨p0, hp0, ep0⟩ := rem_u64' tq (N + 1) (by omega)
      obtain ⟨p1, hp1, ep1⟩ := rem_u64' pv (N - p0 + 1) (by omega)
      rw [show ((N + 1 : Nat) : Int) = (N : Int) + 1 by omega] at ep0
      rw [show ((N - p0 + 1 : Nat) : Int) = (N : Int) - (p0 : Int) + 1 by omega] at ep1
      have u0 : IntKind.u64.wrap ((N : Int) + 1) = (N : Int) + 1 := IntWalk.u64_in _ (by omega)
      have u1 : IntKind.u64.wrap ((N : Int) - (p0 : Int) + 1) = (N : Int) - (p0 : Int) + 1 := IntWalk.u64_in _ (by omega)
      have n0 : (0 : Int) ≤ (N : Int) := by omega
      have n6 : (N : Int) ≤ 60 := by omega
      have pp0 : (p0 : Int) ≤ (N : Int) := by omega
      have pp1 : (p0 : Int) + (p1 : Int) ≤ (N : Int) := by omega
      have HLA := Lib.hid (last_log H1.out)
      unfold LastEnds lastI at HLA
      rw [← hNN, Int.zero_add] at HLA
      obtain ⟨wp, rfl⟩ : ∃ wp, wp = wr := ⟨_, rfl⟩
      clear h1 h2 h12 lo1 lo2 hb hR hgo hL hNN
      rcases hz with z1 | ⟨z1, z2⟩
      all_goals
        go_wp2_with fail
        refine HLA.out.mono ?_
        rintro e w' ⟨rfl, q1, rfl⟩
        have hcv := comp_vals (L := L) (p := p0) (by rw [← HNN.out]; omega)
        have HCV := Lib.hid hcv
        obtain ⟨V, hV⟩ : ∃ V, V = termV 0 0 L (p0 : Int) := ⟨_, rfl⟩
        have HV := Lib.hid hV
        have HT1 := Lib.hid (term_log (H1.out.drewN q1) (p0 : Int))
        unfold TermEnds at HT1
        rw [hcv.1, ← hV] at HT1
        clear hcv hV
        go_wp2_with fail
        refine HT1.out.mono ?_
        rintro e w' ⟨rfl, q2, rfl⟩
        go_wp2_with fail
        refine (compact_any d1 F1 0 0 L (p0 : Int) _ (H1.out.drewN (q1 + q2))).mono ?_
        rintro e w3 ⟨he, F1', h1', hm1⟩
        rw [HCV.out.1] at he
        rw [HCV.out.2.1, HCV.out.2.2.1, HCV.out.2.2.2, ← HV.out] at h1'
        subst he
        have hbd := below_drewN (Below.refl wp.heap.size wp) (q1 + q2)
        have h2a := (H2.out.drewN (q1 + q2)).kept hm1.kept H12.out.symm
        have H12a := Lib.hid (H12.out.step hm1 (fun x hx => H2.out.lt x hx))
        have LO1a := Lib.hid (low_step (w := wp.drewN (q1 + q2)) LO1.out HB.out.size hm1)
        have HB3 := Lib.hid ((HB.out.trans (hbd.mono HB.out.size)).trans (hm1.below HB.out.size LO1.out))
        have H1a := Lib.hid h1'
        have H2a := Lib.hid h2a
        have HSA := Lib.hid (slice_all (b := (p0 : Int)) (l := L.drop p0) (n := N) (by rw [List.length_drop, ← HNN.out]; omega))
        clear h1' hm1 h2a hbd
        go_wp2_with fail
        refine (slice_log H1a.out ((p0 : Int) + 1) (N : Int)).mono ?_
        rintro e w4 ⟨A5, c5, ms, he, hms, hO, hb4⟩
        rw [HSA.out.1] at he
        rw [HSA.out.2] at hms
        subst he
        have HMS := Lib.hid hms
        have HO := Lib.hid hO
        have HB4 := Lib.hid hb4
        have HB4W := Lib.hid (HB3.out.trans (hb4.mono HB3.out.size))
        have hNN60 : L.length ≤ 512 := by rw [← HNN.out]; omega
        have hp0L : p0 ≤ L.length := by rw [← HNN.out]; omega
        have HRZ := Lib.hid (resE_zero HR.out hp0L hNN60)
        have HLl : Hid (L.length ≤ 512 ∧ p0 ≤ L.length) := Lib.hid ⟨hNN60, hp0L⟩
        have hml : ms.length ≤ 512 := by rw [← es_len, hms, List.length_drop]; omega
        have HRS := Lib.hid (restore_any (p0 : Int) V A5 c5 ms w4 hO.ents (SmallL.of hml (H1a.out.small (fun e he => by rw [hms] at he; exact he))))
        clear hms hO hb4 hNN60 hp0L hml
        go_wp2_with fail
        refine HRS.out.mono ?_
        rintro e w5 ⟨ptr, he, _, hr, hb5⟩
        rw [HMS.out, HV.out, HRZ.out] at he
        rw [HMS.out] at hr
        obtain ⟨d3, F3, hptr, h3, lo3⟩ := hr (by rw [HV.out]; exact HRZ.out)
        rw [hptr] at he
        subst he
        have H3 := Lib.hid h3
        have LO3 := Lib.hid lo3
        have HB5 := Lib.hid hb5
        have HB35 := Lib.hid (HB4.out.trans (hb5.mono HB4.out.size))
        have HB5W := Lib.hid (HB4W.out.trans (hb5.mono HB4W.out.size))
        have H1b := Lib.hid (H1a.out.below HB35.out)
        have H2b := Lib.hid (H2a.out.below HB35.out)
        have H13 : Hid (Dis F1' F3) := Lib.hid (fun k h1 h2 => by have h1 := H1a.out.lt k h1; have h2 := lo3 k h2; have := HB4.out.size; omega)
        have H23 : Hid (Dis F2 F3) := Lib.hid (fun k h1 h2 => by have h1 := H2a.out.lt k h1; have h2 := lo3 k h2; have := HB4.out.size; omega)
        have hLO3W : ∀ k ∈ F3, W.heap.size ≤ k := fun k hk => Nat.le_trans HB4W.out.size (lo3 k hk)
        have LO3W := Lib.hid hLO3W
        obtain ⟨U, hU⟩ : ∃ U, U = termV 0 0 L ((p0 : Int) + (p1 : Int)) := ⟨_, rfl⟩
        have HU := Lib.hid hU
        have hTE : termE 0 L ((p0 : Int) + (p1 : Int)) = 0 := termE_zero.2 (by rw [← HNN.out]; omega)
        have HT2 := Lib.hid (term_log H2b.out ((p0 : Int) + (p1 : Int)))
        unfold TermEnds at HT2
        rw [hTE, ← hU] at HT2
        clear hptr h3 lo3 hb5 hLO3W hr hU hTE
        go_wp2_with fail
        refine HT2.out.mono ?_
        rintro e w' ⟨rfl, q3, rfl⟩
        obtain ⟨w6, hw6⟩ : ∃ w6, w6 = w5.drewN q3 := ⟨_, rfl⟩
        have hb56 : Below w5.heap.size w5 w6 := by rw [hw6]; exact below_drewN (Below.refl _ _) q3
        have H1c := Lib.hid (H1b.out.below hb56)
        have H2c := Lib.hid (H2b.out.below hb56)
        have H3c := Lib.hid (H3.out.below hb56)
        have HB6 := Lib.hid (HB5W.out.trans (hb56.mono HB5W.out.size))
        rw [← hw6]
        clear hw6 hb56
        go_upto_if 156 with fail
        go_cut [3] (fun s3 wx => ∃ Q : List MEnt, s3 = .slice A4 Q.length c4 ∧ Q.length ≤ 8 ∧ Ents W W.heap.size A4 Q.length Q ∧ SmallL Q ∧ wx = w6)
        case first =>
          by_cases h8 : 8 < ps.length
          · have z8 : decide ((8 : Int) < (ps.length : Int)) = true := decide_eq_true (by omega)
            have c8 : (8 : Int) ≤ (c4 : Int) := by omega
            have HQ := Lib.hid (Ents.take (k := 8) HE.out (by omega))
            have hl8 : (ps.take 8).length = 8 := by rw [List.length_take]; omega
            have HL8 := Lib.hid hl8
            have h8i : (8 : Int) < (ps.length : Int) := by omega
            clear h8 hl8
            go_wp2_with fail
            go_meet
            exact ⟨ps.take 8, by rw [HL8.out], by rw [HL8.out]; omega, HQ.out, ⟨by rw [HL8.out]; omega, fun m hm => HS.out.2 m (List.mem_of_mem_take hm)⟩, rfl⟩
          · have z8 : decide ((8 : Int) < (ps.length : Int)) = false := decide_eq_false (by omega)
            go_wp2_with fail
            go_meet
            exact ⟨ps, rfl, by omega, HE.out, HS.out, rfl⟩
        case rest =>
          obtain ⟨Q, rfl, hQ8, hQE, hQS, rfl⟩ := hcut
          have hprev : p0 + p1 ≤ L.length := by rw [← HNN.out]; omega
          have htb := try_base (L := L) (p := es Q) (p0 := p0) (prev := p0 + p1) (U := U) (Nat.le_add_right _ _) hprev (by rw [es_len]; have := HNN.out; omega)
          rw [show ((p0 + p1 : Nat) : Int) = (p0 : Int) + (p1 : Int) by omega, ← HV.out] at htb
          obtain ⟨R, hR⟩ : ∃ R, R = tryR 0 0 L ((p0 : Int) + (p1 : Int)) U (es Q) := ⟨_, rfl⟩
          rw [← hR] at htb
          have HTB := Lib.hid htb
          have HRR := Lib.hid hR
          have HQE := Lib.hid hQE
          have HQS := Lib.hid hQS
          clear htb hR hQE hQS hprev
          -- x
          go_wp2_with fail
          refine (lcopies_any A4 c4 Q _ ((HQE.out.below HB6.out).more HB6.out.size) HQS.out).mono ?_
          rintro e w7 ⟨Aa, ca, na, rfl, hma, hOa, hba⟩
          have HMa := Lib.hid hma
          have HBa := Lib.hid hba
          have HB7 := Lib.hid (HB6.out.trans (hba.mono HB6.out.size))
          have H1d := Lib.hid (H1c.out.below hba)
          have H2d := Lib.hid (H2c.out.below hba)
          have H3d := Lib.hid (H3c.out.below hba)
          have HTa := Lib.hid (try_any d1 F1' (p0 : Int) V (L.drop p0) ((p0 : Int) + (p1 : Int)) U Aa ca na w7 H1d.out hOa.ents ⟨by rw [← es_len, hma, es_len]; omega, small_of hma HQS.out.2⟩ (own_cap hOa.row).1)
          clear hma hOa hba
          go_wp2_with fail
          refine HTa.out.mono ?_
          rintro e w8 ⟨he, Fx, hx, hmx⟩
          rw [HMa.out, HTB.out.1] at he hx
          have H1e := Lib.hid hx
          have H2e := Lib.hid (H2d.out.kept hmx.kept H12a.out.symm)
          have H3e := Lib.hid (H3d.out.kept hmx.kept H13.out.symm)
          have H12e := Lib.hid (H12a.out.step hmx (fun x hx => H2d.out.lt x hx))
          have H13e := Lib.hid (H13.out.step hmx (fun x hx => H3d.out.lt x hx))
          have HB8 := Lib.hid (HB7.out.trans (hmx.below HB7.out.size LO1a.out))
          have LO1e := Lib.hid (low_step LO1a.out HB7.out.size hmx)
          obtain ⟨r1, hr1⟩ : ∃ r, r = R.1.1 := ⟨_, rfl⟩
          obtain ⟨r2, hr2⟩ : ∃ r, r = R.1.2.1 := ⟨_, rfl⟩
          obtain ⟨r3, hr3⟩ : ∃ r, r = R.1.2.2 := ⟨_, rfl⟩
          have HR1 := Lib.hid hr1
          have HR2 := Lib.hid hr2
          have HR3 := Lib.hid hr3
          have he2 : e = .returned (.tuple #[.int .i64 r1, .int .i64 r2, .int .i64 r3]) := by rw [hr1, hr2, hr3]; exact he
          clear hx hmx hr1 hr2 hr3 he
          subst he2
          -- y
          go_wp2_with fail
          refine (lcopies_any A4 c4 Q _ ((HQE.out.below HB8.out).more HB8.out.size) HQS.out).mono ?_
          rintro e w9 ⟨Ab, cb, nb, rfl, hma, hOa, hba⟩
          have HMb := Lib.hid hma
          have HB9 := Lib.hid (HB8.out.trans (hba.mono HB8.out.size))
          have H1f := Lib.hid (H1e.out.below hba)
          have H2f := Lib.hid (H2e.out.below hba)
          have H3f := Lib.hid (H3e.out.below hba)
          have HTb := Lib.hid (try_any d2 F2 0 0 L ((p0 : Int) + (p1 : Int)) U Ab cb nb w9 H2f.out hOa.ents ⟨by rw [← es_len, hma, es_len]; omega, small_of hma HQS.out.2⟩ (own_cap hOa.row).1)
          clear hma hOa hba
          go_wp2_with fail
          refine HTb.out.mono ?_
          rintro e w10 ⟨he, Fy, hy, hmy⟩
          rw [HMb.out, ← HRR.out] at he hy
          have H2g := Lib.hid hy
          have H1g := Lib.hid (H1f.out.kept hmy.kept H12e.out)
          have H3g := Lib.hid (H3f.out.kept hmy.kept H23.out.symm)
          have H23g := Lib.hid (H23.out.step hmy (fun x hx => H3f.out.lt x hx))
          have H12g := Lib.hid ((H12e.out.symm.step hmy (fun x hx => H1f.out.lt x hx)).symm)
          have HB10 := Lib.hid (HB9.out.trans (hmy.below HB9.out.size LO2.out))
          have he2 : e = .returned (.tuple #[.int .i64 r1, .int .i64 r2, .int .i64 r3]) := by rw [HR1.out, HR2.out, HR3.out]; exact he
          clear hy hmy he
          subst he2
          -- z
          go_wp2_with fail
          refine (lcopies_any A4 c4 Q _ ((HQE.out.below HB10.out).more HB10.out.size) HQS.out).mono ?_
          rintro e w11 ⟨Ac, cc, nc, rfl, hma, hOa, hba⟩
          have HMc := Lib.hid hma
          have HB11 := Lib.hid (HB10.out.trans (hba.mono HB10.out.size))
          have H1h := Lib.hid (H1g.out.below hba)
          have H2h := Lib.hid (H2g.out.below hba)
          have H3h := Lib.hid (H3g.out.below hba)
          have HTc := Lib.hid (try_any d3 F3 (p0 : Int) V (L.drop p0) ((p0 : Int) + (p1 : Int)) U Ac cc nc w11 H3h.out hOa.ents ⟨by rw [← es_len, hma, es_len]; omega, small_of hma HQS.out.2⟩ (own_cap hOa.row).1)
          clear hma hOa hba
          go_wp2_with fail
          refine HTc.out.mono ?_
          rintro e w12 ⟨he, Fz, hz, hmz⟩
          rw [HMc.out, HTB.out.1] at he hz
          have H3i := Lib.hid hz
          have H1i := Lib.hid (H1h.out.kept hmz.kept H13e.out)
          have H2i := Lib.hid (H2h.out.kept hmz.kept H23g.out)
          have HB12 := Lib.hid (HB11.out.trans (hmz.below HB11.out.size LO3W.out))
          have he2 : e = .returned (.tuple #[.int .i64 r1, .int .i64 r2, .int .i64 r3]) := by rw [HR1.out, HR2.out, HR3.out]; exact he
          clear hz hmz he
          subst he2
          -- what is left
          obtain ⟨M, hM⟩ : ∃ M, M = R.2.length := ⟨_, rfl⟩
          have hMm : p0 ≤ M := by rw [hM]; exact HTB.out.2
          have hM5 : M ≤ 512 := by rw [hM]; exact H2i.out.few
          have HLB := Lib.hid (last_log H2i.out)
          unfold LastEnds lastI at HLB
          rw [← hM, Int.zero_add] at HLB
          have HMM := Lib.hid hM
          have HSX := Lib.hid (slice_all (b := (p0 : Int)) (l := R.2.drop p0) (n := M) (by rw [List.length_drop, ← hM]; omega))
          have HSY := Lib.hid (slice_from (l := R.2) (p := p0) (n := M) (by rw [← hM]; exact hMm) (by rw [← hM]; exact Nat.le_refl _))
          have hm0 : (0 : Int) ≤ (M : Int) := by omega
          have hm5 : (M : Int) ≤ 512 := by omega
          clear hM
          go_wp2_with fail
          refine HLB.out.mono ?_
          rintro e w' ⟨rfl, q4, rfl⟩
          go_wp2_with fail
          refine (slice_log (H1i.out.drewN q4) ((p0 : Int) + 1) (M : Int)).mono ?_
          rintro e w13 ⟨Ax, cx, nx, he, hnx, hOx, hbx⟩
          rw [HSX.out.1] at he
          rw [HSX.out.2] at hnx
          subst he
          have HNX := Lib.hid hnx
          have HOX := Lib.hid hOx
          have hb13 := (below_drewN (Below.refl w12.heap.size w12) q4).trans hbx
          have HB13 := Lib.hid hb13
          clear hnx hOx hbx hb13
          go_wp2_with fail
          refine (slice_log (H2i.out.below HB13.out) ((p0 : Int) + 1) (M : Int)).mono ?_
          rintro e w14 ⟨Ay, cy, ny, he, hny, hOy, hby⟩
          rw [HSY.out.1] at he
          rw [HSY.out.2] at hny
          subst he
          have HNY := Lib.hid hny
          have HOY := Lib.hid hOy
          have HBy := Lib.hid hby
          have HB14 := Lib.hid (HB13.out.trans (hby.mono HB13.out.size))
          clear hny hOy hby
          go_wp2_with fail
          refine (slice_log (H3i.out.below HB14.out) ((p0 : Int) + 1) (M : Int)).mono ?_
          rintro e w15 ⟨Az, cz, nz, he, hnz, hOz, hbz⟩
          rw [HSX.out.1] at he
          rw [HSX.out.2] at hnz
          subst he
          have HNZ := Lib.hid hnz
          have HBz := Lib.hid hbz
          have HB15 := Lib.hid (HB14.out.trans (hbz.mono HB14.out.size))
          have HEX := Lib.hid ((HOX.out.ents.below (HBy.out.trans (hbz.mono HBy.out.size))).more (Nat.le_trans HBy.out.size hbz.size))
          have HEY := Lib.hid ((HOY.out.ents.below hbz).more hbz.size)
          have HEZ := Lib.hid hOz.ents
          have hsx : SmallL nx := SmallL.of (by rw [← es_len, HNX.out, List.length_drop, ← HMM.out]; omega) (H1i.out.small (fun e he => by rw [HNX.out] at he; exact he))
          have HSX2 := Lib.hid hsx
          clear hnz hOz hbz hsx
          go_wp2_with fail
          refine (sameE_yes Ax Ay cx cy nx ny w15 HEX.out HEY.out (by rw [HNX.out, HNY.out]) HSX2.out).mono ?_
          rintro e w16 ⟨rfl, hb16⟩
          have HB16 := Lib.hid hb16
          clear hb16
          go_wp2_with fail
          refine (sameE_yes Ax Az cx cz nx nz w16 ((HEX.out.below HB16.out).more HB16.out.size) ((HEZ.out.below HB16.out).more HB16.out.size) (by rw [HNX.out, HNZ.out]) HSX2.out).mono ?_
          rintro e w17 ⟨rfl, hb17⟩
          have HB17 : Hid (Below W.heap.size W w17) := Lib.hid ((HB12.out.trans (HB15.out.mono HB12.out.size)).trans ((HB16.out.trans (hb17.mono HB16.out.size)).mono (Nat.le_trans HB12.out.size HB15.out.size)))
          clear hb17
          go_wp2
          go_ret
          exact ⟨rfl, HB17.out⟩
end Go.Proofs.Ytdcnfdhhflmdcaa
