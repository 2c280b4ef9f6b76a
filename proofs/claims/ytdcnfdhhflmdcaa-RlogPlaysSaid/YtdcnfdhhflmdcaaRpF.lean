/- RlogPlays: the walk. -/
import Derived.Test.YtdcnfdhhflmdcaaRpB
import Derived.Test.YtdcnfdhhflmdcaaRpE
import Derived.Test.YtdcnfdhhflmdcaaRpA
import Derived.Test.YtdcnfdhhflmdcaaRsA
import Derived.Test.YtdcnfdhhflmdcaaRmA
import Derived.Test.YtdcnfdhhflmdcaaOpO
import Derived.Deep.DrawnRows
namespace Go.Proofs.Ytdcnfdhhflmdcaa
open Go.RowKit
set_option linter.unusedSimpArgs false
set_option linter.unusedVariables false
attribute [local go_sem ↓] Go.wp_at_zero Go.wp_at_succ

/-- two logs in new memory, apart from each other and from the blocks G -/
structure St (W : World) (d1 d2 : Nat) (F1 F2 G : List Nat) (b1 t1 : Int) (l1 : List Ent) (b2 t2 : Int) (l2 : List Ent) (w : World) : Prop where
  i1 : IsLog 69 w d1 F1 b1 t1 l1
  i2 : IsLog 74 w d2 F2 b2 t2 l2
  s12 : ∀ x ∈ F1, x ∉ F2
  g1 : ∀ x ∈ G, x ∉ F1
  g2 : ∀ x ∈ G, x ∉ F2
  gl : ∀ x ∈ G, x < w.heap.size
  lo1 : ∀ x ∈ F1, W.heap.size ≤ x
  lo2 : ∀ x ∈ F2, W.heap.size ≤ x
  bel : Below W.heap.size W w
section
variable {W w w' : World} {d1 d2 : Nat} {F1 F2 G : List Nat} {b1 t1 b2 t2 b t : Int} {l1 l2 l : List Ent}
theorem St.below (h : St W d1 d2 F1 F2 G b1 t1 l1 b2 t2 l2 w) (hb : Below w.heap.size w w') : St W d1 d2 F1 F2 G b1 t1 l1 b2 t2 l2 w' :=
  ⟨h.i1.below hb, h.i2.below hb, h.s12, h.g1, h.g2, fun x hx => Nat.lt_of_lt_of_le (h.gl x hx) hb.size, h.lo1, h.lo2, h.bel.trans (hb.mono h.bel.size)⟩
theorem St.more (h : St W d1 d2 F1 F2 G b1 t1 l1 b2 t2 l2 w) {B : Nat} {G' : List Nat} (h1 : ∀ x ∈ F1, x < B) (h2 : ∀ x ∈ F2, x < B) (hG : ∀ x ∈ G', B ≤ x ∧ x < w.heap.size) : St W d1 d2 F1 F2 G' b1 t1 l1 b2 t2 l2 w :=
  ⟨h.i1, h.i2, h.s12, fun x hx hm => by have := h1 x hm; have := hG x hx; omega, fun x hx hm => by have := h2 x hm; have := hG x hx; omega, fun x hx => (hG x hx).2, h.lo1, h.lo2, h.bel⟩
theorem St.first (h : St W d1 d2 F1 F2 G b1 t1 l1 b2 t2 l2 w) (hs : ∃ F', IsLog 69 w' d1 F' b t l ∧ Moves F1 F' w w') : ∃ F', St W d1 d2 F' F2 G b t l b2 t2 l2 w' ∧ Kept F1 w w' := by
  obtain ⟨F', h', hm⟩ := hs
  refine ⟨F', ⟨h', h.i2.kept hm.kept (fun k hk hk1 => h.s12 k hk1 hk), fun x hx hx2 => ?_, fun x hx hx1 => ?_, h.g2, fun x hx => Nat.lt_of_lt_of_le (h.gl x hx) hm.kept.size, fun x hx => ?_, h.lo2, h.bel.trans (hm.below h.bel.size h.lo1)⟩, hm.kept⟩
  · rcases hm.foot x hx with h1 | h1
    · exact h.s12 x h1 hx2
    · have := h.i2.lt x hx2; omega
  · rcases hm.foot x hx1 with h1 | h1
    · exact h.g1 x hx h1
    · have := h.gl x hx; omega
  · rcases hm.foot x hx with h1 | h1
    · exact h.lo1 x h1
    · exact Nat.le_trans h.bel.size h1
theorem St.second (h : St W d1 d2 F1 F2 G b1 t1 l1 b2 t2 l2 w) (hs : ∃ F', IsLog 74 w' d2 F' b t l ∧ Moves F2 F' w w') : ∃ F', St W d1 d2 F1 F' G b1 t1 l1 b t l w' ∧ Kept F2 w w' := by
  obtain ⟨F', h', hm⟩ := hs
  refine ⟨F', ⟨h.i1.kept hm.kept (fun k hk hk1 => h.s12 k hk hk1), h', fun x hx hx2 => ?_, h.g1, fun x hx hx1 => ?_, fun x hx => Nat.lt_of_lt_of_le (h.gl x hx) hm.kept.size, h.lo1, fun x hx => ?_, h.bel.trans (hm.below h.bel.size h.lo2)⟩, hm.kept⟩
  · rcases hm.foot x hx2 with h1 | h1
    · exact h.s12 x hx h1
    · have := h.i1.lt x hx; omega
  · rcases hm.foot x hx1 with h1 | h1
    · exact h.g2 x hx h1
    · have := h.gl x hx; omega
  · rcases hm.foot x hx with h1 | h1
    · exact h.lo2 x h1
    · exact Nat.le_trans h.bel.size h1
theorem St.spoil (h : St W d1 d2 F1 F2 G b1 t1 l1 b2 t2 l2 w) (hk : Kept G w w') (hG : ∀ x ∈ G, W.heap.size ≤ x) : St W d1 d2 F1 F2 [] b1 t1 l1 b2 t2 l2 w' :=
  ⟨h.i1.kept hk (fun k hk1 hk2 => h.g1 k hk2 hk1), h.i2.kept hk (fun k hk1 hk2 => h.g2 k hk2 hk1), h.s12, by simp, by simp, by simp, h.lo1, h.lo2, h.bel.trans (hk.below h.bel.size hG)⟩
theorem St.less (h : St W d1 d2 F1 F2 G b1 t1 l1 b2 t2 l2 w) {G' : List Nat} (hG : ∀ x ∈ G', x ∈ G) : St W d1 d2 F1 F2 G' b1 t1 l1 b2 t2 l2 w :=
  ⟨h.i1, h.i2, h.s12, fun x hx => h.g1 x (hG x hx), fun x hx => h.g2 x (hG x hx), fun x hx => h.gl x (hG x hx), h.lo1, h.lo2, h.bel⟩
end
theorem ps_small {ms ms' : List MEnt} (h : es ms' = es ms) (hs : SmallL ms) : SmallL ms' := by
  have hl : ms'.length = ms.length := by rw [← es_len ms', h, es_len]
  exact ⟨by rw [hl]; exact hs.1, small_of h hs.2⟩
theorem ps_e {ms ms' : List MEnt} (h : es ms' = es ms) {i : Nat} (hi : i < ms.length) : (gme ms' i).e = (gme ms i).e := by
  have hl : ms'.length = ms.length := by rw [← es_len ms', h, es_len]
  rw [← es_at hi, ← es_at (by rw [hl]; exact hi)]
  simp only [h]
theorem rreset_log {w : World} {d : Nat} {F : List Nat} {b t : Int} {l : List Ent} (h : IsLog 74 w d F b t l) (b' t' : Int) : Calls Try.prog 28 #[.pointer (some ⟨d, 0, none⟩), .int .i64 b', .int .i64 t'] w (RsEnds 74 d F b t l b' t' w) := by
  obtain ⟨A, c, ms, h, rfl, rfl⟩ := h
  exact (rreset_any d b t b' t' A ms.length c w h.blk).mono fun e w' ⟨he, hk, hb⟩ => ⟨he, reset_is (by decide) h hk hb⟩
/-- behind the beginning -/
def StartP (W : World) (A3 : Option Addr) (c3 : Nat) (ms3 : List MEnt) (s10 s12 : Value) (wx : World) : Prop :=
  ∃ d1 d2 F1 F2 b t l, s10 = .pointer (some ⟨d1, 0, none⟩) ∧ s12 = .pointer (some ⟨d2, 0, none⟩) ∧ St W d1 d2 F1 F2 (fpE A3 ms3) b t l b t l wx ∧ OwnE wx W.heap.size A3 c3 ms3
def ActP (W : World) (d1 d2 : Nat) (A3 : Option Addr) (c3 : Nat) (ms3 : List MEnt) (wx : World) : Prop :=
  ∃ F1 F2 b t l, St W d1 d2 F1 F2 (fpE A3 ms3) b t l b t l wx ∧ OwnE wx W.heap.size A3 c3 ms3
def PRel (W : World) (d1 d2 : Nat) (i : Value) (wr : World) : Prop := ∃ k : Nat, i = .int .i64 k ∧ k ≤ 100 ∧ ∃ F1 F2 b t l, St W d1 d2 F1 F2 [] b t l b t l wr
theorem act_end {W w' : World} {d1 d2 : Nat} {F1 F2 : List Nat} {b t : Int} {l : List Ent} {A3 : Option Addr} {c3 g : Nat} {ms3 : List MEnt} (h : St W d1 d2 F1 F2 (g :: fpE A3 ms3) b t l b t l w') (hO : OwnE w' W.heap.size A3 c3 ms3) : ActP W d1 d2 A3 c3 ms3 w' :=
  ⟨F1, F2, b, t, l, h.less (fun x hx => List.mem_cons_of_mem _ hx), hO⟩
set_option maxHeartbeats 8000000 in
set_option maxRecDepth 100000 in
theorem rlogPlays_any (b t : Int) (A1 : Option Addr) (c1 : Nat) (fs : List MEnt) (A : Option Addr) (c : Nat) (os : List MOp) (W : World) (hF : Ents W W.heap.size A1 fs.length fs) (hFs : SmallL fs) (hO : OpsR W W.heap.size A os) (hn : os.length * 48 ≤ 140737488355328) :
    Calls Try.prog 6 #[.int .i64 b, .int .i64 t, .slice A1 fs.length c1, .slice A os.length c] W fun e w' => e = .returned (.bool true) ∧ Below W.heap.size W w' := by
  have HO := Lib.hid hO
  have HFE := Lib.hid hF
  have HFS := Lib.hid hFs
  have HC := Lib.hid (lcopies_any A1 c1 fs W hF hFs)
  clear hO hF hFs
  go_enter Try.func6, Try.ntmps6
  go_wp2_with fail
  refine HC.out.mono ?_
  clear HC
  rintro e w1 ⟨A3, c3, ms3, rfl, hm3, hO3, hb1⟩
  have HM3 := Lib.hid hm3
  have HOW := Lib.hid hO3
  have HS3 := Lib.hid (ps_small hm3 HFS.out)
  have HB1 := Lib.hid hb1
  have HR := Lib.hid (restore_any b t A3 c3 ms3 w1 hO3.ents HS3.out)
  rw [hm3] at HR
  clear hm3 hO3 hb1
  unfold RestEnds at HR
  obtain ⟨E, hE⟩ : ∃ E, E = resE b t (es fs) := ⟨_, rfl⟩
  have HE := Lib.hid hE
  rw [← hE] at HR
  clear hE
  go_wp2_with fail
  refine HR.out.mono ?_
  clear HR
  rintro e w2 ⟨p1, rfl, hn1, hy1, hb2⟩
  have HN1 := Lib.hid hn1
  have HY1 := Lib.hid hy1
  have HB2 := Lib.hid hb2
  have HR := Lib.hid (rrestore_any b t A1 c1 fs w2 (((HFE.out.below HB1.out).below (hb2.mono HB1.out.size)).more (Nat.le_trans HB1.out.size hb2.size)) HFS.out)
  unfold RestEnds at HR
  rw [← HE.out] at HR
  clear hn1 hy1 hb2
  go_wp2_with fail
  refine HR.out.mono ?_
  clear HR
  rintro e w3 ⟨p2, rfl, hn2, hy2, hb3⟩
  have HN2 := Lib.hid hn2
  have HY2 := Lib.hid hy2
  have HB3 := Lib.hid hb3
  clear hn2 hy2 hb3
  have zE : (E != E) = false := by simp
  go_upto_if 53 with fail
  go_cut [53] (fun s53 wx => s53 = .bool false ∧ wx = w3)
  case first =>
    by_cases hE0 : E = 0
    · obtain ⟨d1, F1, rfl, _⟩ := HY1.out hE0
      obtain ⟨d2, F2, rfl, _⟩ := HY2.out hE0
      clear hE0
      go_wp2_with fail
      go_meet
      exact ⟨rfl, rfl⟩
    · have hp1 := HN1.out hE0
      have hp2 := HN2.out hE0
      subst hp1
      subst hp2
      clear hE0
      go_wp2_with fail
      go_meet
      exact ⟨rfl, rfl⟩
  case rest =>
    obtain ⟨rfl, hw⟩ := hcut
    subst hw
    go_upto_if 55 with fail
    go_cut [10, 12] (fun s10 s12 wx => StartP W A3 c3 ms3 s10 s12 wx)
    case first =>
      by_cases hE0 : E = 0
      · obtain ⟨d1, F1, rfl, i1, lo1⟩ := HY1.out hE0
        obtain ⟨d2, F2, rfl, i2, lo2⟩ := HY2.out hE0
        have HFIN : Hid (StartP W A3 c3 ms3 (.pointer (some ⟨d1, 0, none⟩)) (.pointer (some ⟨d2, 0, none⟩)) wc) := Lib.hid ⟨d1, d2, F1, F2, b, t, es fs, rfl, rfl, ⟨i1.below HB3.out, i2, fun x h1 h2 => by have := i1.lt x h1; have := lo2 x h2; omega,
          fun x h1 h2 => by have := HOW.out.lt x h1; have := lo1 x h2; omega, fun x h1 h2 => by have := HOW.out.lt x h1; have := lo2 x h2; have := HB2.out.size; omega, fun x h1 => by have := HOW.out.lt x h1; have := HB2.out.size; have := HB3.out.size; omega,
          fun x h1 => Nat.le_trans HB1.out.size (lo1 x h1), fun x h1 => Nat.le_trans HB1.out.size (Nat.le_trans HB2.out.size (lo2 x h1)), (HB1.out.trans (HB2.out.mono HB1.out.size)).trans (HB3.out.mono (Nat.le_trans HB1.out.size HB2.out.size))⟩, (HOW.out.below HB2.out).below HB3.out⟩
        clear hE0 i1 i2 lo1 lo2
        go_wp2_with fail
        go_meet
        exact HFIN.out
      · have hp1 := HN1.out hE0
        have hp2 := HN2.out hE0
        subst hp1
        subst hp2
        clear hE0
        go_wp2_with fail
        refine (new_any _).mono ?_
        rintro e w4 ⟨rfl, hw4⟩
        have hb4 : Below wc.heap.size wc w4 := by rw [hw4]; exact below_alloc _ _
        have hi4 : IsLog 69 w4 wc.heap.size [wc.heap.size] 0 0 [] := by rw [hw4]; exact new_is _ _
        have HI4 := Lib.hid hi4
        have HB4 := Lib.hid hb4
        have hs4 : wc.heap.size < w4.heap.size := hi4.lt _ (by simp)
        clear hw4 hi4 hb4
        go_wp2_with fail
        refine (rnew_any _).mono ?_
        rintro e w5 ⟨rfl, hw5⟩
        have hb5 : Below w4.heap.size w4 w5 := by rw [hw5]; exact below_alloc _ _
        have hi5 : IsLog 74 w5 w4.heap.size [w4.heap.size] 0 0 [] := by rw [hw5]; exact new_is _ _
        have hs5 : w4.heap.size < w5.heap.size := hi5.lt _ (by simp)
        have s1 := HB1.out.size
        have s2 := HB2.out.size
        have s3 := HB3.out.size
        have hbw : Below W.heap.size W wc := (HB1.out.trans (HB2.out.mono s1)).trans (HB3.out.mono (Nat.le_trans s1 s2))
        have hb4w := hbw.trans (HB4.out.mono hbw.size)
        have HFIN : Hid (StartP W A3 c3 ms3 (.pointer (some ⟨wc.heap.size, 0, none⟩)) (.pointer (some ⟨w4.heap.size, 0, none⟩)) w5) := Lib.hid ⟨_, _, [wc.heap.size], [w4.heap.size], 0, 0, [], rfl, rfl, ⟨HI4.out.below hb5, hi5, fun x h1 h2 => by rw [List.mem_singleton] at h1 h2; omega,
          fun x h1 h2 => by have := HOW.out.lt x h1; rw [List.mem_singleton] at h2; omega, fun x h1 h2 => by have := HOW.out.lt x h1; rw [List.mem_singleton] at h2; omega, fun x h1 => by have := HOW.out.lt x h1; omega,
          fun x h1 => by rw [List.mem_singleton] at h1; omega, fun x h1 => by rw [List.mem_singleton] at h1; omega, hb4w.trans (hb5.mono hb4w.size)⟩, (((HOW.out.below HB2.out).below HB3.out).below HB4.out).below hb5⟩
        clear hw5 hb5 hi5 hb4w hbw s1 s2 s3
        go_wp2_with fail
        go_meet
        exact HFIN.out
    case rest =>
      clear HOW HB1 HB2 HB3 HY1 HY2 HN1 HN2
      obtain ⟨d1, d2, F1, F2, b, t, l, rfl, rfl, hst, how⟩ := hcut
      have HST := Lib.hid hst
      have HSP := Lib.hid (spoil_any W.heap.size A3 c3 ms3 _ how HS3.out)
      have HLO := Lib.hid how.low
      clear hst how
      go_wp2_with fail
      refine HSP.out.mono ?_
      clear HSP
      rintro e w5 ⟨rfl, hk5⟩
      have HS0 := Lib.hid (HST.out.spoil hk5 HLO.out)
      clear hk5 HST HLO HS3 HM3
      go_wp2_with fail
      go_loopw [14] (PRel W d1 d2) (fun i _ => 100 - (intOf i).toNat)
      case atStart => exact ⟨0, rfl, by omega, F1, F2, b, t, l, HS0.out⟩
      case round =>
        clear HS0
        obtain ⟨k, rfl, hk, F1, F2, b, t, l, hst⟩ := hrel
        by_cases hgo : k < os.length ∧ k < 100
        · obtain ⟨hg1, hg2⟩ := hgo
          obtain ⟨bo, off, rfl, hbo, hc⟩ := (HO.out.below hst.bel).at_ hg1
          have y0 := hc 0 _ rfl
          have y1 := hc 1 _ rfl
          have y2 := hc 2 _ rfl
          have y3 := hc 3 _ rfl
          rw [Nat.add_zero] at y0
          have HF := Lib.hid (HO.out.fine _ (gmo_mem hg1))
          generalize gmo os k = o at *
          obtain ⟨kd, oi, ot, oA, oC, ms⟩ := o
          have kL : (0 : Int) ≤ (k : Int) := by omega
          have kU : (k : Int) < (os.length : Int) := by omega
          have k1 : (k : Int) < 100 := by omega
          have hba := below_alloc wr (.cells #[.int .i64 kd, .int .i64 oi, .int .i64 ot, .slice oA ms.length oC] 50)
          have HX := Lib.hid (Blk.new wr 50 #[.int .i64 kd, .int .i64 oi, .int .i64 ot, .slice oA ms.length oC])
          have HST := Lib.hid (hst.below hba)
          have HLT1 := Lib.hid hst.i1.lt
          have HLT2 := Lib.hid hst.i2.lt
          clear hc hst hba hg1
          go_upto_region 16 with fail
          obtain ⟨wb, hwb⟩ : ∃ wb, wb = wr.alloc (.cells #[.int .i64 kd, .int .i64 oi, .int .i64 ot, .slice oA ms.length oC] 50) := ⟨_, rfl⟩
          obtain ⟨g, hg⟩ : ∃ g, g = wr.heap.size := ⟨_, rfl⟩
          rw [← hwb, ← hg] at HX
          rw [← hwb] at HST
          rw [← hg] at HLT1 HLT2
          rw [← hwb, ← hg]
          clear hwb hg y0 y1 y2 y3
          have hgl := HX.out.lt
          have x3 : wb.cell? ⟨g, 3, none⟩ = some (.slice oA ms.length oC) := HX.out.cell 3
          have HC := Lib.hid (lcopies_any oA oC ms wb (((HF.out.ents).below HST.out.bel).more HST.out.bel.size) HF.out.small)
          go_wp2_with fail
          refine HC.out.mono ?_
          clear HC x3
          rintro e w3 ⟨A3, c3, ms3, rfl, hm3, hO3, hb3⟩
          have HM3 := Lib.hid hm3
          have HS3 := Lib.hid (ps_small hm3 HF.out.small)
          have HLEN : Hid (ms3.length = ms.length) := Lib.hid (by rw [← es_len ms3, hm3, es_len])
          have HOW := Lib.hid (hO3.more HST.out.bel.size)
          have h3s := HST.out.below hb3
          have h3m := h3s.more (G' := g :: fpE A3 ms3) (B := g) HLT1.out HLT2.out (fun x hx => by
            rcases List.mem_cons.1 hx with h1 | h1
            · rw [h1]; exact ⟨Nat.le_refl _, Nat.lt_of_lt_of_le hgl hb3.size⟩
            · exact ⟨Nat.le_of_lt (Nat.lt_of_lt_of_le hgl (hO3.low x h1)), hO3.lt x h1⟩)
          have HXN := Lib.hid (HX.out.below hb3 hgl)
          clear HST HX HLT1 HLT2
          have HST := Lib.hid h3m
          have HX := Lib.hid HXN.out
          clear HXN h3s h3m hm3 hO3 hb3
          have x0 : w3.cell? ⟨g, 0, none⟩ = some (.int .i64 kd) := HX.out.cell 0
          go_upto_block 2 with fail
          clear x0
          go_cut [86, 122, 167, 178] (fun s86 s122 s167 s178 wx => ActP W d1 d2 A3 c3 ms3 wx)
          case first =>
            by_cases hk0 : kd = 0
            · have z0 : (kd == 0) = true := by rw [hk0]; rfl
              clear hk0
              by_cases h0 : 0 < ms.length
              ·
                have HE3 := Lib.hid (HOW.out.ents)
                obtain ⟨b1, o1, hA1, hb1l, hr1⟩ := HE3.out.range (k := 0) (by rw [HLEN.out]; exact h0)
                have hsm1 := HS3.out.2 _ (gme_mem (i := 0) (by rw [HLEN.out]; exact h0))
                have hfm1 := HE3.out.fine _ (gme_mem (i := 0) (by rw [HLEN.out]; exact h0))
                have hee := Lib.hid (ps_e HM3.out h0)
                rw [Nat.zero_mul, Nat.add_zero] at hr1
                obtain ⟨m1, hm1⟩ : ∃ m1, m1 = gme ms3 0 := ⟨_, rfl⟩
                obtain ⟨m2, hm2⟩ : ∃ m2, m2 = gme ms 0 := ⟨_, rfl⟩
                rw [← hm1] at hr1 hsm1 hfm1 hee
                rw [← hm2] at hee
                have HM2 := Lib.hid hm2
                have k2 := Blk.new w3 37 #[.int .i64 0, .int .i64 0, .int .i64 0, .int .i64 0, .int .i64 0, .string ⟨#[]⟩, .int .i64 0, .slice none 0 0, .slice none 0 0, .int .i64 0, .int .i64 0, .int .i64 0, .int .i64 0]
                have hba := below_alloc w3 (.cells #[.int .i64 0, .int .i64 0, .int .i64 0, .int .i64 0, .int .i64 0, .string ⟨#[]⟩, .int .i64 0, .slice none 0 0, .slice none 0 0, .int .i64 0, .int .i64 0, .int .i64 0, .int .i64 0] 37)
                have hst := cells_ent (P := Try.prog) m1 (k2.there (o := 0) (n := 13) (by decide))
                have l5 : Blk ((w3.alloc (.cells #[.int .i64 0, .int .i64 0, .int .i64 0, .int .i64 0, .int .i64 0, .string ⟨#[]⟩, .int .i64 0, .slice none 0 0, .slice none 0 0, .int .i64 0, .int .i64 0, .int .i64 0, .int .i64 0] 37)).setCells w3.heap.size 0 (mcell m1)) w3.heap.size 37 (mcell m1).toArray := Blk.setAll (mcell m1) (p := 0) k2
                have hb6 := belowAll (mcell m1) (g := w3.heap.size) (p := 0) hba (Nat.le_refl _)
                have hr1a : (w3.alloc (.cells #[.int .i64 0, .int .i64 0, .int .i64 0, .int .i64 0, .int .i64 0, .string ⟨#[]⟩, .int .i64 0, .slice none 0 0, .slice none 0 0, .int .i64 0, .int .i64 0, .int .i64 0, .int .i64 0] 37)).rangeAt b1 o1 (mcell m1) := World.rangeAt_alloc hr1 _
                obtain ⟨wn, hwn⟩ : ∃ wn, wn = (w3.alloc (.cells #[.int .i64 0, .int .i64 0, .int .i64 0, .int .i64 0, .int .i64 0, .string ⟨#[]⟩, .int .i64 0, .slice none 0 0, .slice none 0 0, .int .i64 0, .int .i64 0, .int .i64 0, .int .i64 0] 37)).setCells w3.heap.size 0 (mcell m1) := ⟨_, rfl⟩
                rw [← hwn] at hst l5 hb6
                have hrn := Blk.range l5
                have HBN := Lib.hid hb6
                have HSTn := Lib.hid (HST.out.below hb6)
                have HA := Lib.hid (append_any d1 F1 b t l m1 wn HSTn.out.i1 ((hfm1.below hb6).more hb6.size) hsm1)
                obtain ⟨N, hN⟩ : ∃ N, N = appN b t l m1.e := ⟨_, rfl⟩
                obtain ⟨E, hE⟩ : ∃ E, E = appE b t l m1.e := ⟨_, rfl⟩
                unfold AppEnds at HA
                rw [← hN, ← hE] at HA
                have HN := Lib.hid hN
                have HE := Lib.hid hE
                obtain ⟨X, hX⟩ : ∃ X, X = ms3.length := ⟨_, rfl⟩
                have z10 : decide ((0 : Int) < (ms3.length : Int)) = true := decide_eq_true (by rw [HLEN.out]; omega)
                have z11 : decide ((0 : Int) < (ms.length : Int)) = true := decide_eq_true (by omega)
                have hX1 : (0 : Int) < (ms3.length : Int) := of_decide_eq_true z10
                have hx2 : (0 : Int) < (ms.length : Int) := of_decide_eq_true z11
                subst hA1
                clear hm1 hm2 hN hE hwn k2 l5 hba hb6 hsm1 hfm1 hr1 hX
                unfold magg at HA
                go_wp2_with (first | ((with_reducible refine wpList_load_mid ?e11 37 (.tmp 92) ?e12 b1 o1 ?e13 (mcell m1) _ ?e14 Try.underlying37 ?e15 ?e16 ?e17); (case e11 => rfl); (case e12 => rfl); (case e13 => rfl); (case e14 => exact hr1a); (case e15 => rfl); (case e16 => kernel_rfl); (case' e17 => skip)) | ((with_reducible refine wpList_load_mid ?e21 37 (.tmp 16) ?e22 w3.heap.size 0 ?e23 (mcell m1) _ ?e24 Try.underlying37 ?e25 ?e26 ?e27); (case e21 => rfl); (case e22 => rfl); (case e23 => rfl); (case e24 => exact hrn); (case e25 => rfl); (case e26 => kernel_rfl); (case' e27 => skip)))
                refine HA.out.mono ?_
                clear hst hrn hr1a HA
                rintro e w4 ⟨rfl, hs4⟩
                obtain ⟨F4, h4, hk4⟩ := HSTn.out.first hs4
                have HST4 := Lib.hid h4
                have hgs : g < wn.heap.size := HSTn.out.gl g (List.mem_cons_self ..)
                have HX4 := Lib.hid (hk4.blk (HX.out.below HBN.out HX.out.lt) (HSTn.out.g1 g (List.mem_cons_self ..)))
                have HOW4 := Lib.hid ((HOW.out.below HBN.out).kept hk4 (fun k hk => HSTn.out.g1 k (List.mem_cons_of_mem _ hk)))
                have HEL4 := Lib.hid ((HF.out.ents.below h4.bel).more h4.bel.size)
                clear hs4 h4 hk4
                have y3 : w4.cell? ⟨g, 3, none⟩ = some (.slice oA ms.length oC) := HX4.out.cell 3
                have hg4 := HX4.out.lt
                obtain ⟨b2, o2, hA2, hb2l, hr2⟩ := HEL4.out.range (k := 0) h0
                have hsm2 := HF.out.small.2 _ (gme_mem (i := 0) h0)
                have hfm2 := HEL4.out.fine _ (gme_mem (i := 0) h0)
                rw [Nat.zero_mul, Nat.add_zero] at hr2
                rw [← HM2.out] at hr2 hsm2 hfm2
                have k2 := Blk.new w4 37 #[.int .i64 0, .int .i64 0, .int .i64 0, .int .i64 0, .int .i64 0, .string ⟨#[]⟩, .int .i64 0, .slice none 0 0, .slice none 0 0, .int .i64 0, .int .i64 0, .int .i64 0, .int .i64 0]
                have hba := below_alloc w4 (.cells #[.int .i64 0, .int .i64 0, .int .i64 0, .int .i64 0, .int .i64 0, .string ⟨#[]⟩, .int .i64 0, .slice none 0 0, .slice none 0 0, .int .i64 0, .int .i64 0, .int .i64 0, .int .i64 0] 37)
                have hst := cells_ent (P := Try.prog) m2 (k2.there (o := 0) (n := 13) (by decide))
                have l5 : Blk ((w4.alloc (.cells #[.int .i64 0, .int .i64 0, .int .i64 0, .int .i64 0, .int .i64 0, .string ⟨#[]⟩, .int .i64 0, .slice none 0 0, .slice none 0 0, .int .i64 0, .int .i64 0, .int .i64 0, .int .i64 0] 37)).setCells w4.heap.size 0 (mcell m2)) w4.heap.size 37 (mcell m2).toArray := Blk.setAll (mcell m2) (p := 0) k2
                have hb6 := belowAll (mcell m2) (g := w4.heap.size) (p := 0) hba (Nat.le_refl _)
                have hr2a : (w4.alloc (.cells #[.int .i64 0, .int .i64 0, .int .i64 0, .int .i64 0, .int .i64 0, .string ⟨#[]⟩, .int .i64 0, .slice none 0 0, .slice none 0 0, .int .i64 0, .int .i64 0, .int .i64 0, .int .i64 0] 37)).rangeAt b2 o2 (mcell m2) := World.rangeAt_alloc hr2 _
                obtain ⟨wn2, hwn⟩ : ∃ wn2, wn2 = (w4.alloc (.cells #[.int .i64 0, .int .i64 0, .int .i64 0, .int .i64 0, .int .i64 0, .string ⟨#[]⟩, .int .i64 0, .slice none 0 0, .slice none 0 0, .int .i64 0, .int .i64 0, .int .i64 0, .int .i64 0] 37)).setCells w4.heap.size 0 (mcell m2) := ⟨_, rfl⟩
                rw [← hwn] at hst l5 hb6
                have hrn := Blk.range l5
                have HBN2 := Lib.hid hb6
                have HSTn2 := Lib.hid (HST4.out.below hb6)
                have HA := Lib.hid (rappend_any d2 F2 b t l m2 wn2 HSTn2.out.i2 ((hfm2.below hb6).more hb6.size) hsm2)
                unfold AppEnds at HA
                rw [← hee.out, ← HN.out, ← HE.out] at HA
                rw [show oA = some ⟨b2, o2, none⟩ from hA2] at y3
                clear hwn k2 l5 hba hb6 hsm2 hfm2 hr2
                unfold magg at HA
                go_wp2_with (first | ((with_reducible refine wpList_load_mid ?e31 37 (.tmp 106) ?e32 b2 o2 ?e33 (mcell m2) _ ?e34 Try.underlying37 ?e35 ?e36 ?e37); (case e31 => rfl); (case e32 => rfl); (case e33 => rfl); (case e34 => exact hr2a); (case e35 => rfl); (case e36 => kernel_rfl); (case' e37 => skip)) | ((with_reducible refine wpList_load_mid ?e41 37 (.tmp 19) ?e42 w4.heap.size 0 ?e43 (mcell m2) _ ?e44 Try.underlying37 ?e45 ?e46 ?e47); (case e41 => rfl); (case e42 => rfl); (case e43 => rfl); (case e44 => exact hrn); (case e45 => rfl); (case e46 => kernel_rfl); (case' e47 => skip)))
                refine HA.out.mono ?_
                clear hst hrn hr2a HA
                rintro e w5 ⟨rfl, hs5⟩
                obtain ⟨F5, h5, hk5⟩ := HSTn2.out.second hs5
                have HFIN : Hid (ActP W d1 d2 (some ⟨b1, o1, none⟩) c3 ms3 w5) := Lib.hid (act_end h5 ((HOW4.out.below HBN2.out).kept hk5 (fun k hk => HSTn2.out.g2 k (List.mem_cons_of_mem _ hk))))
                have z12 : (N != N) = false := by simp
                have z13 : (E != E) = false := by simp
                clear hs5 h5 hk5
                go_wp2_with fail
                go_meet
                exact HFIN.out
              ·
                have k2 := Blk.new w3 37 #[.int .i64 0, .int .i64 0, .int .i64 0, .int .i64 0, .int .i64 0, .string ⟨#[]⟩, .int .i64 0, .slice none 0 0, .slice none 0 0, .int .i64 0, .int .i64 0, .int .i64 0, .int .i64 0]
                have hba := below_alloc w3 (.cells #[.int .i64 0, .int .i64 0, .int .i64 0, .int .i64 0, .int .i64 0, .string ⟨#[]⟩, .int .i64 0, .slice none 0 0, .slice none 0 0, .int .i64 0, .int .i64 0, .int .i64 0, .int .i64 0] 37)
                have HBN := Lib.hid hba
                have HSTn := Lib.hid (HST.out.below hba)
                have hrn : (w3.alloc (.cells #[.int .i64 0, .int .i64 0, .int .i64 0, .int .i64 0, .int .i64 0, .string ⟨#[]⟩, .int .i64 0, .slice none 0 0, .slice none 0 0, .int .i64 0, .int .i64 0, .int .i64 0, .int .i64 0] 37)).rangeAt w3.heap.size 0 (mcell ment0) := Blk.range (cs := mcell ment0) k2
                have HA := Lib.hid (append_any d1 F1 b t l ment0 (w3.alloc (.cells #[.int .i64 0, .int .i64 0, .int .i64 0, .int .i64 0, .int .i64 0, .string ⟨#[]⟩, .int .i64 0, .slice none 0 0, .slice none 0 0, .int .i64 0, .int .i64 0, .int .i64 0, .int .i64 0] 37)) HSTn.out.i1 (fine_nil _ _ ent0 rfl rfl) (small_nil ent0 rfl rfl))
                obtain ⟨N, hN⟩ : ∃ N, N = appN b t l ment0.e := ⟨_, rfl⟩
                obtain ⟨E, hE⟩ : ∃ E, E = appE b t l ment0.e := ⟨_, rfl⟩
                unfold AppEnds at HA
                rw [← hN, ← hE] at HA
                have HN := Lib.hid hN
                have HE := Lib.hid hE
                have z10 : decide ((0 : Int) < (ms3.length : Int)) = false := decide_eq_false (by rw [HLEN.out]; omega)
                have z11 : decide ((0 : Int) < (ms.length : Int)) = false := decide_eq_false (by omega)
                have hX1 : ¬ (0 : Int) < (ms3.length : Int) := of_decide_eq_false z10
                have hx2 : ¬ (0 : Int) < (ms.length : Int) := of_decide_eq_false z11
                clear hN hE k2 hba
                unfold magg at HA
                go_wp2_with ((with_reducible refine wpList_load_mid ?e51 37 (.tmp 16) ?e52 w3.heap.size 0 ?e53 (mcell ment0) _ ?e54 Try.underlying37 ?e55 ?e56 ?e57); (case e51 => rfl); (case e52 => rfl); (case e53 => rfl); (case e54 => exact hrn); (case e55 => rfl); (case e56 => kernel_rfl); (case' e57 => skip))
                refine HA.out.mono ?_
                clear hrn HA
                rintro e w4 ⟨rfl, hs4⟩
                obtain ⟨F4, h4, hk4⟩ := HSTn.out.first hs4
                have HST4 := Lib.hid h4
                have HX4 := Lib.hid (hk4.blk (HX.out.below HBN.out HX.out.lt) (HSTn.out.g1 g (List.mem_cons_self ..)))
                have HOW4 := Lib.hid ((HOW.out.below HBN.out).kept hk4 (fun k hk => HSTn.out.g1 k (List.mem_cons_of_mem _ hk)))
                clear hs4 h4 hk4
                have y3 : w4.cell? ⟨g, 3, none⟩ = some (.slice oA ms.length oC) := HX4.out.cell 3
                have hg4 := HX4.out.lt
                have k2 := Blk.new w4 37 #[.int .i64 0, .int .i64 0, .int .i64 0, .int .i64 0, .int .i64 0, .string ⟨#[]⟩, .int .i64 0, .slice none 0 0, .slice none 0 0, .int .i64 0, .int .i64 0, .int .i64 0, .int .i64 0]
                have hba := below_alloc w4 (.cells #[.int .i64 0, .int .i64 0, .int .i64 0, .int .i64 0, .int .i64 0, .string ⟨#[]⟩, .int .i64 0, .slice none 0 0, .slice none 0 0, .int .i64 0, .int .i64 0, .int .i64 0, .int .i64 0] 37)
                have HBN2 := Lib.hid hba
                have HSTn2 := Lib.hid (HST4.out.below hba)
                have hrn : (w4.alloc (.cells #[.int .i64 0, .int .i64 0, .int .i64 0, .int .i64 0, .int .i64 0, .string ⟨#[]⟩, .int .i64 0, .slice none 0 0, .slice none 0 0, .int .i64 0, .int .i64 0, .int .i64 0, .int .i64 0] 37)).rangeAt w4.heap.size 0 (mcell ment0) := Blk.range (cs := mcell ment0) k2
                have HA := Lib.hid (rappend_any d2 F2 b t l ment0 (w4.alloc (.cells #[.int .i64 0, .int .i64 0, .int .i64 0, .int .i64 0, .int .i64 0, .string ⟨#[]⟩, .int .i64 0, .slice none 0 0, .slice none 0 0, .int .i64 0, .int .i64 0, .int .i64 0, .int .i64 0] 37)) HSTn2.out.i2 (fine_nil _ _ ent0 rfl rfl) (small_nil ent0 rfl rfl))
                unfold AppEnds at HA
                rw [← HN.out, ← HE.out] at HA
                clear k2 hba
                unfold magg at HA
                go_wp2_with ((with_reducible refine wpList_load_mid ?e61 37 (.tmp 19) ?e62 w4.heap.size 0 ?e63 (mcell ment0) _ ?e64 Try.underlying37 ?e65 ?e66 ?e67); (case e61 => rfl); (case e62 => rfl); (case e63 => rfl); (case e64 => exact hrn); (case e65 => rfl); (case e66 => kernel_rfl); (case' e67 => skip))
                refine HA.out.mono ?_
                clear hrn HA
                rintro e w5 ⟨rfl, hs5⟩
                obtain ⟨F5, h5, hk5⟩ := HSTn2.out.second hs5
                have HFIN : Hid (ActP W d1 d2 A3 c3 ms3 w5) := Lib.hid (act_end h5 ((HOW4.out.below HBN2.out).kept hk5 (fun k hk => HSTn2.out.g2 k (List.mem_cons_of_mem _ hk))))
                have z12 : (N != N) = false := by simp
                have z13 : (E != E) = false := by simp
                clear hs5 h5 hk5
                go_wp2_with fail
                go_meet
                exact HFIN.out
            have z0 : (kd == 0) = false := beq_eq_false_iff_ne.2 hk0
            by_cases hk1 : kd = 1
            · have z1 : (kd == 1) = true := by rw [hk1]; rfl
              clear hk0 hk1
              have v1 : w3.cell? ⟨g, 1, none⟩ = some (.int .i64 oi) := HX.out.cell 1
              have v2 : w3.cell? ⟨g, 2, none⟩ = some (.int .i64 ot) := HX.out.cell 2
              have v3 : w3.cell? ⟨g, 3, none⟩ = some (.slice oA ms.length oC) := HX.out.cell 3
              have HT := Lib.hid (try_any d1 F1 b t l oi ot A3 c3 ms3 w3 HST.out.i1 HOW.out.ents HS3.out (own_cap HOW.out.row).1)
              unfold TryEnds at HT
              rw [HM3.out] at HT
              obtain ⟨R, hR⟩ : ∃ R, R = tryR b t l oi ot (es ms) := ⟨_, rfl⟩
              have HR := Lib.hid hR
              rw [← hR] at HT
              clear hR
              obtain ⟨⟨Ra, Rb, Rc⟩, Rl⟩ := R
              simp only at HT
              go_wp2_with fail
              refine HT.out.mono ?_
              clear HT v1 v2 v3
              rintro e w4 ⟨rfl, hs4⟩
              obtain ⟨F4, h4, hk4⟩ := HST.out.first hs4
              have HST4 := Lib.hid h4
              have HX4 := Lib.hid (hk4.blk HX.out (HST.out.g1 g (List.mem_cons_self ..)))
              have HOW4 := Lib.hid (HOW.out.kept hk4 (fun k hk => HST.out.g1 k (List.mem_cons_of_mem _ hk)))
              have HEL4 := Lib.hid ((HF.out.ents.below h4.bel).more h4.bel.size)
              clear hs4 h4 hk4
              have v1 : w4.cell? ⟨g, 1, none⟩ = some (.int .i64 oi) := HX4.out.cell 1
              have v2 : w4.cell? ⟨g, 2, none⟩ = some (.int .i64 ot) := HX4.out.cell 2
              have v3 : w4.cell? ⟨g, 3, none⟩ = some (.slice oA ms.length oC) := HX4.out.cell 3
              have HT := Lib.hid (rtry_any d2 F2 b t l oi ot oA oC ms w4 HST4.out.i2 HEL4.out HF.out.small HF.out.cap)
              unfold TryEnds at HT
              rw [← HR.out] at HT
              simp only at HT
              go_wp2_with fail
              refine HT.out.mono ?_
              clear HT v1 v2 v3
              rintro e w5 ⟨rfl, hs5⟩
              obtain ⟨F5, h5, hk5⟩ := HST4.out.second hs5
              have HST5 := Lib.hid h5
              have HX5 := Lib.hid (hk5.blk HX4.out (HST4.out.g2 g (List.mem_cons_self ..)))
              have HOW5 := Lib.hid (HOW4.out.kept hk5 (fun k hk => HST4.out.g2 k (List.mem_cons_of_mem _ hk)))
              have HEL5 := Lib.hid ((HF.out.ents.below h5.bel).more h5.bel.size)
              clear hs5 h5 hk5
              have v3 : w5.cell? ⟨g, 3, none⟩ = some (.slice oA ms.length oC) := HX5.out.cell 3
              have z12 : (Ra != Ra) = false := by simp
              have z13 : (Rb != Rb) = false := by simp
              have z14 : (Rc != Rc) = false := by simp
              have HC := Lib.hid (sameE_yes A3 oA c3 oC ms3 ms w5 HOW5.out.ents HEL5.out HM3.out.symm HS3.out)
              go_wp2_with fail
              refine HC.out.mono ?_
              clear HC v3
              rintro e w6 ⟨rfl, hb6⟩
              have HFIN : Hid (ActP W d1 d2 A3 c3 ms3 w6) := Lib.hid (act_end (HST5.out.below hb6) (HOW5.out.below hb6))
              clear hb6
              go_wp2_with fail
              go_meet
              exact HFIN.out
            have z1 : (kd == 1) = false := beq_eq_false_iff_ne.2 hk1
            by_cases hk2 : kd = 2
            · have z2 : (kd == 2) = true := by rw [hk2]; rfl
              clear hk0 hk1 hk2
              have v1 : w3.drew.cell? ⟨g, 1, none⟩ = some (.int .i64 oi) := HX.out.cell 1
              have HSTd := Lib.hid (HST.out.below (below_drewN (Below.refl _ _) 1))
              have HXd : Hid (Blk w3.drew g 50 #[.int .i64 kd, .int .i64 oi, .int .i64 ot, .slice oA ms.length oC]) := Lib.hid HX.out
              have HOWd : Hid (OwnE w3.drew W.heap.size A3 c3 ms3) := Lib.hid (HOW.out.drewN 1)
              have HT := Lib.hid (compact_any d1 F1 b t l oi w3.drew HSTd.out.i1)
              unfold CompEnds at HT
              obtain ⟨E, hE⟩ : ∃ E, E = termE b l oi := ⟨_, rfl⟩
              have HE := Lib.hid hE
              rw [← hE] at HT
              clear hE
              go_wp2
              go_region_held3 (fun w' => w'.cell? ⟨g, 1, none⟩ = some (.int .i64 oi)) (first | exact v1 | exact x1 | exact y1)
                (first
                  | (go_at_call 17; refine HT.out.mono ?_; rintro e w4 ⟨rfl, hs4⟩; obtain ⟨F4, h4, hk4⟩ := HSTd.out.first hs4; have HST4 := Lib.hid h4; have HX4 := Lib.hid (hk4.blk HXd.out (HSTd.out.g1 g (List.mem_cons_self ..))); have HOW4 := Lib.hid (HOWd.out.kept hk4 (fun k hk => HSTd.out.g1 k (List.mem_cons_of_mem _ hk))); clear hs4 h4 hk4; have x1 : w4.cell? ⟨g, 1, none⟩ = some (.int .i64 oi) := HX4.out.cell 1)
                  | (go_at_call 27; have HT2 := Lib.hid (rcompact_any d2 F2 b t l oi w4 HST4.out.i2); unfold CompEnds at HT2; rw [← HE.out] at HT2; refine HT2.out.mono ?_; rintro e w5 ⟨rfl, hs5⟩; obtain ⟨F5, h5, hk5⟩ := HST4.out.second hs5; have HST5 := Lib.hid h5; have HX5 := Lib.hid (hk5.blk HX4.out (HST4.out.g2 g (List.mem_cons_self ..))); have HOW5 := Lib.hid (HOW4.out.kept hk5 (fun k hk => HST4.out.g2 k (List.mem_cons_of_mem _ hk))); clear hs5 h5 hk5 HT2; have y1 : w5.cell? ⟨g, 1, none⟩ = some (.int .i64 oi) := HX5.out.cell 1))
              have HFIN : Hid (ActP W d1 d2 A3 c3 ms3 w5) := Lib.hid (act_end HST5.out HOW5.out)
              have z12 : (E != E) = false := by simp
              go_wp2_with fail
              go_meet
              exact HFIN.out
            have z2 : (kd == 2) = false := beq_eq_false_iff_ne.2 hk2
            by_cases hk3 : kd = 3
            · have z3 : (kd == 3) = true := by rw [hk3]; rfl
              clear hk0 hk1 hk2 hk3
              have v1 : w3.drew.cell? ⟨g, 1, none⟩ = some (.int .i64 oi) := HX.out.cell 1
              have v2 : w3.drew.cell? ⟨g, 2, none⟩ = some (.int .i64 ot) := HX.out.cell 2
              have HSTd := Lib.hid (HST.out.below (below_drewN (Below.refl _ _) 1))
              have HXd : Hid (Blk w3.drew g 50 #[.int .i64 kd, .int .i64 oi, .int .i64 ot, .slice oA ms.length oC]) := Lib.hid HX.out
              have HOWd : Hid (OwnE w3.drew W.heap.size A3 c3 ms3) := Lib.hid (HOW.out.drewN 1)
              have HT := Lib.hid (reset_log HSTd.out.i1 oi ot)
              unfold RsEnds at HT
              obtain ⟨E, hE⟩ : ∃ E, E = resetE oi ot := ⟨_, rfl⟩
              have HE := Lib.hid hE
              rw [← hE] at HT
              clear hE
              go_wp2
              go_region_held3 (fun w' => w'.cell? ⟨g, 1, none⟩ = some (.int .i64 oi) ∧ w'.cell? ⟨g, 2, none⟩ = some (.int .i64 ot)) (first | exact ⟨v1, v2⟩ | exact ⟨x1, x2⟩ | exact ⟨y1, y2⟩)
                (first
                  | (go_at_call 18; refine HT.out.mono ?_; rintro e w4 ⟨rfl, hs4⟩; obtain ⟨F4, h4, hk4⟩ := HSTd.out.first hs4; have HST4 := Lib.hid h4; have HX4 := Lib.hid (hk4.blk HXd.out (HSTd.out.g1 g (List.mem_cons_self ..))); have HOW4 := Lib.hid (HOWd.out.kept hk4 (fun k hk => HSTd.out.g1 k (List.mem_cons_of_mem _ hk))); clear hs4 h4 hk4; have x1 : w4.cell? ⟨g, 1, none⟩ = some (.int .i64 oi) := HX4.out.cell 1; have x2 : w4.cell? ⟨g, 2, none⟩ = some (.int .i64 ot) := HX4.out.cell 2)
                  | (go_at_call 28; have HT2 := Lib.hid (rreset_log HST4.out.i2 oi ot); unfold RsEnds at HT2; rw [← HE.out] at HT2; refine HT2.out.mono ?_; rintro e w5 ⟨rfl, hs5⟩; obtain ⟨F5, h5, hk5⟩ := HST4.out.second hs5; have HST5 := Lib.hid h5; have HX5 := Lib.hid (hk5.blk HX4.out (HST4.out.g2 g (List.mem_cons_self ..))); have HOW5 := Lib.hid (HOW4.out.kept hk5 (fun k hk => HST4.out.g2 k (List.mem_cons_of_mem _ hk))); clear hs5 h5 hk5 HT2; have y1 : w5.cell? ⟨g, 1, none⟩ = some (.int .i64 oi) := HX5.out.cell 1; have y2 : w5.cell? ⟨g, 2, none⟩ = some (.int .i64 ot) := HX5.out.cell 2))
              have HFIN : Hid (ActP W d1 d2 A3 c3 ms3 w5) := Lib.hid (act_end HST5.out HOW5.out)
              have z12 : (E != E) = false := by simp
              go_wp2_with fail
              go_meet
              exact HFIN.out
            have z3 : (kd == 3) = false := beq_eq_false_iff_ne.2 hk3
            clear hk0 hk1 hk2 hk3
            have v0 : w3.cell? ⟨g, 0, none⟩ = some (.int .i64 kd) := HX.out.cell 0
            have v1 : w3.cell? ⟨g, 1, none⟩ = some (.int .i64 oi) := HX.out.cell 1
            have v2 : w3.cell? ⟨g, 2, none⟩ = some (.int .i64 ot) := HX.out.cell 2
            have v3 : w3.cell? ⟨g, 3, none⟩ = some (.slice oA ms.length oC) := HX.out.cell 3
            have HC := Lib.hid (asked_any d1 d2 F1 F2 b t l kd oi ot oA ms.length oC w3 HST.out.i1 HST.out.i2)
            go_wp2_with fail
            refine HC.out.mono ?_
            clear HC v0 v1 v2 v3
            rintro e w4 ⟨rfl, hb4⟩
            have HFIN : Hid (ActP W d1 d2 A3 c3 ms3 w4) := Lib.hid (act_end (HST.out.below hb4) (HOW.out.below hb4))
            clear hb4
            go_wp2_with fail
            go_meet
            exact HFIN.out
          case rest =>
            clear HOW HST HX
            obtain ⟨F1, F2, b, t, l, hst, how⟩ := hcut
            have HST := Lib.hid hst
            have HSP := Lib.hid (spoil_any W.heap.size A3 c3 ms3 _ how HS3.out)
            have HLO := Lib.hid how.low
            clear hst how
            go_wp2_with fail
            refine HSP.out.mono ?_
            clear HSP
            rintro e w5 ⟨rfl, hk5⟩
            have HS0 := Lib.hid (HST.out.spoil hk5 HLO.out)
            clear hk5 HST HLO HS3 HM3
            have HC := Lib.hid (same_any d1 d2 F1 F2 b t l w5 HS0.out.i1 HS0.out.i2)
            go_wp2_with fail
            refine HC.out.mono ?_
            clear HC
            rintro e w6 ⟨rfl, hb6⟩
            have HS6 := Lib.hid (HS0.out.below hb6)
            clear hb6 HS0
            go_wp2
            go_roundw
            case rel => exact ⟨k + 1, by go_num, by omega, F1, F2, b, t, l, HS6.out⟩
            case measure => simp [intOf]; omega
        · have hz : decide (k < os.length) = false ∨ (decide (k < os.length) = true ∧ decide ((k : Int) < 100) = false) := by
            by_cases h1 : k < os.length
            · exact .inr ⟨decide_eq_true (by omega), decide_eq_false (by omega)⟩
            · exact .inl (decide_eq_false (by omega))
          have HC := Lib.hid (same_any d1 d2 F1 F2 b t l wr hst.i1 hst.i2)
          have HB := Lib.hid hst.bel
          clear hgo hst
          rcases hz with z1 | ⟨z1, z2⟩
          all_goals
            go_wp2_with fail
            refine HC.out.mono ?_
            clear HC
            rintro e w6 ⟨rfl, hb6⟩
            have HFIN : Hid (Below W.heap.size W w6) := Lib.hid (HB.out.trans (hb6.mono HB.out.size))
            clear hb6
            go_wp2_with fail
            go_ret
            exact ⟨rfl, HFIN.out⟩
end Go.Proofs.Ytdcnfdhhflmdcaa
