/- The reference's log: Try. -/
import Derived.Test.YtdcnfdhhflmdcaaLogB
import Derived.Test.YtdcnfdhhflmdcaaEntX
import Derived.Deep.RegionLaw
import Derived.Deep.DrawnRows
import Derived.Deep.DeepCutAuto
import Derived.Deep.CutBlock
namespace Go.Proofs.Ytdcnfdhhflmdcaa
open Go.RowKit
set_option linter.unusedSimpArgs false
set_option linter.unusedVariables false
attribute [local go_sem ↓] Go.wp_at_zero Go.wp_at_succ

/-- what the trimming leaves -/
def CutT (w : World) (R : (Int × Int × Int) × List Ent) (X b t : Int) (l : List Ent) (s1 s2 s3 : Value) : Prop :=
  ∃ (P Tm : Int) (A1 : Option Addr) (c1 : Nat) (qs : List MEnt), s1 = .int .i64 P ∧ s2 = .int .i64 Tm ∧ s3 = .slice A1 qs.length c1 ∧ Ents w w.heap.size A1 qs.length qs ∧ (∀ m ∈ qs, SmallE m) ∧ qs.length ≤ 977343669134 ∧ qs.length ≤ c1 ∧ 0 ≤ P ∧ X = P + qs.length ∧ X ≤ 1099511627776 ∧ R = tailR X b t l P Tm (es qs)
theorem conf_of (b t : Int) (l : List Ent) (i : Int) : termE b l (i + 1) = 0 → b ≤ i + 1 ∧ i + 1 ≤ b + l.length := fun h => termE_zero.1 h
section
variable {T : TypeId} {wz w' w1 w2 : World} {d J n k c c3 c1 g : Nat} {A A1 A3 : Option Addr} {b t : Int} {ms ns qs : List MEnt}
theorem rt_fresh (v : World) : (v.alloc (.cells #[] 37)).ownsRow 0 37 13 (.slice (some ⟨v.heap.size, 0, none⟩) 0 0) 0 [] := World.ownsRow_made v #[] 0 (Nat.zero_le _) (by simp [maxLen]) rfl
theorem rt_src (hG : Lg T wz d A c b t ms) (hJ : J ≤ ms.length) (hb : Below wz.heap.size wz w') : Src Try.prog 13 41 (.slice A J c) J (mc (ms.take J)) w' := by
  have h := (((hG.own.ents).below hb).take hJ).row
  rw [List.length_take, Nat.min_eq_left hJ] at h
  exact Src.ofReads (P := Try.prog) Try.underlying41 (c := c) h (mc_one _)
theorem rt_cells (hG : Lg T wz d A c b t ms) (hb : Below wz.heap.size wz w') : w'.cell? ⟨d, 0, none⟩ = some (.int .i64 b) ∧ w'.cell? ⟨d, 2, none⟩ = some (.slice A ms.length c) ∧ w'.frozen? ⟨d, 2, none⟩ = false :=
  ⟨(hG.below hb).blk.cell 0, (hG.below hb).blk.cell 2, (hG.below hb).blk.frozen 2⟩
theorem rt_term {P : Int} (hJ : P + (k : Int) - b = (J : Int)) (hJ1 : J < ms.length) : termV b t (es ms) (P + 1 + k) = (gme ms J).e.term := by
  have hl := es_len ms
  unfold termV
  rw [if_neg (by omega), if_neg (by omega), if_neg (by omega), show (P + 1 + (k : Int) - b - 1).toNat = J by omega, List.getD_eq_getElem?_getD, List.getElem?_eq_getElem (by rw [hl]; exact hJ1), Option.getD_some, es_at hJ1]
theorem rt_own {B : Nat} (h : OwnE w1 B A3 c3 ns) (hn : ns.length = n) : Src Try.prog 13 41 (.slice A3 n c3) n (mc ns) w1 := by
  subst hn
  exact Src.ofReads (P := Try.prog) Try.underlying41 (c := c3) (Reads.of_own h.row) (mc_one ns)
/-- ahead of the second append -/
def AtD (wz wD : World) (A4 : Option Addr) (c4 : Nat) (A3 : Option Addr) (c3 : Nat) (ns : List MEnt) (J : Nat) (row : List Value) : Prop :=
  Below wz.heap.size wz wD ∧ wD.ownsRow 0 37 13 (.slice A4 J c4) J row ∧ (∀ x ∈ ob A4, wz.heap.size ≤ x) ∧ OwnE wD wz.heap.size A3 c3 ns ∧ (∀ x ∈ fpE A3 ns, x ∉ ob A4)
variable {wb v wD w9 : World} {A4 A9 : Option Addr} {c4 c9 B3 : Nat} {row : List Value}
theorem rt_abc (hbB : Below wz.heap.size wz wb) (hown : wb.ownsRow 0 37 13 (.slice A4 J c4) J row) (hf : ∀ x ∈ ob A4, wz.heap.size ≤ x) (hO3 : OwnE w1 wb.heap.size A3 c3 ns) (hb1 : Below wb.heap.size wb w1) : AtD wz w1 A4 c4 A3 c3 ns J row :=
  ⟨hbB.trans (hb1.mono hbB.size), (Kept.of_below (S := []) hb1).own hown (by simp), hf, hO3.more hbB.size, fun x hx h4 => by have := hO3.low x hx; have := own_lt hown x h4; omega⟩
theorem rt_b (hbv : Below wz.heap.size wz v) (hO3 : OwnE v B3 A3 c3 ns) (hB3 : wz.heap.size ≤ B3) (hg : wz.heap.size ≤ g) (hgn : g ∉ fpE A3 ns) (hk : Kept (ob (some ⟨g, 0, none⟩)) v wb)
    (hf : ∀ x ∈ ob A4, x ∈ ob (some ⟨g, 0, none⟩) ∨ v.heap.size ≤ x) (hown : wb.ownsRow 0 37 13 (.slice A4 J c4) J row) : AtD wz wb A4 c4 A3 c3 ns J row := by
  have hgs : ∀ x ∈ ob (some (⟨g, 0, none⟩ : Addr)), x = g := fun x hx => by simpa [ob] using hx
  refine ⟨hbv.trans (hk.below (by exact hbv.size) (fun x hx => by rw [hgs x hx]; exact hg)), hown, fun x hx => ?_, (hO3.kept hk (fun x hx h => hgn (by rw [← hgs x h]; exact hx))).more hB3, fun x hx h4 => ?_⟩
  · rcases hf x hx with h | h
    · rw [hgs x h]; exact hg
    · exact Nat.le_trans hbv.size h
  · rcases hf x h4 with h | h
    · exact hgn (by rw [← hgs x h]; exact hx)
    · have := hO3.lt x hx; omega
theorem rt_a (hbv : Below wz.heap.size wz v) (hk : Kept (ob (some ⟨wz.heap.size, 0, none⟩)) v wb) (hf : ∀ x ∈ ob A4, x ∈ ob (some ⟨wz.heap.size, 0, none⟩) ∨ v.heap.size ≤ x) :
    Below wz.heap.size wz wb ∧ ∀ x ∈ ob A4, wz.heap.size ≤ x := by
  have hgs : ∀ x ∈ ob (some (⟨wz.heap.size, 0, none⟩ : Addr)), x = wz.heap.size := fun x hx => by simpa [ob] using hx
  refine ⟨hbv.trans (hk.below hbv.size (fun x hx => by rw [hgs x hx]; exact Nat.le_refl _)), fun x hx => ?_⟩
  rcases hf x hx with h | h
  · rw [hgs x h]; exact Nat.le_refl _
  · exact Nat.le_trans hbv.size h
theorem rt_out (h : OwnE w1 (wz.drew.alloc (.cells #[] 37)).heap.size A3 c3 ns) : wz.drew.heap.size ∉ fpE A3 ns := fun hx => by
  have := h.low _ hx
  rw [World.size_alloc] at this
  omega
theorem rt_d (hG : Lg T wz d A c b t ms) (h : AtD wz wD A4 c4 A3 c3 ns J row) (hk : Kept (ob A4) wD w9) (hf : ∀ x ∈ ob A9, x ∈ ob A4 ∨ wD.heap.size ≤ x) :
    Below wz.heap.size wz w9 ∧ (∀ m ∈ ns, OwnF w9 wz.heap.size m) ∧ (∀ x ∈ ob A9, wz.heap.size ≤ x) ∧ w9.cell? ⟨d, 2, none⟩ = some (.slice A ms.length c) ∧ w9.frozen? ⟨d, 2, none⟩ = false := by
  obtain ⟨hb, hown, hf4, hO, hd⟩ := h
  have hb9 : Below wz.heap.size wz w9 := hb.trans (hk.below hb.size hf4)
  exact ⟨hb9, (hO.kept hk hd).fine, fun x hx => (hf x hx).elim (hf4 x) (fun h => Nat.le_trans hb.size h), (hG.below hb9).blk.cell 2, (hG.below hb9).blk.frozen 2⟩
theorem rt_end {w : World} (hG : Lg 74 w d A c b t ms) (hz : Below w.heap.size w wz) (hJ : J ≤ ms.length) (hn : ns.length = qs.length - k) (hm : ns.map (·.e) = (qs.drop k).map (·.e)) (hlen : J + (qs.length - k) ≤ 512) (hroom : b + J + ((qs.length - k : Nat) : Int) ≤ 1099511627776)
    (hsm : ∀ m ∈ qs.drop k, SmallE m) (hb9 : Below wz.heap.size wz w9) (hof : ∀ m ∈ ns, OwnF w9 wz.heap.size m) (hf : ∀ x ∈ ob A9, wz.heap.size ≤ x) (hown : w9.ownsRow 0 37 13 (.slice A9 (J + (qs.length - k)) c9) (J + (qs.length - k)) (mc (ms.take J ++ ns))) :
    ∃ F', IsLog 74 (w9.setCell ⟨d, 2, none⟩ (.slice A9 (J + (qs.length - k)) c9)) d F' b t ((es ms).take J ++ (es qs).drop k) ∧ Moves (fpL d A ms) F' w (w9.setCell ⟨d, 2, none⟩ (.slice A9 (J + (qs.length - k)) c9)) := by
  have hsz : w.heap.size ≤ wz.heap.size := hz.size
  have hlg := lg_try (w3 := w9) hn (by decide) hG hJ (hz.trans (hb9.mono hsz)) (fun m hm => (hof m hm).more hsz) (Below.refl _ _) hown (fun y hy => Nat.le_trans hsz (hf y hy)) hlen hroom (small_of hm hsm)
  rw [show es ns = (es qs).drop k by rw [← es_drop]; exact hm] at hlg
  exact hlg
theorem rt_copies {A2 : Option Addr} {cq m : Nat} (hE : Ents wz wz.heap.size A2 qs.length qs) (hs : SmallL qs) (hm : qs.length = m) (hb : Below wz.heap.size wz w') : Calls Try.prog 36 #[.slice A2 m cq] w' fun e w'' =>
    ∃ A3 c3 ns, e = .returned (.slice A3 m c3) ∧ ns.map (·.e) = qs.map (·.e) ∧ ns.length = m ∧ OwnE w'' w'.heap.size A3 c3 ns ∧ Below w'.heap.size w' w'' := by
  subst hm
  refine (copies_any A2 cq qs w' ((hE.below hb).more hb.size) hs).mono ?_
  rintro e w'' ⟨A3, c3, ns, rfl, hm, hO, hb2⟩
  exact ⟨A3, c3, ns, rfl, hm, by have := congrArg List.length hm; simpa using this, hO, hb2⟩
end
set_option maxHeartbeats 8000000 in
set_option maxRecDepth 100000 in
theorem rtry_any (d : Nat) (F : List Nat) (b t : Int) (l : List Ent) (prev term : Int) (A0 : Option Addr) (c0 : Nat) (ps : List MEnt) (w : World) (hL : IsLog 74 w d F b t l) (hE : Ents w w.heap.size A0 ps.length ps) (hs : SmallL ps) (hc0 : ps.length ≤ c0) :
    Calls Try.prog 26 #[.pointer (some ⟨d, 0, none⟩), .int .i64 prev, .int .i64 term, .slice A0 ps.length c0] w (TryEnds 74 d F b t (tryR b t l prev term (es ps)) w) := by
  obtain ⟨A, c, ms, hG, rfl, rfl⟩ := hL
  have HG := Lib.hid hG
  have HUN : Hid (∀ w', Below w.heap.size w w' → ∃ F', IsLog 74 w' d F' b t (es ms) ∧ Moves (fpL d A ms) F' w w') := Lib.hid (fun w' h => ⟨_, ⟨A, c, ms, HG.out.below h, rfl, rfl⟩, ⟨Kept.of_below h, fun k hk => .inl hk⟩⟩)
  have HCp := Lib.hid (fun w => rcount_any prev w)
  have HCt := Lib.hid (fun w => rcount_any term w)
  have hpn : ps.length ≤ 977343669134 := by have := hs.1; omega
  have HRi := Lib.hid (rrises_any term A0 c0 _ ps w hE (by omega))
  have HE := Lib.hid hE
  have HS := Lib.hid hs.2
  have hel := es_len ps
  have hb0 := hG.b0
  have hb1 := hG.b1
  have hfew := hG.few
  obtain ⟨hcl, hcm⟩ := own_cap hG.own.row
  have HR0 : Hid (tryOk prev term (es ps) = (cntB prev && cntB term && riseB term (es ps) && decide ((ps.length : Int) ≤ 1099511627776 - prev))) := Lib.hid (by unfold tryOk; rw [hel])
  have HB0 : Hid (tryOk prev term (es ps) = false → tryR b t (es ms) prev term (es ps) = ((0, 0, 2), es ms)) := Lib.hid (fun h => by unfold tryR; rw [if_pos h])
  clear hs hE hG
  cases h1 : cntB prev with
  | false =>
    rw [h1] at HCp HR0
    have HR := Lib.hid (HB0.out HR0.out)
    clear h1 hel
    go_enter Try.func26, Try.ntmps26
    go_wp2_with fail
    refine (HCp.out _).mono ?_
    rintro e w' ⟨rfl, rfl⟩
    go_wp2
    refine bodyPost_ret (results_tmp3 rfl _ _ _) rfl ?_
    unfold TryEnds
    rw [HR.out]
    exact ⟨rfl, HUN.out _ (Below.refl _ _)⟩
  | true =>
  have hp0 : 0 ≤ prev ∧ prev ≤ 1099511627776 := by unfold cntB at h1; exact of_decide_eq_true h1
  obtain ⟨hp0, hp1⟩ := hp0
  rw [h1] at HCp HR0
  cases h2 : cntB term with
  | false =>
    rw [h2] at HCt HR0
    have HR := Lib.hid (HB0.out HR0.out)
    clear h1 h2 hel
    go_enter Try.func26, Try.ntmps26
    go_wp2_with fail
    refine (HCp.out _).mono ?_
    rintro e w' ⟨rfl, rfl⟩
    go_wp2_with fail
    refine (HCt.out _).mono ?_
    rintro e w' ⟨rfl, rfl⟩
    go_wp2
    refine bodyPost_ret (results_tmp3 rfl _ _ _) rfl ?_
    unfold TryEnds
    rw [HR.out]
    exact ⟨rfl, HUN.out _ (Below.refl _ _)⟩
  | true =>
  rw [h2] at HCt HR0
  cases h3 : riseB term (es ps) with
  | false =>
    rw [h3] at HRi HR0
    have HR := Lib.hid (HB0.out HR0.out)
    clear h1 h2 h3 hel
    go_enter Try.func26, Try.ntmps26
    go_wp2_with fail
    refine (HCp.out _).mono ?_
    rintro e w' ⟨rfl, rfl⟩
    go_wp2_with fail
    refine (HCt.out _).mono ?_
    rintro e w' ⟨rfl, rfl⟩
    go_wp2_with fail
    refine HRi.out.mono ?_
    rintro e w' ⟨rfl, q0, rfl⟩
    have hbx := below_drewN (Below.refl w.heap.size w) q0
    go_wp2
    refine bodyPost_ret (results_tmp3 rfl _ _ _) rfl ?_
    unfold TryEnds
    rw [HR.out]
    exact ⟨rfl, HUN.out _ hbx⟩
  | true =>
  rw [h3] at HRi HR0
  clear h1 h2 h3
  by_cases h4 : (ps.length : Int) ≤ 1099511627776 - prev
  rotate_left
  · rw [decide_eq_false h4] at HR0
    have HR := Lib.hid (HB0.out HR0.out)
    have z4 : decide (1099511627776 - prev < (ps.length : Int)) = true := decide_eq_true (by omega)
    clear hel h4
    go_enter Try.func26, Try.ntmps26
    go_wp2_with fail
    refine (HCp.out _).mono ?_
    rintro e w' ⟨rfl, rfl⟩
    go_wp2_with fail
    refine (HCt.out _).mono ?_
    rintro e w' ⟨rfl, rfl⟩
    go_wp2_with fail
    refine HRi.out.mono ?_
    rintro e w' ⟨rfl, q0, rfl⟩
    have hbx := below_drewN (Below.refl w.heap.size w) q0
    go_wp2
    refine bodyPost_ret (results_tmp3 rfl _ _ _) rfl ?_
    unfold TryEnds
    rw [HR.out]
    exact ⟨rfl, HUN.out _ hbx⟩
  rw [decide_eq_true h4] at HR0
  have z4 : decide (1099511627776 - prev < (ps.length : Int)) = false := decide_eq_false (by omega)
  have HB1 : Hid (tryR b t (es ms) prev term (es ps) = if prev < b then (if prev + ps.length ≤ b then ((prev + ps.length, 0, 0), es ms) else if ((es ps).getD (b - prev).toNat ent0).term < t then ((0, 0, 2), es ms) else tailR (prev + ps.length) b t (es ms) b t ((es ps).drop (b - prev).toNat)) else tailR (prev + ps.length) b t (es ms) prev term (es ps)) := Lib.hid (by
    unfold tryR
    rw [if_neg (by rw [HR0.out]; decide), hel])
  clear HB0 HR0
  go_enter Try.func26, Try.ntmps26
  go_wp2_with fail
  refine (HCp.out _).mono ?_
  rintro e w' ⟨rfl, rfl⟩
  go_wp2_with fail
  refine (HCt.out _).mono ?_
  rintro e w' ⟨rfl, rfl⟩
  go_wp2_with fail
  refine HRi.out.mono ?_
  rintro e w' ⟨rfl, q0, rfl⟩
  obtain ⟨wx, hwx⟩ : ∃ wx, wx = w.drewN q0 := ⟨_, rfl⟩
  have hbx : Below w.heap.size w wx := by rw [hwx]; exact below_drewN (Below.refl w.heap.size w) q0
  rw [← hwx]
  have HBX := Lib.hid hbx
  have v0 : wx.cell? ⟨d, 0, none⟩ = some (.int .i64 b) := (HG.out.below hbx).blk.cell 0
  have v1 : wx.cell? ⟨d, 1, none⟩ = some (.int .i64 t) := (HG.out.below hbx).blk.cell 1
  clear hwx hbx
  go_upto_if 48 with fail
  go_cut [1, 2, 3] (fun s1 s2 s3 wy => CutT w (tryR b t (es ms) prev term (es ps)) (prev + (ps.length : Int)) b t (es ms) s1 s2 s3 ∧ wy = wx)
  case first =>
    by_cases h5 : prev < b
    · have z5 : decide (prev < b) = true := decide_eq_true h5
      by_cases h6 : prev + ps.length ≤ b
      · have HR : Hid (tryR b t (es ms) prev term (es ps) = ((prev + ps.length, 0, 0), es ms)) := Lib.hid (by rw [HB1.out, if_pos h5, if_pos h6])
        have z6 : decide (prev + (ps.length : Int) ≤ b) = true := decide_eq_true h6
        clear hel h4
        go_wp2
        refine bodyPost_ret (results_tmp3 rfl _ _ _) rfl ?_
        unfold TryEnds
        rw [HR.out]
        exact ⟨rfl, HUN.out _ HBX.out⟩
      · obtain ⟨k0, hk0⟩ := Int.eq_ofNat_of_zero_le (show 0 ≤ b - prev by omega)
        obtain rfl : prev = b - k0 := by omega
        have hk0l : k0 < ps.length := by omega
        have z6 : decide (b - (k0 : Int) + (ps.length : Int) ≤ b) = false := decide_eq_false h6
        obtain ⟨b1, off0, rfl, hb1l, hcc⟩ := HE.out.at_ hk0l
        have g0 := hcc 0 _ rfl
        rw [Nat.add_zero] at g0
        have hEq := HE.out.cut (k := k0) (by omega) hc0
        rw [if_neg (by omega), Option.map_some, Addr.add_lit] at hEq
        obtain ⟨qs, hqs⟩ : ∃ qs, qs = ps.drop k0 := ⟨_, rfl⟩
        obtain ⟨tx, htx⟩ : ∃ tx, tx = (gme ps k0).e.term := ⟨_, rfl⟩
        have HRR : Hid (tryR b t (es ms) (b - (k0 : Int)) term (es ps) = if tx < t then ((0, 0, 2), es ms) else tailR (b - (k0 : Int) + ps.length) b t (es ms) b t (es qs)) := Lib.hid (by
          rw [HB1.out, if_pos h5, if_neg h6, show (b - (b - (k0 : Int))).toNat = k0 by omega, hqs, es_drop, List.getD_eq_getElem?_getD, List.getElem?_eq_getElem (by rw [hel]; exact hk0l), Option.getD_some, es_at hk0l, htx])
        rw [← hqs] at hEq
        rw [← htx] at g0
        have hql : qs.length = ps.length - k0 := by rw [hqs, List.length_drop]
        have HSq : Hid (∀ m ∈ qs, SmallE m) := Lib.hid (fun m hm => HS.out m (by rw [hqs] at hm; exact List.mem_of_mem_drop hm))
        have g0x := (HBX.out.cell (p := ⟨b1, off0 + k0 * 13, none⟩) hb1l).trans g0
        have HCT : Hid (tx < t ∨ CutT w (tryR b t (es ms) (b - (k0 : Int)) term (es ps)) (b - (k0 : Int) + (ps.length : Int)) b t (es ms) (.int .i64 b) (.int .i64 t) (.slice (some ⟨b1, off0 + k0 * 13, none⟩) (ps.length - k0) (c0 - k0))) := Lib.hid (by
          by_cases h7 : tx < t
          · exact .inl h7
          · refine .inr ⟨b, t, _, c0 - k0, qs, rfl, rfl, by rw [hql], hEq, HSq.out, by omega, by omega, hb0, by omega, by omega, ?_⟩
            rw [HRR.out, if_neg h7])
        have e0 : b - (b - (k0 : Int)) = (k0 : Int) := by omega
        have k0L : (0 : Int) ≤ (k0 : Int) := by omega
        have k0U : (k0 : Int) ≤ (ps.length : Int) := by omega
        have hk0p : 0 < ps.length - k0 := by omega
        clear hk0 hk0l hcc htx hqs hEq hql HB1 h4 hel g0 HSq
        by_cases h7 : tx < t
        · rw [if_pos h7] at HRR
          have z7 : decide (tx < t) = true := decide_eq_true h7
          clear HCT
          go_wp2
          refine bodyPost_ret (results_tmp3 rfl _ _ _) rfl ?_
          unfold TryEnds
          rw [HRR.out]
          exact ⟨rfl, HUN.out _ HBX.out⟩
        · have HCT := Lib.hid (HCT.out.resolve_left h7)
          have z7 : decide (tx < t) = false := decide_eq_false h7
          clear HRR
          go_wp2_with fail
          go_meet
          exact ⟨HCT.out, rfl⟩
    · have z5 : decide (prev < b) = false := decide_eq_false h5
      have HCT : Hid (CutT w (tryR b t (es ms) prev term (es ps)) (prev + (ps.length : Int)) b t (es ms) (.int .i64 prev) (.int .i64 term) (.slice A0 ps.length c0)) := Lib.hid ⟨prev, term, A0, c0, ps, rfl, rfl, rfl, HE.out, HS.out, hpn, hc0, hp0, rfl, by omega, by rw [HB1.out, if_neg h5]⟩
      clear HB1 h4 hel
      go_wp2_with fail
      go_meet
      exact ⟨HCT.out, rfl⟩
  case rest =>
    obtain ⟨⟨P, Tm, A1, c1, qs, rfl, rfl, rfl, hE1, hS1, hq1, hqc, hP0, hX, hX1, hRR⟩, hwy⟩ := hcut
    have hwy := hwy.symm
    subst hwy
    have HTR := Lib.hid hRR
    unfold tailR at HTR
    have HQ := Lib.hid hE1
    have HSq := Lib.hid hS1
    have HX := Lib.hid hX
    have HX1 := Lib.hid hX1
    have hel2 : (es qs).length = qs.length := es_len qs
    have hPU : P + (qs.length : Int) ≤ 1099511627776 := by omega
    clear hE1 hS1 hRR hX hX1 HB1 hel h4 z4
    have HTp := Lib.hid (rterm_any d b t A c ms P wx (HG.out.below HBX.out).ref_)
    unfold TermEnds at HTp
    obtain ⟨E1, hE1⟩ : ∃ E1, E1 = termE b (es ms) P := ⟨_, rfl⟩
    obtain ⟨V1, hV1⟩ : ∃ V1, V1 = termV b t (es ms) P := ⟨_, rfl⟩
    rw [← hE1, ← hV1] at HTp HTR
    have HE1 := Lib.hid hE1
    clear hE1 hV1
    go_wp2_with fail
    refine HTp.out.mono ?_
    rintro e w' ⟨rfl, q1, rfl⟩
    have HBq1 := Lib.hid (below_drewN HBX.out q1)
    by_cases hE1 : E1 = 0
    rotate_left
    · rw [if_pos (fun h => hE1 h.1)] at HTR
      have z9 : (E1 != 0) = true := bne_iff_ne.2 hE1
      go_wp2
      refine bodyPost_ret (results_tmp3 rfl _ _ _) rfl ?_
      unfold TryEnds
      rw [HTR.out]
      exact ⟨rfl, HUN.out _ HBq1.out⟩
    obtain rfl := hE1
    by_cases hV1 : V1 = Tm
    rotate_left
    · rw [if_pos (fun h => hV1 h.2)] at HTR
      have z9 : (V1 != Tm) = true := bne_iff_ne.2 hV1
      go_wp2
      refine bodyPost_ret (results_tmp3 rfl _ _ _) rfl ?_
      unfold TryEnds
      rw [HTR.out]
      exact ⟨rfl, HUN.out _ HBq1.out⟩
    obtain rfl := hV1
    rw [if_neg (fun h => h ⟨rfl, rfl⟩), hel2] at HTR
    have HLA := Lib.hid (rlast_any d b t A c ms (wx.drewN q1) (HG.out.below HBq1.out).ref_)
    unfold LastEnds at HLA
    obtain ⟨la, hla⟩ : ∃ la, la = lastI b (es ms) := ⟨_, rfl⟩
    obtain ⟨lt, hlt⟩ : ∃ lt, lt = lastT b t (es ms) := ⟨_, rfl⟩
    rw [← hla, ← hlt] at HLA
    have HLAV := Lib.hid (show la = b + (ms.length : Int) by rw [hla]; unfold lastI; rw [es_len])
    clear hla hlt
    go_wp2_with fail
    refine HLA.out.mono ?_
    rintro e w' ⟨rfl, q2, rfl⟩
    obtain ⟨wv, hwv⟩ : ∃ wv, wv = (wx.drewN q1).drewN q2 := ⟨_, rfl⟩
    have HBv := Lib.hid (show Below w.heap.size w wv by rw [hwv]; exact below_drewN HBq1.out q2)
    rw [← hwv]
    clear hwv
    go_wp2_with fail
    go_loopw [16] (TryRel b t (es ms) P (es qs) w) (fun i _ => qs.length - (intOf i).toNat)
    case atStart => exact ⟨0, rfl, Nat.zero_le _, by simp, by simpa using HE1.out.symm, HBv.out⟩
    case round =>
      obtain ⟨k, rfl, hk, hC, hpv, hb⟩ := hrel
      rw [es_len] at hk
      by_cases hlt : k < qs.length
      · obtain ⟨b1, off, hA1, hb1l, hcc⟩ := HQ.out.at_ hlt
        subst hA1
        have g0a := (hb.cell (p := ⟨b1, off + k * 13 + 0, none⟩) hb1l).trans (hcc 0 _ rfl)
        rw [Nat.add_zero] at g0a
        rw [conf_at (by rw [es_len]; exact hlt), es_at hlt] at hC
        obtain ⟨x, hx⟩ : ∃ x, x = (gme qs k).e.term := ⟨_, rfl⟩
        rw [← hx] at hC
        have g0 : wr.cell? ⟨b1, off + k * 13, none⟩ = some (.int .i64 x) := by rw [hx]; exact g0a
        have HC := Lib.hid hC
        have HPV := Lib.hid (termE_zero.1 hpv)
        have HBr := Lib.hid hb
        have y0 : wr.cell? ⟨d, 0, none⟩ = some (.int .i64 b) := (HG.out.below hb).blk.cell 0
        have y2 : wr.cell? ⟨d, 2, none⟩ = some (.slice A ms.length c) := (HG.out.below hb).blk.cell 2
        clear hC hpv hcc hx hb g0a
        have kL : (0 : Int) ≤ (k : Int) := by omega
        have kU : (k : Int) < (qs.length : Int) := by omega
        have hPb := HPV.out.1
        have hPl := HPV.out.2
        rw [es_len] at hPl
        obtain ⟨J, hJ⟩ := Int.eq_ofNat_of_zero_le (show 0 ≤ P + (k : Int) - b by omega)
        have hJl : J ≤ ms.length := by omega
        have HJ := Lib.hid hJ
        have eJ : P + 1 + (k : Int) - b - 1 = (J : Int) := by omega
        have jL : (0 : Int) ≤ (J : Int) := by omega
        clear hPb hPl hJ
        by_cases hmm : J < ms.length ∧ termV b t (es ms) (P + 1 + k) = x
        · obtain ⟨hJ1, hvx⟩ := hmm
          have hTE : termE b (es ms) (P + 1 + k) = 0 := termE_zero.2 (by rw [es_len]; have := HJ.out; omega)
          rw [if_pos ⟨hTE, hvx⟩] at HC
          have HTE := Lib.hid hTE
          obtain ⟨b2, off2, hA2, hb2l, hcc⟩ := HG.out.own.ents.at_ hJ1
          have g1a := (HBr.out.cell (p := ⟨b2, off2 + J * 13 + 0, none⟩) hb2l).trans (hcc 0 _ rfl)
          rw [Nat.add_zero] at g1a
          have hxe : (gme ms J).e.term = x := by rw [← hvx]; exact (rt_term HJ.out hJ1).symm
          have g1 : wr.cell? ⟨b2, off2 + J * 13, none⟩ = some (.int .i64 x) := by rw [← hxe]; exact g1a
          have y2n : wr.cell? ⟨d, 2, none⟩ = some (.slice (some ⟨b2, off2, none⟩) ms.length c) := by rw [← hA2]; exact y2
          have jU : (J : Int) < (ms.length : Int) := by omega
          have z6 : decide (P + 1 + (k : Int) ≤ la) = true := decide_eq_true (by rw [HLAV.out]; have := HJ.out; omega)
          have h6 : P + 1 + (k : Int) ≤ la := of_decide_eq_true z6
          clear hcc hvx hTE hxe hA2 y2 g1a
          go_wp2
          go_quiet (fail)
          go_wp2
          go_roundw
          case rel => exact ⟨k + 1, by go_num, by rw [es_len]; omega, by rw [HC.out]; rw [show P + 1 + (k : Int) + 1 = P + 1 + ((k + 1 : Nat) : Int) by omega]; omega, by rw [show P + ((k + 1 : Nat) : Int) = P + 1 + (k : Int) by omega]; exact HTE.out, below_drewN HBr.out _⟩
          case measure => simp [intOf]; omega
        · have hno : ¬ (termE b (es ms) (P + 1 + k) = 0 ∧ termV b t (es ms) (P + 1 + k) = x) := fun h => hmm ⟨by have := (termE_zero.1 h.1).2; rw [es_len] at this; have := HJ.out; omega, h.2⟩
          rw [if_neg hno, Nat.add_zero] at HC
          rw [HC.out, if_neg (by omega)] at HTR
          have HMM : Hid (J < ms.length → (gme ms J).e.term ≠ x) := Lib.hid (fun hJ1 h => hmm ⟨hJ1, by rw [← h]; exact rt_term HJ.out hJ1⟩)
          clear hno hmm HC
          go_upto_if 130 with fail
          go_cut [130] (fun s130 wy => s130 = .bool false ∧ ∃ q, wy = wr.drewN q)
          case first =>
            by_cases hJ1 : J < ms.length
            · have hne := HMM.out hJ1
              obtain ⟨b2, off2, hA2, hb2l, hcc⟩ := HG.out.own.ents.at_ hJ1
              have g1a := (HBr.out.cell (p := ⟨b2, off2 + J * 13 + 0, none⟩) hb2l).trans (hcc 0 _ rfl)
              rw [Nat.add_zero] at g1a
              obtain ⟨x2, hx2⟩ : ∃ x2, x2 = (gme ms J).e.term := ⟨_, rfl⟩
              have g1 : wr.cell? ⟨b2, off2 + J * 13, none⟩ = some (.int .i64 x2) := by rw [hx2]; exact g1a
              have z8 : (x2 == x) = false := beq_eq_false_iff_ne.2 (by rw [hx2]; exact hne)
              have y2n : wr.cell? ⟨d, 2, none⟩ = some (.slice (some ⟨b2, off2, none⟩) ms.length c) := by rw [← hA2]; exact y2
              have jU : (J : Int) < (ms.length : Int) := by omega
              have z6 : decide (P + 1 + (k : Int) ≤ la) = true := decide_eq_true (by rw [HLAV.out]; have := HJ.out; omega)
              have h6 : P + 1 + (k : Int) ≤ la := of_decide_eq_true z6
              clear hcc hA2 hx2 hne y2 g1a
              go_wp2
              go_quiet (fail)
              go_wp2
              go_meet
              exact ⟨rfl, _, rfl⟩
            · have z6 : decide (P + 1 + (k : Int) ≤ la) = false := decide_eq_false (by rw [HLAV.out]; have := HJ.out; omega)
              have h6 : ¬ P + 1 + (k : Int) ≤ la := of_decide_eq_false z6
              go_wp2
              go_quiet (fail)
              go_wp2
              go_meet
              exact ⟨rfl, _, rfl⟩
          case rest =>
            obtain ⟨rfl, q3, rfl⟩ := hcut
            obtain ⟨wz, hwz⟩ : ∃ wz, wz = wr.drewN q3 := ⟨_, rfl⟩
            have hbz : Below w.heap.size w wz := by rw [hwz]; exact below_drewN HBr.out q3
            rw [← hwz]
            clear hwz y0 y2 g0 HMM
            have y0 : wz.cell? ⟨d, 0, none⟩ = some (.int .i64 b) := (HG.out.below hbz).blk.cell 0
            have y2 : wz.cell? ⟨d, 2, none⟩ = some (.slice A ms.length c) := (HG.out.below hbz).blk.cell 2
            have HBZ := Lib.hid hbz
            have hXU := HX1.out
            by_cases h512 : 512 < prev + (ps.length : Int) - b
            · rw [if_pos (by have := HX.out; omega)] at HTR
              have z10 : decide (512 < prev + (ps.length : Int) - b) = true := decide_eq_true h512
              clear hbz
              go_wp2
              refine bodyPost_ret (results_tmp3 rfl _ _ _) rfl ?_
              unfold TryEnds
              rw [HTR.out]
              exact ⟨rfl, HUN.out _ HBZ.out⟩
            · rw [if_neg (by have := HX.out; omega), show (P + (k : Int) - b).toNat = J by have := HJ.out; omega] at HTR
              have z10 : decide (512 < prev + (ps.length : Int) - b) = false := decide_eq_false h512
              have hMM : J + (qs.length - k) ≤ 512 := by have := HX.out; have := HJ.out; omega
              have hroom : b + J + ((qs.length - k : Nat) : Int) ≤ 1099511627776 := by have := HX.out; have := HJ.out; have := HX1.out; omega
              have kU' : (k : Int) ≤ (qs.length : Int) := by omega
              have kC : (qs.length : Int) ≤ (c1 : Int) := by omega
              have jU : (J : Int) ≤ (c : Int) := by omega
              have hck : ∀ x y : Option Addr, (if c1 = k then x else y) = y := fun x y => if_neg (by omega)
              have HGz := Lib.hid (HG.out.below hbz)
              have hEc := ((HQ.out.below hbz).more hbz.size).cut (k := k) (by omega) (cap := c1) hqc
              rw [hck, Option.map_some, Addr.add_lit] at hEc
              have hdl : (qs.drop k).length = qs.length - k := List.length_drop
              have hSd : SmallL (qs.drop k) := SmallL.of (by rw [hdl]; omega) (fun m hm => HSq.out m (List.mem_of_mem_drop hm))
              have HC := Lib.hid (fun w' hb => rt_copies (w' := w') (cq := c1 - k) hEc hSd hdl hb)
              have hbD : Below wz.heap.size wz wz.drew := below_drewN (Below.refl _ _) 1
              have hbA : Below wz.heap.size wz (wz.drew.alloc (.cells #[] 37)) := hbD.trans (below_alloc wz.drew (.cells #[] 37))
              have hbA2 : Below wz.heap.size wz (wz.alloc (.cells #[] 37)).drew := hbA
              have yA0 : (wz.drew.alloc (.cells #[] 37)).cell? ⟨d, 0, none⟩ = some (.int .i64 b) := (rt_cells HGz.out hbA).1
              have yA2 : (wz.drew.alloc (.cells #[] 37)).cell? ⟨d, 2, none⟩ = some (.slice A ms.length c) := (rt_cells HGz.out hbA).2.1
              have yB0 : (wz.alloc (.cells #[] 37)).cell? ⟨d, 0, none⟩ = some (.int .i64 b) := yA0
              have yB2 : (wz.alloc (.cells #[] 37)).cell? ⟨d, 2, none⟩ = some (.slice A ms.length c) := yA2
              have hrowA := rt_fresh wz.drew
              have hsrcA := rt_src HGz.out hJl hbA
              obtain ⟨i0, hi0, hz0, hy0, hx0⟩ := info_parts Try.infoE
              clear hbz hEc hdl hSd
              have eJb : P + 1 + (k : Int) - b = (J : Int) + 1 := by have := HJ.out; omega
              have ew1 : IntKind.i64.wrap (P + 1 + (k : Int) - b) = (J : Int) + 1 := by rw [IntKind.wrap_i64] <;> omega
              have ew2 : IntKind.i64.wrap ((J : Int) + 1 - 1) = (J : Int) := by rw [IntKind.wrap_i64] <;> omega
              have ew3 : IntKind.i64.wrap (J : Int) = (J : Int) := by rw [IntKind.wrap_i64] <;> omega
              have ea1 : Option.map (fun x : Addr => x.add (0 * 13)) A = A := by cases A <;> simp [Addr.add]
              have ea2 : Option.map (fun x : Addr => x.add 0) A = A := by cases A <;> simp [Addr.add]
              have hPk : P + 1 + (k : Int) ≤ 1099511627776 := by omega
              clear eJ eJb
              go_wp2
              go_region_law
                (first
                  | (go_simp; go_at_call 36; first
                      | (have hh := HC.out _ hbB; refine hh.mono ?_; rintro e w1 ⟨A3, c3, ns, rfl, hm3, hn3, hO3, hb1⟩; have hAD : AtD wz w1 A4 c4 A3 c3 ns J (mc (ms.take J)) := (by refine rt_abc (wb := wb) ?_ ?_ ?_ ?_ ?_ <;> assumption); have hsD := rt_own hO3 hn3; have hownD := hAD.2.1; clear hh)
                      | (with_reducible refine (HC.out _ hbA).mono ?_; rintro e w1 ⟨A3, c3, ns, rfl, hm3, hn3, hO3, hb1⟩; have hbw := hbA.trans (hb1.mono hbA.size); obtain ⟨yC0, yC2, _⟩ := rt_cells HGz.out hbw; have hrowC := (Kept.of_below (S := []) hb1).own hrowA (by simp); have hsrcC := rt_src HGz.out hJl hbw)
                      | (with_reducible refine (HC.out _ hbA2).mono ?_; rintro e w1 ⟨A3, c3, ns, rfl, hm3, hn3, hO3, hb1⟩; have hbw := hbA.trans (hb1.mono hbA.size); obtain ⟨yC0, yC2, _⟩ := rt_cells HGz.out hbw; have hrowC := (Kept.of_below (S := []) hb1).own hrowA (by simp); have hsrcC := rt_src HGz.out hJl hbw)
                      | (with_reducible refine (HC.out _ hbD).mono ?_; rintro e w1 ⟨A3, c3, ns, rfl, hm3, hn3, hO3, hb1⟩; have hbw := hbD.trans (hb1.mono hbD.size); have hbE := hbw.alloc hbw.size (.cells #[] 37); obtain ⟨yC0, yC2, _⟩ := rt_cells HGz.out hbw; obtain ⟨yE0, yE2, _⟩ := rt_cells HGz.out hbE; have hrowE := rt_fresh w1; have hsrcE := rt_src HGz.out hJl hbE))
                  | (refine step_app rfl (.tmp 152) (.tmp 156) 41 41 (by rfl) 37 i0 (.agg #[.int .i64 0, .int .i64 0, .int .i64 0, .int .i64 0, .int .i64 0, .string ⟨#[]⟩, .int .i64 0, .slice none 0 0, .slice none 0 0, .int .i64 0, .int .i64 0, .int .i64 0, .int .i64 0]) 13 144 Try.underlying41 hi0 hz0 hy0 hx0 rfl (by omega) _ J _ (mc (ms.take J)) (by rfl) hownD (.slice _ (qs.length - k) _) (qs.length - k) _ (by rfl) hsD (by simp only [maxLen]; omega) (by omega) ?_; intro A9 c9 w9 hown9 hk9 hf9; obtain ⟨hb9, hof9, hf9z, y92, f92⟩ := rt_d HGz.out hAD hk9 hf9; rw [← mc_app] at hown9)
                  | (refine step_app rfl (.tmp 139) (.tmp 151) 41 41 (by rfl) 37 i0 (.agg #[.int .i64 0, .int .i64 0, .int .i64 0, .int .i64 0, .int .i64 0, .string ⟨#[]⟩, .int .i64 0, .slice none 0 0, .slice none 0 0, .int .i64 0, .int .i64 0, .int .i64 0, .int .i64 0]) 13 144 Try.underlying41 hi0 hz0 hy0 hx0 rfl (by omega) _ 0 0 [] (by rfl) hrowE (.slice A J c) J (mc (ms.take J)) (by rfl) hsrcE (by simp only [maxLen]; omega) (by omega) ?_; intro A4 c4 wb; rw [Nat.zero_add, List.nil_append]; intro hownB hkB hfB; have hAD := rt_b hbE (hO3.below (below_alloc w1 (.cells #[] 37))) hbD.size hbw.size (fun h => by have := hO3.lt _ h; omega) hkB hfB hownB; have hsD := rt_own hAD.2.2.2.1 hn3; have hownD := hAD.2.1)
                  | (refine step_app rfl (.tmp 139) (.tmp 151) 41 41 (by rfl) 37 i0 (.agg #[.int .i64 0, .int .i64 0, .int .i64 0, .int .i64 0, .int .i64 0, .string ⟨#[]⟩, .int .i64 0, .slice none 0 0, .slice none 0 0, .int .i64 0, .int .i64 0, .int .i64 0, .int .i64 0]) 13 144 Try.underlying41 hi0 hz0 hy0 hx0 rfl (by omega) _ 0 0 [] (by rfl) hrowC (.slice A J c) J (mc (ms.take J)) (by rfl) hsrcC (by simp only [maxLen]; omega) (by omega) ?_; intro A4 c4 wb; rw [Nat.zero_add, List.nil_append]; intro hownB hkB hfB; have hAD := rt_b hbw hO3 hbA.size (Nat.le_refl _) (rt_out hO3) hkB hfB hownB; have hsD := rt_own hAD.2.2.2.1 hn3; have hownD := hAD.2.1)
                  | (refine step_app rfl (.tmp 139) (.tmp 151) 41 41 (by rfl) 37 i0 (.agg #[.int .i64 0, .int .i64 0, .int .i64 0, .int .i64 0, .int .i64 0, .string ⟨#[]⟩, .int .i64 0, .slice none 0 0, .slice none 0 0, .int .i64 0, .int .i64 0, .int .i64 0, .int .i64 0]) 13 144 Try.underlying41 hi0 hz0 hy0 hx0 rfl (by omega) _ 0 0 [] (by rfl) hrowA (.slice A J c) J (mc (ms.take J)) (by rfl) hsrcA (by simp only [maxLen]; omega) (by omega) ?_; intro A4 c4 wb; rw [Nat.zero_add, List.nil_append]; intro hownB hkB hfB; obtain ⟨hbB, hfBz⟩ := rt_a hbA hkB hfB))
              all_goals
                go_wp2
                refine bodyPost_ret (results_tmp3 rfl _ _ _) rfl ?_
                unfold TryEnds
                rw [HTR.out]
                exact ⟨rfl, rt_end HG.out HBZ.out hJl hn3 hm3 hMM hroom (fun x hx => HSq.out x (List.mem_of_mem_drop hx)) hb9 hof9 hf9z hown9⟩
      · have hkk : k = qs.length := by omega
        have hC2 : conf b t (es ms) (P + 1) (es qs) = qs.length := by rw [hC, List.drop_of_length_le (by rw [es_len]; omega)]; simp [conf]; exact hkk
        rw [if_pos hC2] at HTR
        have HBr := Lib.hid hb
        clear hC hC2 hkk hb hpv
        go_wp2
        refine bodyPost_ret (results_tmp3 rfl _ _ _) rfl ?_
        unfold TryEnds
        rw [HTR.out]
        exact ⟨rfl, HUN.out _ HBr.out⟩
end Go.Proofs.Ytdcnfdhhflmdcaa
