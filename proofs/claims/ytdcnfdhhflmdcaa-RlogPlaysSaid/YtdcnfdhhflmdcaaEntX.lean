/- rlog: Try. -/
import Derived.Test.YtdcnfdhhflmdcaaEntW
namespace Go.Proofs.Ytdcnfdhhflmdcaa
open Go.RowKit
set_option linter.unusedSimpArgs false
set_option linter.unusedVariables false

def TryRel (b t : Int) (l : List Ent) (P : Int) (p : List Ent) (w : World) (i : Value) (wr : World) : Prop :=
  ∃ k : Nat, i = .int .i64 k ∧ k ≤ p.length ∧ conf b t l (P + 1) p = k + conf b t l (P + 1 + k) (p.drop k) ∧ termE b l (P + k) = 0 ∧ Below w.heap.size w wr
/-- a log: entries laid behind its first J -/
theorem lg_try {T : TypeId} {w w1 w3 : World} {d J : Nat} {A A3 : Option Addr} {c k3 : Nat} {b t : Int} {ms ns : List MEnt} {n : Nat} (hn : ns.length = n) (hT : 37 ≠ T ∧ 76 ≠ T ∧ 3 ≠ T) (hG : Lg T w d A c b t ms) (hJ : J ≤ ms.length)
    (hwb : Below w.heap.size w w1) (hns : ∀ m ∈ ns, OwnF w1 w.heap.size m) (hb3 : Below w1.heap.size w1 w3) (hown3 : w3.ownsRow 0 37 13 (.slice A3 (J + n) k3) (J + n) (mc (ms.take J ++ ns)))
    (hf3 : ∀ k ∈ ob A3, w.heap.size ≤ k) (hlen : J + n ≤ 512) (hroom : b + J + n ≤ 1099511627776) (hsm : ∀ m ∈ ns, SmallE m) :
    ∃ F', IsLog T (w3.setCell ⟨d, 2, none⟩ (.slice A3 (J + n) k3)) d F' b t ((es ms).take J ++ es ns) ∧ Moves (fpL d A ms) F' w (w3.setCell ⟨d, 2, none⟩ (.slice A3 (J + n) k3)) := by
  subst hn
  have hbw : Below w.heap.size w w3 := hwb.trans (hb3.mono hwb.size)
  have hl : (ms.take J ++ ns).length = J + ns.length := by rw [List.length_append, List.length_take, Nat.min_eq_left hJ]
  have hG3 := hG.below hbw
  have hfine : ∀ m ∈ ms.take J ++ ns, OwnF w3 0 m := fun m hm => by
    rcases List.mem_append.1 hm with h | h
    · exact hG3.own.fine m (List.mem_of_mem_take h)
    · exact ((hns m h).below hb3).more (Nat.zero_le _)
  have hfoot : ∀ k ∈ fpE A3 (ms.take J ++ ns), k ∈ fpE A ms ∨ w.heap.size ≤ k := fun k hk => by
    rcases List.mem_append.1 hk with h | h
    · exact .inr (hf3 k h)
    · rw [rows_app] at h
      rcases List.mem_append.1 h with h1 | h1
      · obtain ⟨m, hm, h2⟩ := mem_rows.1 h1
        exact .inl (List.mem_append.2 (.inr (mem_rows.2 ⟨m, List.mem_of_mem_take hm, h2⟩)))
      · obtain ⟨m, hm, h2⟩ := mem_rows.1 h1
        exact .inr (h2.elim ((hns m hm).fw k) ((hns m hm).fg k))
  have hd : d ∉ fpE A3 (ms.take J ++ ns) := fun hm => (hfoot d hm).elim (hG.far hT) (fun h => by have := hG.blk.lt; omega)
  have hbl := hG3.blk.set_ 2 (.slice A3 (J + ns.length) k3)
  have := lg_replace (A3 := A3) (c3 := k3) (b' := b) (t' := t) (ms3 := ms.take J ++ ns) (w4 := w3.setCell ⟨d, 2, none⟩ (.slice A3 (J + ns.length) k3)) hG hbw ⟨by rw [hl]; exact hown3, hfine, fun k _ => Nat.zero_le k⟩ hfoot hd
    ((Kept.refl [d] w3).setCell _ (.inl (List.mem_cons_self ..))) (by rw [hl]; exact hbl) hG.b0 (by rw [hl]; omega) (by rw [hl]; exact hlen)
    (fun m hm => (List.mem_append.1 hm).elim (fun h => hG.small m (List.mem_of_mem_take h)) (hsm m))
  rw [es_app, es_take] at this
  exact this
theorem small_of {ns qs : List MEnt} (hm : ns.map (·.e) = qs.map (·.e)) (hs : ∀ x ∈ qs, SmallE x) : ∀ m ∈ ns, SmallE m := fun m hm1 => by
  have h2 : m.e ∈ ns.map (·.e) := List.mem_map.2 ⟨m, hm1, rfl⟩
  rw [hm] at h2
  obtain ⟨x, hx, hxe⟩ := List.mem_map.1 h2
  have := hs x hx
  unfold SmallE at this ⊢
  rw [← hxe]
  exact this
theorem try_facts {T : TypeId} {wz w1 : World} {d J k c c3 : Nat} {A A3 : Option Addr} {b t : Int} {ms ns qs : List MEnt} (hG : Lg T wz d A c b t ms) (hJ : J ≤ ms.length) (hO3 : OwnE w1 wz.drew.heap.size A3 c3 ns) (hb1 : Below wz.drew.heap.size wz.drew w1) (hm : ns.map (·.e) = (qs.drop k).map (·.e)) :
    Blk w1 d T (logC b t A ms.length c) ∧ w1.cell? ⟨d, 2, none⟩ = some (.slice A ms.length c) ∧ Reads w1 wz.drew.heap.size 13 A J (mc (ms.take J)) ∧ ns.length = qs.length - k ∧ Src Try.prog 13 41 (.slice A3 (qs.length - k) c3) (qs.length - k) (mc ns) w1 := by
  have hnl : ns.length = qs.length - k := by have := congrArg List.length hm; simpa using this
  have hb : Below wz.heap.size wz w1 := (below_drewN (Below.refl _ _) 1).trans hb1
  have hGw := hG.below hb
  have hrA := (((hG.own.ents).below hb).take hJ).row
  rw [List.length_take, Nat.min_eq_left hJ] at hrA
  refine ⟨hGw.blk, hGw.blk.cell 2, hrA, hnl, ?_⟩
  have := Src.ofReads (P := Try.prog) Try.underlying41 (c := c3) (Reads.of_own hO3.row) (mc_one ns)
  rw [hnl] at this
  exact this
set_option maxHeartbeats 4000000 in
set_option maxRecDepth 100000 in
theorem try_any (d : Nat) (F : List Nat) (b t : Int) (l : List Ent) (prev term : Int) (A0 : Option Addr) (c0 : Nat) (ps : List MEnt) (w : World) (hL : IsLog 69 w d F b t l) (hE : Ents w w.heap.size A0 ps.length ps) (hs : SmallL ps) (hc0 : ps.length ≤ c0) :
    Calls Try.prog 13 #[.pointer (some ⟨d, 0, none⟩), .int .i64 prev, .int .i64 term, .slice A0 ps.length c0] w (TryEnds 69 d F b t (tryR b t l prev term (es ps)) w) := by
  obtain ⟨A, c, ms, hG, rfl, rfl⟩ := hL
  have HG := Lib.hid hG
  have HUN : Hid (∀ w', Below w.heap.size w w' → ∃ F', IsLog 69 w' d F' b t (es ms) ∧ Moves (fpL d A ms) F' w w') := Lib.hid (fun w' h => ⟨_, ⟨A, c, ms, HG.out.below h, rfl, rfl⟩, ⟨Kept.of_below h, fun k hk => .inl hk⟩⟩)
  have HCp := Lib.hid (fun w => count_any prev w)
  have HCt := Lib.hid (fun w => count_any term w)
  have hpn : ps.length ≤ 977343669134 := by have := hs.1; omega
  have HRi := Lib.hid (rising_any term A0 c0 ps w hE (by omega))
  have HE := Lib.hid hE
  have HS := Lib.hid hs.2
  have hel := es_len ps
  have hb0 := hG.b0
  have hb1 := hG.b1
  have hfew := hG.few
  obtain ⟨hcl, hcm⟩ := own_cap hG.own.row
  have HR0 : Hid (tryOk prev term (es ps) = (cntB prev && cntB term && riseB term (es ps) && decide ((ps.length : Int) ≤ 1099511627776 - prev))) := Lib.hid (by unfold tryOk; rw [hel])
  have HB0 : Hid (tryOk prev term (es ps) = false → tryR b t (es ms) prev term (es ps) = ((0, 0, 2), es ms)) := Lib.hid (fun h => by unfold tryR; rw [if_pos h])
  clear hs hE hG
  cases h1 : cntB prev with
  | false =>
    rw [h1] at HCp HR0
    have HR := Lib.hid (HB0.out HR0.out)
    clear h1 hel
    go_enter Try.func13, Try.ntmps13
    go_wp2_with fail
    refine (HCp.out _).mono ?_
    rintro e w' ⟨rfl, rfl⟩
    go_wp2
    refine bodyPost_ret (results_tmp3 rfl _ _ _) rfl ?_
    unfold TryEnds
    rw [HR.out]
    exact ⟨rfl, HUN.out _ (Below.refl _ _)⟩
  | true =>
  have hp0 : 0 ≤ prev ∧ prev ≤ 1099511627776 := by unfold cntB at h1; exact of_decide_eq_true h1
  obtain ⟨hp0, hp1⟩ := hp0
  rw [h1] at HCp HR0
  cases h2 : cntB term with
  | false =>
    rw [h2] at HCt HR0
    have HR := Lib.hid (HB0.out HR0.out)
    clear h1 h2 hel
    go_enter Try.func13, Try.ntmps13
    go_wp2_with fail
    refine (HCp.out _).mono ?_
    rintro e w' ⟨rfl, rfl⟩
    go_wp2_with fail
    refine (HCt.out _).mono ?_
    rintro e w' ⟨rfl, rfl⟩
    go_wp2
    refine bodyPost_ret (results_tmp3 rfl _ _ _) rfl ?_
    unfold TryEnds
    rw [HR.out]
    exact ⟨rfl, HUN.out _ (Below.refl _ _)⟩
  | true =>
  rw [h2] at HCt HR0
  cases h3 : riseB term (es ps) with
  | false =>
    rw [h3] at HRi HR0
    have HR := Lib.hid (HB0.out HR0.out)
    clear h1 h2 h3 hel
    go_enter Try.func13, Try.ntmps13
    go_wp2_with fail
    refine (HCp.out _).mono ?_
    rintro e w' ⟨rfl, rfl⟩
    go_wp2_with fail
    refine (HCt.out _).mono ?_
    rintro e w' ⟨rfl, rfl⟩
    go_wp2_with fail
    refine HRi.out.mono ?_
    rintro e wx ⟨rfl, hbx⟩
    go_wp2
    refine bodyPost_ret (results_tmp3 rfl _ _ _) rfl ?_
    unfold TryEnds
    rw [HR.out]
    exact ⟨rfl, HUN.out _ hbx⟩
  | true =>
  rw [h3] at HRi HR0
  clear h1 h2 h3
  by_cases h4 : (ps.length : Int) ≤ 1099511627776 - prev
  rotate_left
  · rw [decide_eq_false h4] at HR0
    have HR := Lib.hid (HB0.out HR0.out)
    have z4 : decide (1099511627776 - prev < (ps.length : Int)) = true := decide_eq_true (by omega)
    clear hel h4
    go_enter Try.func13, Try.ntmps13
    go_wp2_with fail
    refine (HCp.out _).mono ?_
    rintro e w' ⟨rfl, rfl⟩
    go_wp2_with fail
    refine (HCt.out _).mono ?_
    rintro e w' ⟨rfl, rfl⟩
    go_wp2_with fail
    refine HRi.out.mono ?_
    rintro e wx ⟨rfl, hbx⟩
    go_wp2
    refine bodyPost_ret (results_tmp3 rfl _ _ _) rfl ?_
    unfold TryEnds
    rw [HR.out]
    exact ⟨rfl, HUN.out _ hbx⟩
  rw [decide_eq_true h4] at HR0
  have z4 : decide (1099511627776 - prev < (ps.length : Int)) = false := decide_eq_false (by omega)
  have HB1 : Hid (tryR b t (es ms) prev term (es ps) = if prev < b then (if prev + ps.length ≤ b then ((prev + ps.length, 0, 0), es ms) else if ((es ps).getD (b - prev).toNat ent0).term < t then ((0, 0, 2), es ms) else tailR (prev + ps.length) b t (es ms) b t ((es ps).drop (b - prev).toNat)) else tailR (prev + ps.length) b t (es ms) prev term (es ps)) := Lib.hid (by
    unfold tryR
    rw [if_neg (by rw [HR0.out]; decide), hel])
  clear HB0 HR0
  by_cases h5 : prev < b
  · have z5 : decide (prev < b) = true := decide_eq_true h5
    by_cases h6 : prev + ps.length ≤ b
    · have HR : Hid (tryR b t (es ms) prev term (es ps) = ((prev + ps.length, 0, 0), es ms)) := Lib.hid (by rw [HB1.out, if_pos h5, if_pos h6])
      have z6 : decide (prev + (ps.length : Int) ≤ b) = true := decide_eq_true h6
      clear hel h4 h5 h6
      go_enter Try.func13, Try.ntmps13
      go_wp2_with fail
      refine (HCp.out _).mono ?_
      rintro e w' ⟨rfl, rfl⟩
      go_wp2_with fail
      refine (HCt.out _).mono ?_
      rintro e w' ⟨rfl, rfl⟩
      go_wp2_with fail
      refine HRi.out.mono ?_
      rintro e wx ⟨rfl, hbx⟩
      have v0 : wx.cell? ⟨d, 0, none⟩ = some (.int .i64 b) := (HG.out.below hbx).blk.cell 0
      have v1 : wx.cell? ⟨d, 1, none⟩ = some (.int .i64 t) := (HG.out.below hbx).blk.cell 1
      go_wp2
      refine bodyPost_ret (results_tmp3 rfl _ _ _) rfl ?_
      unfold TryEnds
      rw [HR.out]
      exact ⟨rfl, HUN.out _ hbx⟩
    · obtain ⟨k0, hk0⟩ := Int.eq_ofNat_of_zero_le (show 0 ≤ b - prev by omega)
      obtain rfl : prev = b - k0 := by omega
      have hk0l : k0 < ps.length := by omega
      have z6 : decide (b - (k0 : Int) + (ps.length : Int) ≤ b) = false := decide_eq_false h6
      obtain ⟨b1, off0, rfl, hb1l, hcc⟩ := HE.out.at_ hk0l
      have g0 := hcc 0 _ rfl
      rw [Nat.add_zero] at g0
      have hEq := HE.out.cut (k := k0) (by omega) hc0
      rw [if_neg (by omega), Option.map_some, Addr.add_lit] at hEq
      obtain ⟨qs, hqs⟩ : ∃ qs, qs = ps.drop k0 := ⟨_, rfl⟩
      have HQS := Lib.hid hqs
      obtain ⟨tx, htx⟩ : ∃ tx, tx = (gme ps k0).e.term := ⟨_, rfl⟩
      have HRR : Hid (tryR b t (es ms) (b - (k0 : Int)) term (es ps) = if tx < t then ((0, 0, 2), es ms) else tailR (b - (k0 : Int) + ps.length) b t (es ms) b t (es qs)) := Lib.hid (by
        rw [HB1.out, if_pos h5, if_neg h6, show (b - (b - (k0 : Int))).toNat = k0 by omega, hqs, es_drop, List.getD_eq_getElem?_getD, List.getElem?_eq_getElem (by rw [hel]; exact hk0l), Option.getD_some, es_at hk0l, htx])
      rw [← hqs] at hEq
      rw [← htx] at g0
      have hql : qs.length = ps.length - k0 := by rw [hqs, List.length_drop]
      have HQL := Lib.hid hql
      have HSq : Hid (∀ m ∈ qs, SmallE m) := Lib.hid (fun m hm => HS.out m (by rw [hqs] at hm; exact List.mem_of_mem_drop hm))
      have hqn : qs.length ≤ 977343669134 := by omega
      have hqc : qs.length ≤ c0 - k0 := by omega
      have hroom0 : b + (qs.length : Int) ≤ 1099511627776 := by omega
      have e0 : b - (b - (k0 : Int)) = (k0 : Int) := by omega
      have k0L : (0 : Int) ≤ (k0 : Int) := by omega
      have k0U : (k0 : Int) ≤ (ps.length : Int) := by omega
      have hk0p : 0 < ps.length - k0 := by omega
      have HQ := Lib.hid hEq
      clear hk0 hk0l hcc htx hqs hEq hql HB1 h4 h5 h6 hel
      go_enter Try.func13, Try.ntmps13
      go_wp2_with fail
      refine (HCp.out _).mono ?_
      rintro e w' ⟨rfl, rfl⟩
      go_wp2_with fail
      refine (HCt.out _).mono ?_
      rintro e w' ⟨rfl, rfl⟩
      go_wp2_with fail
      refine HRi.out.mono ?_
      rintro e wx ⟨rfl, hbx⟩
      have v0 : wx.cell? ⟨d, 0, none⟩ = some (.int .i64 b) := (HG.out.below hbx).blk.cell 0
      have v1 : wx.cell? ⟨d, 1, none⟩ = some (.int .i64 t) := (HG.out.below hbx).blk.cell 1
      have g0x := (hbx.cell (p := ⟨b1, off0 + k0 * 13, none⟩) hb1l).trans g0
      clear g0
      by_cases h7 : tx < t
      · rw [if_pos h7] at HRR
        have z7 : decide (tx < t) = true := decide_eq_true h7
        go_wp2
        go_quiet (fail)
        go_wp2
        refine bodyPost_ret (results_tmp3 rfl _ _ _) rfl ?_
        unfold TryEnds
        rw [HRR.out]
        exact ⟨rfl, HUN.out _ (below_drewN hbx _)⟩
      · rw [if_neg h7] at HRR
        have z7 : decide (tx < t) = false := decide_eq_false h7
        go_wp2
        go_quiet (fail)
        have HR := HRR
        have HBq := Lib.hid (below_drewN hbx nq)
        obtain ⟨wq, hwq⟩ : ∃ wq, wq = wx.drewN nq := ⟨_, rfl⟩
        have HWX := Lib.hid hwq
        rw [← hwq] at HBq
        have v0q : wq.cell? ⟨d, 0, none⟩ = some (.int .i64 b) := (HG.out.below HBq.out).blk.cell 0
        have g0q : wq.cell? ⟨b1, off0 + k0 * 13, none⟩ = some (.int .i64 tx) := by rw [hwq]; exact g0x
        obtain ⟨off, hoff⟩ : ∃ o, o = off0 + k0 * 13 := ⟨_, rfl⟩
        rw [← hoff] at HQ g0x
        rw [← HQL.out, ← hoff]
        have hqp : 0 < qs.length := by rw [HQL.out]; exact hk0p
        clear hwq hoff v0q g0q
        go_wp2_with fail
        rw [← HWX.out]
        have HTp := Lib.hid (term_any d b t A c ms (b) (wq) (HG.out.below HBq.out).at_)
        unfold TermEnds at HTp
        obtain ⟨E1, hE1⟩ : ∃ E1, E1 = termE b (es ms) (b) := ⟨_, rfl⟩
        obtain ⟨V1, hV1⟩ : ∃ V1, V1 = termV b t (es ms) (b) := ⟨_, rfl⟩
        have HTR : Hid (tryR b t (es ms) (b - (k0 : Int)) term (es ps) = tailR (b - (k0 : Int) + ps.length) b t (es ms) (b) (t) (es qs)) := HR
        unfold tailR at HTR
        rw [← hE1, ← hV1] at HTp HTR
        have HE1 := Lib.hid hE1
        clear hE1 hV1
        try go_wp2_with fail
        refine HTp.out.mono ?_
        rintro e w' ⟨rfl, q1, rfl⟩
        have HBq1 := Lib.hid (below_drewN HBq.out q1)
        by_cases hE1 : E1 = 0
        rotate_left
        · rw [if_pos (fun h => hE1 h.1)] at HTR
          have z9 : (E1 != 0) = true := bne_iff_ne.2 hE1
          clear hE1
          go_wp2
          refine bodyPost_ret (results_tmp3 rfl _ _ _) rfl ?_
          unfold TryEnds
          rw [HTR.out]
          exact ⟨rfl, HUN.out _ HBq1.out⟩
        obtain rfl := hE1
        by_cases hV1 : V1 = t
        rotate_left
        · rw [if_pos (fun h => hV1 h.2)] at HTR
          have z9 : (V1 != t) = true := bne_iff_ne.2 hV1
          clear hV1
          go_wp2
          refine bodyPost_ret (results_tmp3 rfl _ _ _) rfl ?_
          unfold TryEnds
          rw [HTR.out]
          exact ⟨rfl, HUN.out _ HBq1.out⟩
        have z9 : (V1 != t) = false := by rw [hV1]; simp
        rw [if_neg (fun h => h ⟨rfl, hV1⟩), es_len] at HTR
        clear hV1
        obtain ⟨wv, hwv⟩ : ∃ wv, wv = (wq).drewN q1 := ⟨_, rfl⟩
        rw [← hwv] at HBq1
        have HWQ := Lib.hid hwv
        clear hwv
        go_wp2
        rw [← HWQ.out]
        clear HWQ
        go_loopw [95] (TryRel b t (es ms) (b) (es qs) w) (fun i _ => qs.length - (intOf i).toNat)
        case atStart => exact ⟨0, rfl, Nat.zero_le _, by simp, by simpa using HE1.out.symm, HBq1.out⟩
        case round =>
          obtain ⟨k, rfl, hk, hC, hpv, hb⟩ := hrel
          rw [es_len] at hk
          by_cases hlt : k < qs.length
          · have hEw := HQ.out.below hb
            obtain ⟨b1', off', hAA, hb1l', hrg⟩ := hEw.range hlt
            simp only [Option.some.injEq, Addr.mk.injEq, and_true] at hAA
            obtain ⟨rfl, rfl⟩ := hAA
            rw [conf_at (by rw [es_len]; exact hlt), es_at hlt] at hC
            have HC := Lib.hid hC
            have HPV := Lib.hid hpv
            clear hpv
            have kL : (0 : Int) ≤ (k : Int) := by omega
            have kU : (k : Int) < (qs.length : Int) := by omega
            obtain ⟨m, hm⟩ : ∃ m, m = gme qs k := ⟨_, rfl⟩
            rw [← hm] at hrg HC
            clear hm hC hEw
            have hb2 := hb.alloc hb.size (.cells #[.int .i64 0, .int .i64 0, .int .i64 0, .int .i64 0, .int .i64 0, .string ⟨#[]⟩, .int .i64 0, .slice none 0 0, .slice none 0 0, .int .i64 0, .int .i64 0, .int .i64 0, .int .i64 0] 37)
            have k2 := Blk.new wr 37 #[.int .i64 0, .int .i64 0, .int .i64 0, .int .i64 0, .int .i64 0, .string ⟨#[]⟩, .int .i64 0, .slice none 0 0, .slice none 0 0, .int .i64 0, .int .i64 0, .int .i64 0, .int .i64 0]
            have hst := cells_ent (P := Try.prog) m (k2.there (o := 0) (n := 13) (by decide))
            have l5 : Blk ((wr.alloc (.cells #[.int .i64 0, .int .i64 0, .int .i64 0, .int .i64 0, .int .i64 0, .string ⟨#[]⟩, .int .i64 0, .slice none 0 0, .slice none 0 0, .int .i64 0, .int .i64 0, .int .i64 0, .int .i64 0] 37)).setCells wr.heap.size 0 (mcell m)) wr.heap.size 37 (mcell m).toArray := Blk.setAll (mcell m) (p := 0) k2
            have hb6 := belowAll (mcell m) (g := wr.heap.size) (p := 0) hb2 hb.size
            have x0 : ((wr.alloc (.cells #[.int .i64 0, .int .i64 0, .int .i64 0, .int .i64 0, .int .i64 0, .string ⟨#[]⟩, .int .i64 0, .slice none 0 0, .slice none 0 0, .int .i64 0, .int .i64 0, .int .i64 0, .int .i64 0] 37)).setCells wr.heap.size 0 (mcell m)).cell? ⟨wr.heap.size, 0, none⟩ = some (.int .i64 m.e.term) := l5.cell 0
            obtain ⟨wn, hwn⟩ : ∃ wn, wn = (wr.alloc (.cells #[.int .i64 0, .int .i64 0, .int .i64 0, .int .i64 0, .int .i64 0, .string ⟨#[]⟩, .int .i64 0, .slice none 0 0, .slice none 0 0, .int .i64 0, .int .i64 0, .int .i64 0, .int .i64 0] 37)).setCells wr.heap.size 0 (mcell m) := ⟨_, rfl⟩
            rw [← hwn] at hst x0 hb6
            clear l5 hwn
            have HB6 := Lib.hid hb6
            have HGn := Lib.hid (HG.out.below hb6)
            have HTn := Lib.hid (term_any d b t A c ms (b + 1 + k) wn HGn.out.at_)
            unfold TermEnds at HTn
            have y0 : wn.cell? ⟨d, 0, none⟩ = some (.int .i64 b) := HGn.out.blk.cell 0
            have y2 : wn.cell? ⟨d, 2, none⟩ = some (.slice A ms.length c) := HGn.out.blk.cell 2
            clear k2 hb2 hb6
            obtain ⟨x, hx⟩ : ∃ x, x = m.e.term := ⟨_, rfl⟩
            rw [← hx] at x0 HC
            clear hx
            obtain ⟨E2, hE2⟩ : ∃ E2, E2 = termE b (es ms) (b + 1 + k) := ⟨_, rfl⟩
            obtain ⟨V2, hV2⟩ : ∃ V2, V2 = termV b t (es ms) (b + 1 + k) := ⟨_, rfl⟩
            rw [← hE2, ← hV2] at HTn HC
            have HE2 : Hid (E2 = termE b (es ms) (b + 1 + k)) := Lib.hid hE2
            clear hE2 hV2
            go_wp2_with ((with_reducible refine wpList_load_mid ?x11 37 (.tmp 98) ?x12 b1 (off + k * 13) ?x13 (mcell m) _ ?x14 Try.underlying37 ?x15 ?x16 ?x17); (case x11 => rfl); (case x12 => rfl); (case x13 => rfl); (case x14 => exact hrg); (case x15 => rfl); (case x16 => kernel_rfl); (case' x17 => skip))
            refine HTn.out.mono ?_
            rintro e w' ⟨rfl, q2, rfl⟩
            clear hst hrg
            by_cases hmm : E2 = 0 ∧ V2 = x
            · obtain ⟨rfl, hvx⟩ := hmm
              rw [if_pos ⟨rfl, hvx⟩] at HC
              have z8 : (V2 == x) = true := by rw [hvx]; simp
              clear hvx
              go_wp2
              go_roundw
              case rel => exact ⟨k + 1, by go_num, by rw [es_len]; omega, by rw [HC.out]; rw [show b + 1 + (k : Int) + 1 = b + 1 + ((k + 1 : Nat) : Int) by omega]; omega, by rw [show b + ((k + 1 : Nat) : Int) = b + 1 + (k : Int) by omega]; exact HE2.out.symm, below_drewN HB6.out _⟩
              case measure => simp [intOf]; omega
            · rw [if_neg hmm, Nat.add_zero] at HC
              rw [HC.out, if_neg (by omega)] at HTR
              have hkd : k = k := rfl
              have hJl := (termE_zero.1 HPV.out).2
              rw [es_len] at hJl
              obtain ⟨J, hJ⟩ : ∃ J : Nat, J = 0 + k := ⟨_, rfl⟩
              have hJl : J ≤ ms.length := by omega
              obtain ⟨M, hM⟩ : ∃ M : Nat, M = J + (qs.length - k) := ⟨_, rfl⟩
              have eJ : b + 1 + (k : Int) - 1 - b = (J : Int) := by omega
              have eM : (J : Int) + (qs.length : Int) - (k : Int) = (M : Int) := by omega
              have jL : (0 : Int) ≤ (J : Int) := by omega
              have jU : (J : Int) ≤ (c : Int) := by omega
              have hz : (E2 == 0) = false ∨ ((E2 == 0) = true ∧ (V2 == x) = false) := by
                by_cases h0 : E2 = 0
                · exact .inr ⟨by rw [h0]; rfl, beq_eq_false_iff_ne.2 (fun h => hmm ⟨h0, h⟩)⟩
                · exact .inl (beq_eq_false_iff_ne.2 h0)
              clear hmm
              by_cases h512 : 512 < M
              · rw [if_pos (by omega)] at HTR
                have z10 : decide (512 < (M : Int)) = true := decide_eq_true (by omega)
                clear hM hJ h512
                rcases hz with z8 | ⟨z8, z8'⟩
                all_goals
                  go_wp2
                  refine bodyPost_ret (results_tmp3 rfl _ _ _) rfl ?_
                  unfold TryEnds
                  rw [HTR.out]
                  exact ⟨rfl, HUN.out _ (below_drewN HB6.out _)⟩
              · rw [if_neg (by omega), show (b + (k : Int) - b).toNat = J by omega] at HTR
                have z10 : decide (512 < (M : Int)) = false := decide_eq_false (by omega)
                have hMM : J + (qs.length - k) ≤ 512 := by omega
                have hroom : b + J + ((qs.length - k : Nat) : Int) ≤ 1099511627776 := by omega
                have hsub : 0 < qs.length - k := by omega
                have kC : (qs.length : Int) ≤ ((c0 - k0) : Int) := by omega
                have hck : ∀ x y : Option Addr, (if (c0 - k0) = k then x else y) = y := fun x y => if_neg (by omega)
                obtain ⟨wz, hwz⟩ : ∃ wz, wz = wn.drewN q2 := ⟨_, rfl⟩
                have hbz : Below w.heap.size w wz := by rw [hwz]; exact below_drewN HB6.out q2
                have HGz := Lib.hid (show Lg 69 wz d A c b t ms by rw [hwz]; exact HGn.out.drewN q2)
                have y2z : wz.cell? ⟨d, 2, none⟩ = some (.slice A ms.length c) := HGz.out.blk.cell 2
                have hEc := ((HQ.out.below hbz).more hbz.size).cut (k := k) (by omega) (cap := (c0 - k0)) (by omega)
                rw [hck, Option.map_some, Addr.add_lit] at hEc
                have HSM := Lib.hid (some_any _ ((c0 - k0) - k) (qs.drop k) wz.drew (hEc.drewN 1) (SmallL.of (by rw [List.length_drop]; omega) (fun x hx => HSq.out x (List.mem_of_mem_drop hx))))
                rw [List.length_drop] at HSM
                have hdz : d < wz.drew.heap.size := HGz.out.blk.lt
                have HWZ := Lib.hid hwz
                obtain ⟨i0, hi0, hz0, hy0, hx0⟩ := info_parts Try.infoE
                have HBZ := Lib.hid hbz
                clear hM hJ h512 hwz hEc hbz y2
                rcases hz with z8 | ⟨z8, z8'⟩
                all_goals
                  go_wp2
                  rw [← HWZ.out]
                  clear y0 x0
                  go_region_law
                    (first
                      | (go_simp; go_at_call 33; refine HSM.out.mono ?_; rintro e w1 ⟨A3, c3, ns, rfl, hm3, hO3, hb1⟩; have HM := Lib.hid hm3; clear hm3; obtain ⟨hbk, y21, hrA, hnl, hsr⟩ := try_facts HGz.out hJl hO3 hb1 HM.out)
                      | (refine step_app_full rfl (.tmp 139) (.tmp 143) 41 41 (by rfl) 37 i0 (.agg #[.int .i64 0, .int .i64 0, .int .i64 0, .int .i64 0, .int .i64 0, .string ⟨#[]⟩, .int .i64 0, .slice none 0 0, .slice none 0 0, .int .i64 0, .int .i64 0, .int .i64 0, .int .i64 0]) 13 144 Try.underlying41 hi0 hz0 hy0 hx0 rfl (by omega) A _ J (mc (ms.take J)) (by rfl) hrA (.slice A3 (qs.length - k) c3) (qs.length - k) (mc ns) (by rfl) hsr hsub (by simp only [maxLen]; omega) (by omega) ?_; intro k3 w3 hown3 hb3; rw [← mc_app] at hown3; have f3 : w3.frozen? ⟨d, 2, none⟩ = false := (hbk.below hb3 hbk.lt).frozen 2; have y23 : w3.cell? ⟨d, 2, none⟩ = some (.slice A ms.length c) := (hbk.below hb3 hbk.lt).cell 2))
                  all_goals
                    go_wp2
                    refine bodyPost_ret (results_tmp3 rfl _ _ _) rfl ?_
                    unfold TryEnds
                    rw [HTR.out]
                    have hsz : w.heap.size ≤ wz.drew.heap.size := HBZ.out.size
                    have hlg := lg_try (A3 := some ⟨w1.heap.size, 0, none⟩) hnl (by decide) HG.out hJl ((below_drewN HBZ.out 1).trans (hb1.mono hsz)) (fun m hm => (hO3.fine m hm).more hsz) hb3 hown3 (fun y hy => Nat.le_trans hsz (Nat.le_trans hb1.size (Nat.le_of_eq (List.mem_singleton.1 hy).symm))) hMM hroom (small_of HM.out (fun x hx => HSq.out x (List.mem_of_mem_drop hx)))
                    rw [show es ns = (es qs).drop k by rw [← es_drop]; exact HM.out] at hlg
                    exact ⟨rfl, hlg⟩
          · have hkk : k = qs.length := by omega
            have hC2 : conf b t (es ms) (b + 1) (es qs) = qs.length := by rw [hC, List.drop_of_length_le (by rw [es_len]; omega)]; simp [conf]; exact hkk
            rw [if_pos hC2] at HTR
            clear hC hC2 hkk
            go_wp2
            refine bodyPost_ret (results_tmp3 rfl _ _ _) rfl ?_
            unfold TryEnds
            rw [HTR.out]
            exact ⟨rfl, HUN.out _ hb⟩
  · have z5 : decide (prev < b) = false := decide_eq_false h5
    obtain ⟨K, hK⟩ := Int.eq_ofNat_of_zero_le (show 0 ≤ prev - b by omega)
    have HR : Hid (tryR b t (es ms) prev term (es ps) = tailR (prev + ps.length) b t (es ms) prev term (es ps)) := Lib.hid (by rw [HB1.out, if_neg h5])
    obtain rfl : prev = b + K := by omega
    have HQ := HE
    have HSq := HS
    have hroom0 : b + (K : Int) + (ps.length : Int) ≤ 1099511627776 := by omega
    clear hel h5 hK HB1
    go_enter Try.func13, Try.ntmps13
    go_wp2_with fail
    refine (HCp.out _).mono ?_
    rintro e w' ⟨rfl, rfl⟩
    go_wp2_with fail
    refine (HCt.out _).mono ?_
    rintro e w' ⟨rfl, rfl⟩
    go_wp2_with fail
    refine HRi.out.mono ?_
    rintro e wx ⟨rfl, hbx⟩
    have v0 : wx.cell? ⟨d, 0, none⟩ = some (.int .i64 b) := (HG.out.below hbx).blk.cell 0
    have v1 : wx.cell? ⟨d, 1, none⟩ = some (.int .i64 t) := (HG.out.below hbx).blk.cell 1
    have HBq := Lib.hid hbx
    have HTp := Lib.hid (term_any d b t A c ms (b + (K : Int)) (wx) (HG.out.below HBq.out).at_)
    unfold TermEnds at HTp
    obtain ⟨E1, hE1⟩ : ∃ E1, E1 = termE b (es ms) (b + (K : Int)) := ⟨_, rfl⟩
    obtain ⟨V1, hV1⟩ : ∃ V1, V1 = termV b t (es ms) (b + (K : Int)) := ⟨_, rfl⟩
    have HTR : Hid (tryR b t (es ms) (b + (K : Int)) term (es ps) = tailR (b + (K : Int) + ps.length) b t (es ms) (b + (K : Int)) (term) (es ps)) := HR
    unfold tailR at HTR
    rw [← hE1, ← hV1] at HTp HTR
    have HE1 := Lib.hid hE1
    clear hE1 hV1
    try go_wp2_with fail
    refine HTp.out.mono ?_
    rintro e w' ⟨rfl, q1, rfl⟩
    have HBq1 := Lib.hid (below_drewN HBq.out q1)
    by_cases hE1 : E1 = 0
    rotate_left
    · rw [if_pos (fun h => hE1 h.1)] at HTR
      have z9 : (E1 != 0) = true := bne_iff_ne.2 hE1
      clear hE1
      go_wp2
      refine bodyPost_ret (results_tmp3 rfl _ _ _) rfl ?_
      unfold TryEnds
      rw [HTR.out]
      exact ⟨rfl, HUN.out _ HBq1.out⟩
    obtain rfl := hE1
    by_cases hV1 : V1 = term
    rotate_left
    · rw [if_pos (fun h => hV1 h.2)] at HTR
      have z9 : (V1 != term) = true := bne_iff_ne.2 hV1
      clear hV1
      go_wp2
      refine bodyPost_ret (results_tmp3 rfl _ _ _) rfl ?_
      unfold TryEnds
      rw [HTR.out]
      exact ⟨rfl, HUN.out _ HBq1.out⟩
    have z9 : (V1 != term) = false := by rw [hV1]; simp
    rw [if_neg (fun h => h ⟨rfl, hV1⟩), es_len] at HTR
    clear hV1
    obtain ⟨wv, hwv⟩ : ∃ wv, wv = (wx).drewN q1 := ⟨_, rfl⟩
    rw [← hwv] at HBq1
    have HWQ := Lib.hid hwv
    clear hwv
    go_wp2
    rw [← HWQ.out]
    clear HWQ
    go_loopw [95] (TryRel b t (es ms) (b + (K : Int)) (es ps) w) (fun i _ => ps.length - (intOf i).toNat)
    case atStart => exact ⟨0, rfl, Nat.zero_le _, by simp, by simpa using HE1.out.symm, HBq1.out⟩
    case round =>
      obtain ⟨k, rfl, hk, hC, hpv, hb⟩ := hrel
      rw [es_len] at hk
      by_cases hlt : k < ps.length
      · have hEw := HQ.out.below hb
        obtain ⟨b1, off, rfl, hb1l, hrg⟩ := hEw.range hlt
        rw [conf_at (by rw [es_len]; exact hlt), es_at hlt] at hC
        have HC := Lib.hid hC
        have HPV := Lib.hid hpv
        clear hpv
        have kL : (0 : Int) ≤ (k : Int) := by omega
        have kU : (k : Int) < (ps.length : Int) := by omega
        obtain ⟨m, hm⟩ : ∃ m, m = gme ps k := ⟨_, rfl⟩
        rw [← hm] at hrg HC
        clear hm hC hEw
        have hb2 := hb.alloc hb.size (.cells #[.int .i64 0, .int .i64 0, .int .i64 0, .int .i64 0, .int .i64 0, .string ⟨#[]⟩, .int .i64 0, .slice none 0 0, .slice none 0 0, .int .i64 0, .int .i64 0, .int .i64 0, .int .i64 0] 37)
        have k2 := Blk.new wr 37 #[.int .i64 0, .int .i64 0, .int .i64 0, .int .i64 0, .int .i64 0, .string ⟨#[]⟩, .int .i64 0, .slice none 0 0, .slice none 0 0, .int .i64 0, .int .i64 0, .int .i64 0, .int .i64 0]
        have hst := cells_ent (P := Try.prog) m (k2.there (o := 0) (n := 13) (by decide))
        have l5 : Blk ((wr.alloc (.cells #[.int .i64 0, .int .i64 0, .int .i64 0, .int .i64 0, .int .i64 0, .string ⟨#[]⟩, .int .i64 0, .slice none 0 0, .slice none 0 0, .int .i64 0, .int .i64 0, .int .i64 0, .int .i64 0] 37)).setCells wr.heap.size 0 (mcell m)) wr.heap.size 37 (mcell m).toArray := Blk.setAll (mcell m) (p := 0) k2
        have hb6 := belowAll (mcell m) (g := wr.heap.size) (p := 0) hb2 hb.size
        have x0 : ((wr.alloc (.cells #[.int .i64 0, .int .i64 0, .int .i64 0, .int .i64 0, .int .i64 0, .string ⟨#[]⟩, .int .i64 0, .slice none 0 0, .slice none 0 0, .int .i64 0, .int .i64 0, .int .i64 0, .int .i64 0] 37)).setCells wr.heap.size 0 (mcell m)).cell? ⟨wr.heap.size, 0, none⟩ = some (.int .i64 m.e.term) := l5.cell 0
        obtain ⟨wn, hwn⟩ : ∃ wn, wn = (wr.alloc (.cells #[.int .i64 0, .int .i64 0, .int .i64 0, .int .i64 0, .int .i64 0, .string ⟨#[]⟩, .int .i64 0, .slice none 0 0, .slice none 0 0, .int .i64 0, .int .i64 0, .int .i64 0, .int .i64 0] 37)).setCells wr.heap.size 0 (mcell m) := ⟨_, rfl⟩
        rw [← hwn] at hst x0 hb6
        clear l5 hwn
        have HB6 := Lib.hid hb6
        have HGn := Lib.hid (HG.out.below hb6)
        have HTn := Lib.hid (term_any d b t A c ms (b + (K : Int) + 1 + k) wn HGn.out.at_)
        unfold TermEnds at HTn
        have y0 : wn.cell? ⟨d, 0, none⟩ = some (.int .i64 b) := HGn.out.blk.cell 0
        have y2 : wn.cell? ⟨d, 2, none⟩ = some (.slice A ms.length c) := HGn.out.blk.cell 2
        clear k2 hb2 hb6
        obtain ⟨x, hx⟩ : ∃ x, x = m.e.term := ⟨_, rfl⟩
        rw [← hx] at x0 HC
        clear hx
        obtain ⟨E2, hE2⟩ : ∃ E2, E2 = termE b (es ms) (b + (K : Int) + 1 + k) := ⟨_, rfl⟩
        obtain ⟨V2, hV2⟩ : ∃ V2, V2 = termV b t (es ms) (b + (K : Int) + 1 + k) := ⟨_, rfl⟩
        rw [← hE2, ← hV2] at HTn HC
        have HE2 : Hid (E2 = termE b (es ms) (b + (K : Int) + 1 + k)) := Lib.hid hE2
        clear hE2 hV2
        go_wp2_with ((with_reducible refine wpList_load_mid ?x21 37 (.tmp 98) ?x22 b1 (off + k * 13) ?x23 (mcell m) _ ?x24 Try.underlying37 ?x25 ?x26 ?x27); (case x21 => rfl); (case x22 => rfl); (case x23 => rfl); (case x24 => exact hrg); (case x25 => rfl); (case x26 => kernel_rfl); (case' x27 => skip))
        refine HTn.out.mono ?_
        rintro e w' ⟨rfl, q2, rfl⟩
        clear hst hrg
        by_cases hmm : E2 = 0 ∧ V2 = x
        · obtain ⟨rfl, hvx⟩ := hmm
          rw [if_pos ⟨rfl, hvx⟩] at HC
          have z8 : (V2 == x) = true := by rw [hvx]; simp
          clear hvx
          go_wp2
          go_roundw
          case rel => exact ⟨k + 1, by go_num, by rw [es_len]; omega, by rw [HC.out]; rw [show b + (K : Int) + 1 + (k : Int) + 1 = b + (K : Int) + 1 + ((k + 1 : Nat) : Int) by omega]; omega, by rw [show b + (K : Int) + ((k + 1 : Nat) : Int) = b + (K : Int) + 1 + (k : Int) by omega]; exact HE2.out.symm, below_drewN HB6.out _⟩
          case measure => simp [intOf]; omega
        · rw [if_neg hmm, Nat.add_zero] at HC
          rw [HC.out, if_neg (by omega)] at HTR
          have hkd : k = k := rfl
          have hJl := (termE_zero.1 HPV.out).2
          rw [es_len] at hJl
          obtain ⟨J, hJ⟩ : ∃ J : Nat, J = K + k := ⟨_, rfl⟩
          have hJl : J ≤ ms.length := by omega
          obtain ⟨M, hM⟩ : ∃ M : Nat, M = J + (ps.length - k) := ⟨_, rfl⟩
          have eJ : b + (K : Int) + 1 + (k : Int) - 1 - b = (J : Int) := by omega
          have eM : (J : Int) + (ps.length : Int) - (k : Int) = (M : Int) := by omega
          have jL : (0 : Int) ≤ (J : Int) := by omega
          have jU : (J : Int) ≤ (c : Int) := by omega
          have hz : (E2 == 0) = false ∨ ((E2 == 0) = true ∧ (V2 == x) = false) := by
            by_cases h0 : E2 = 0
            · exact .inr ⟨by rw [h0]; rfl, beq_eq_false_iff_ne.2 (fun h => hmm ⟨h0, h⟩)⟩
            · exact .inl (beq_eq_false_iff_ne.2 h0)
          clear hmm
          by_cases h512 : 512 < M
          · rw [if_pos (by omega)] at HTR
            have z10 : decide (512 < (M : Int)) = true := decide_eq_true (by omega)
            clear hM hJ h512
            rcases hz with z8 | ⟨z8, z8'⟩
            all_goals
              go_wp2
              refine bodyPost_ret (results_tmp3 rfl _ _ _) rfl ?_
              unfold TryEnds
              rw [HTR.out]
              exact ⟨rfl, HUN.out _ (below_drewN HB6.out _)⟩
          · rw [if_neg (by omega), show (b + (K : Int) + (k : Int) - b).toNat = J by omega] at HTR
            have z10 : decide (512 < (M : Int)) = false := decide_eq_false (by omega)
            have hMM : J + (ps.length - k) ≤ 512 := by omega
            have hroom : b + J + ((ps.length - k : Nat) : Int) ≤ 1099511627776 := by omega
            have hsub : 0 < ps.length - k := by omega
            have kC : (ps.length : Int) ≤ (c0 : Int) := by omega
            have hck : ∀ x y : Option Addr, (if c0 = k then x else y) = y := fun x y => if_neg (by omega)
            obtain ⟨wz, hwz⟩ : ∃ wz, wz = wn.drewN q2 := ⟨_, rfl⟩
            have hbz : Below w.heap.size w wz := by rw [hwz]; exact below_drewN HB6.out q2
            have HGz := Lib.hid (show Lg 69 wz d A c b t ms by rw [hwz]; exact HGn.out.drewN q2)
            have y2z : wz.cell? ⟨d, 2, none⟩ = some (.slice A ms.length c) := HGz.out.blk.cell 2
            have hEc := ((HQ.out.below hbz).more hbz.size).cut (k := k) (by omega) (cap := c0) (by omega)
            rw [hck, Option.map_some, Addr.add_lit] at hEc
            have HSM := Lib.hid (some_any _ (c0 - k) (ps.drop k) wz.drew (hEc.drewN 1) (SmallL.of (by rw [List.length_drop]; omega) (fun x hx => HSq.out x (List.mem_of_mem_drop hx))))
            rw [List.length_drop] at HSM
            have hdz : d < wz.drew.heap.size := HGz.out.blk.lt
            have HWZ := Lib.hid hwz
            obtain ⟨i0, hi0, hz0, hy0, hx0⟩ := info_parts Try.infoE
            have HBZ := Lib.hid hbz
            clear hM hJ h512 hwz hEc hbz y2
            rcases hz with z8 | ⟨z8, z8'⟩
            all_goals
              go_wp2
              rw [← HWZ.out]
              clear y0 x0
              go_region_law
                (first
                  | (go_simp; go_at_call 33; refine HSM.out.mono ?_; rintro e w1 ⟨A3, c3, ns, rfl, hm3, hO3, hb1⟩; have HM := Lib.hid hm3; clear hm3; obtain ⟨hbk, y21, hrA, hnl, hsr⟩ := try_facts HGz.out hJl hO3 hb1 HM.out)
                  | (refine step_app_full rfl (.tmp 139) (.tmp 143) 41 41 (by rfl) 37 i0 (.agg #[.int .i64 0, .int .i64 0, .int .i64 0, .int .i64 0, .int .i64 0, .string ⟨#[]⟩, .int .i64 0, .slice none 0 0, .slice none 0 0, .int .i64 0, .int .i64 0, .int .i64 0, .int .i64 0]) 13 144 Try.underlying41 hi0 hz0 hy0 hx0 rfl (by omega) A _ J (mc (ms.take J)) (by rfl) hrA (.slice A3 (ps.length - k) c3) (ps.length - k) (mc ns) (by rfl) hsr hsub (by simp only [maxLen]; omega) (by omega) ?_; intro k3 w3 hown3 hb3; rw [← mc_app] at hown3; have f3 : w3.frozen? ⟨d, 2, none⟩ = false := (hbk.below hb3 hbk.lt).frozen 2; have y23 : w3.cell? ⟨d, 2, none⟩ = some (.slice A ms.length c) := (hbk.below hb3 hbk.lt).cell 2))
              all_goals
                go_wp2
                refine bodyPost_ret (results_tmp3 rfl _ _ _) rfl ?_
                unfold TryEnds
                rw [HTR.out]
                have hsz : w.heap.size ≤ wz.drew.heap.size := HBZ.out.size
                have hlg := lg_try (A3 := some ⟨w1.heap.size, 0, none⟩) hnl (by decide) HG.out hJl ((below_drewN HBZ.out 1).trans (hb1.mono hsz)) (fun m hm => (hO3.fine m hm).more hsz) hb3 hown3 (fun y hy => Nat.le_trans hsz (Nat.le_trans hb1.size (Nat.le_of_eq (List.mem_singleton.1 hy).symm))) hMM hroom (small_of HM.out (fun x hx => HSq.out x (List.mem_of_mem_drop hx)))
                rw [show es ns = (es ps).drop k by rw [← es_drop]; exact HM.out] at hlg
                exact ⟨rfl, hlg⟩
      · have hkk : k = ps.length := by omega
        have hC2 : conf b t (es ms) (b + (K : Int) + 1) (es ps) = ps.length := by rw [hC, List.drop_of_length_le (by rw [es_len]; omega)]; simp [conf]; exact hkk
        rw [if_pos hC2] at HTR
        clear hC hC2 hkk
        go_wp2
        refine bodyPost_ret (results_tmp3 rfl _ _ _) rfl ?_
        unfold TryEnds
        rw [HTR.out]
        exact ⟨rfl, HUN.out _ hb⟩
end Go.Proofs.Ytdcnfdhhflmdcaa
