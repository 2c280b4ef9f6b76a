/- Layer 12: the law DirShares. -/
import Derived.Test.YthenjpenfemmbaaDuM
import Derived.Test.YthenjpenfemmbaaDrH
namespace Go.Proofs.Ythenjpenfemmbaa
open Go.RowKit
set_option linter.unusedSimpArgs false
set_option linter.unusedVariables false

structure SharesEnv (w : World) (d : Nat) (L : List ByteArray) (Ad : Option Addr) (cd : Nat) (A3 : Option Addr) (l : List Wrt) : Prop where
  dir : IsD w d L Ad cd
  wr : Reads w w.heap.size 3 A3 l.length (wc l)
theorem SharesEnv.below {w w' : World} {d : Nat} {L : List ByteArray} {Ad : Option Addr} {cd : Nat} {A3 : Option Addr} {l : List Wrt} (h : SharesEnv w d L Ad cd A3 l) (hb : Below w.heap.size w w') : SharesEnv w' d L Ad cd A3 l :=
  ⟨h.dir.below hb, (h.wr.below hb).more hb.size⟩
def Sh1Rel (l : List Wrt) (w0 : World) (good keys i : Value) (wr : World) : Prop :=
  ∃ (k : Nat) (A1 : Option Addr) (c1 : Nat) (M : List ByteArray), i = .int .i64 k ∧ k ≤ l.length ∧ M = gdK (l.take k) ∧ M.length ≤ k ∧ good = .int .i64 M.length ∧ keys = .slice A1 M.length c1 ∧ wr.ownsRow 0 9 1 (.slice A1 M.length c1) M.length (sc M) ∧ Below w0.heap.size w0 wr ∧ ∀ x ∈ ob A1, w0.heap.size ≤ x
def Sh2Rel (L : List ByteArray) (l : List Wrt) (S : List Int) (w0 : World) (all at_ g _s _k _i : Value) (wr : World) : Prop :=
  ∃ k : Nat, g = .int .i64 k ∧ k ≤ L.length + 1 ∧ all = .int .i64 (allB L l k : Nat) ∧ at_ = .int .i64 ((fewK S k).length : Nat) ∧ Below w0.heap.size w0 wr
def Sh3Rel (L : List ByteArray) (g : Int) (l T : List Wrt) (w0 : World) (k i : Value) (wr : World) : Prop :=
  ∃ (a b q : Nat), i = .int .i64 a ∧ k = .int .i64 b ∧ a ≤ T.length ∧ b ≤ l.length ∧ At L g l T a b ∧ wr = w0.drewN q
def Sh4Rel (L : List ByteArray) (g : Int) (l T : List Wrt) (a : Nat) (w0 : World) (k : Value) (wr : World) : Prop :=
  ∃ (b q : Nat), k = .int .i64 b ∧ b ≤ l.length ∧ At L g l T a b ∧ wr = w0.drewN q
set_option maxHeartbeats 8000000 in
set_option maxRecDepth 100000 in
theorem shares_any (A : Option Addr) (c : Nat) (L : List ByteArray) (A3 : Option Addr) (c3 : Nat) (l : List Wrt) (w : World)
    (hr : Reads w w.heap.size 1 A L.length (sc L)) (hl : L.length ≤ 8796093022200) (hrw : Reads w w.heap.size 3 A3 l.length (wc l)) (hll : l.length ≤ 8796093022200) :
    Calls Try.prog 6 #[.slice A L.length c, .slice A3 l.length c3] w (Done w) := by
  have hLi : (L.length : Int) ≤ 8796093022200 := by omega
  obtain ⟨i0, hi0, hz0, hz1, hz2⟩ := info_parts Try.info9
  have HW := Lib.hid (works_any w)
  by_cases hE : newE L = 0
  · have H := Lib.hid hE
    have hRi := newE_zero hE
    have hfew := hRi.few
    clear hE
    go_enter Try.func6, Try.ntmps6
    go_wp2_with fail
    refine HW.out.mono ?_
    clear HW
    rintro e w1 ⟨rfl, hb1⟩
    go_wp2_with fail
    refine (dnew_ok A c w.heap.size L w1 (hr.below hb1) hb1.size (by omega) H.out).mono ?_
    rintro e w2 ⟨d, Ad, cd, rfl, hD, hb2, _, _⟩
    have hbe := hb1.trans (hb2.mono hb1.size)
    have hE2 : SharesEnv w2 d L Ad cd A3 l := ⟨hD, (hrw.below hbe).more hbe.size⟩
    clear hb1 hb2 hD hr hrw H
    by_cases hln : 500 < l.length
    · have z2 : decide (500 < (l.length : Int)) = true := decide_eq_true (by omega)
      go_wp2_with (go_at_call 9; refine (num_any _ _).mono ?_; rintro e w' ⟨rfl, rfl⟩)
      go_ret
      exact ⟨rfl, hbe⟩
    have z2 : decide (500 < (l.length : Int)) = false := decide_eq_false (by omega)
    go_wp2_with (go_at_call 9; refine (num_any _ _).mono ?_; rintro e w' ⟨rfl, rfl⟩)
    clear z2
    go_loopw [7, 8, 9] (Sh1Rel l w2) (fun _ _ i _ => l.length - (intOf i).toNat)
    case atStart => exact ⟨0, none, 0, [], rfl, Nat.zero_le _, by simp [gdK], Nat.le_refl _, rfl, rfl, World.ownsRow_nil _ _ _ _, Below.refl _ _, by simp [ob]⟩
    case round =>
      obtain ⟨k, A1, c1, M, rfl, hk, hM, hMk, rfl, rfl, hown, hb, hf⟩ := hrel
      have HM := Lib.hid hM
      clear hM
      have hEk := hE2.below hb
      by_cases hlt : k < l.length
      · obtain ⟨bb, off, rfl, hbb, a0, a1, a2⟩ := hEk.wr.wrt hlt
        have kL : (0 : Int) ≤ (k : Int) := by omega
        have kU : (k : Int) < (l.length : Int) := by omega
        have hon := Lib.hid (gdK_on hlt)
        obtain ⟨x, hx⟩ : ∃ x, x = (gw l k).key := ⟨_, rfl⟩
        rw [← hx] at a0 hon
        clear hx
        have HK := Lib.hid (dkey_any d x wr)
        cases hky : keyB x with
        | true =>
          rw [hky] at HK hon
          have HS : Hid (gdK (l.take (k + 1)) = M ++ [x]) := Lib.hid (by rw [hon.out, HM.out]; rfl)
          have e3 := Lib.hid (sc_snoc M x)
          clear hky hon a1 a2
          go_wp2_with (first
            | (go_at_call 15; refine HK.out.mono ?_; rintro e w' ⟨rfl, rfl⟩)
            | (go_at_call 9; refine (num_any _ _).mono ?_; rintro e w' ⟨rfl, rfl⟩)
            | (at_builtin; refine wpList_app rfl (.tmp 59) (.tmp 65) 22 22 rfl 9 i0 _ 1 16 Try.underlying22 hi0 hz0 hz1 hz2 rfl (by omega) A1 M.length c1 (sc M) rfl (hown.alloc _) _ 1 [.string x] rfl (Src.one1 Try.underlying22 _ _ rfl) (by simp only [maxLen]; omega) (by omega) ?_; intro A4 k4 w4 hown4 hk4 hf4; rw [e3.out] at hown4))
          have hol2 : M.length + 1 = (M ++ [x]).length := by simp
          have hbel := hb.trans (hk4.of_alloc.below hb.size hf)
          rw [hol2] at hown4 ⊢
          go_roundw
          case rel => exact ⟨k + 1, A4, k4, _, by go_num, by omega, HS.out.symm, by simp; omega, by simp, rfl, hown4, hbel, fun y hy => by
              rcases hf4 y hy with h | h
              · exact hf y h
              · simp at h
                have := hb.size
                omega⟩
          case measure => simp [intOf]; omega
        | false =>
          rw [hky] at HK hon
          have HS : Hid (gdK (l.take (k + 1)) = M) := Lib.hid (by rw [hon.out, HM.out]; simp)
          clear hky hon a1 a2
          go_wp2_with (first
            | (go_at_call 15; refine HK.out.mono ?_; rintro e w' ⟨rfl, rfl⟩)
            | (go_at_call 9; refine (num_any _ _).mono ?_; rintro e w' ⟨rfl, rfl⟩))
          go_roundw
          case rel => exact ⟨k + 1, A1, c1, M, by go_num, by omega, HS.out.symm, by omega, rfl, rfl, hown, hb, hf⟩
          case measure => simp [intOf]; omega
      · have hT : l.take k = l := List.take_of_length_le (by omega)
        rw [hT] at HM
        have hno : ¬ ((k : Int) < (l.length : Int)) := by omega
        have HG := Lib.hid (gdK_good l)
        have HFE := Lib.hid (few_end hfew l)
        rw [← HM.out] at HG HFE
        have HO := Lib.hid (of_any d Ad cd L A1 c1 M wr hEk.dir hEk.dir.blk.lt hRi (Reads.of_own hown) (by omega))
        have hMl : M.length ≤ 500 := by omega
        clear hT
        go_wp2_with fail
        refine HO.out.mono ?_
        clear HO
        rintro e w6 ⟨Ag, cg, rfl, howng, hb6, hfg⟩
        rw [show ofE M = 0 by unfold ofE; rw [HG.out]; rfl]
        have hbe6 := hbe.trans ((hb.trans (hb6.mono hb.size)).mono hbe.size)
        have hE6 := hEk.below hb6
        have hGl := ofL_len' L M
        rw [HFE.out.1] at howng hGl ⊢
        have HF2 := Lib.hid HFE.out.2
        clear hown hb hf hb6 hfg hE2 hEk HFE
        have HMl := Lib.hid (congrArg List.length HM.out)
        go_wp2_with (go_at_call 9; refine (num_any _ _).mono ?_; rintro e w' ⟨rfl, rfl⟩)
        have HATF := Lib.hid (fun (g : Nat) (h8 : g < 8) hm => few_at (S := grps L (gdK l)) h8 ((mem_grps L l g).2 hm))
        have HSTF := Lib.hid (fun g => few_step L l g)
        rw [← HM.out] at HATF HSTF
        have HALE := Lib.hid (allB_end L l)
        rw [← HM.out] at HALE
        generalize grps L M = S at *
        go_loopw [12, 13, 14, 15, 16, 17] (Sh2Rel L l S w6) (fun _ _ g _ _ _ _ => L.length + 1 - (intOf g).toNat)
        case atStart => exact ⟨0, rfl, Nat.zero_le _, by rw [allB_zero]; rfl, rfl, Below.refl _ _⟩
        case round =>
          obtain ⟨g, rfl, hg, rfl, rfl, hb⟩ := hrel
          have hEg := hE6.below hb
          have HGR := Lib.hid (groups_any d Ad cd L wr hEg.dir hfew)
          have hrg := (Reads.of_own howng).below hb
          by_cases hlt : g < L.length + 1
          · have y1 : decide ((g : Int) < (L.length : Int) + 1) = true := decide_eq_true (by omega)
            have HALL := Lib.hid (allB_on L l g)
            have hal := allB_le L l g
            have HSTEP := Lib.hid (HSTF.out g)
            have hfk := fewK_len S g
            have HAT := Lib.hid (fun hm => HATF.out g (by omega) hm)
            have HST := Lib.hid (at_start (L := L) (g := g) (l := l))
            have hsl := shr_len L g l
            go_wp2_with (go_at_call 10; refine HGR.out.mono ?_; rintro e w' ⟨rfl, rfl⟩)
            refine (share_any d L Ad cd (g : Int) A3 c3 l wr hEg.dir hRi hEg.wr (by omega)).mono ?_
            rintro e w7 ⟨As, cs, rfl, howns, hb7, hfs⟩
            have hb67 := hb.trans (hb7.mono hb.size)
            have hE7 := hEg.below hb7
            have hr7 := hE7.wr
            have hrs := Reads.of_own howns
            have hrg7 := (hrg.below (hb7.mono hb.size))
            generalize allB L l g = ag at *
            generalize (fewK S g).length = fg at *
            generalize shr L g l = T at *
            clear howns hfs hb7 hEg hrg HGR hb
            go_wp2
            go_loopw [16, 17] (Sh3Rel L g l T w7) (fun _ i _ => T.length - (intOf i).toNat)
            case atStart => exact ⟨0, 0, 0, rfl, rfl, Nat.zero_le _, Nat.zero_le _, HST.out, rfl⟩
            case round =>
              obtain ⟨a, b, q, rfl, rfl, ha, hbk, hAt, rfl⟩ := hrel
              by_cases hat : a < T.length
              · have aL : (0 : Int) ≤ (a : Int) := by omega
                have aU : (a : Int) < (T.length : Int) := by omega
                have HAt := Lib.hid hAt
                clear hAt
                go_wp2
                go_loopw [16] (Sh4Rel L g l T a w7) (fun k _ => l.length - (intOf k).toNat)
                case atStart => exact ⟨b, q, rfl, hbk, HAt.out, rfl⟩
                case round =>
                  clear HAt hbk
                  obtain ⟨b, q, rfl, hbk, hAt, rfl⟩ := hrel
                  obtain ⟨hbl, hgr, hon1, hon2⟩ := at_more hAt hat hbk
                  obtain ⟨b1, o1, rfl, _, x0, x1, x2⟩ := hr7.wrt hbl
                  obtain ⟨b2, o2, rfl, _, z0, z1, z2⟩ := hrs.wrt hat
                  have bL : (0 : Int) ≤ (b : Int) := by omega
                  have bU : (b : Int) < (l.length : Int) := by omega
                  have bD : decide ((b : Int) < (l.length : Int)) = true := decide_eq_true bU
                  have bD' : decide (b < l.length) = true := decide_eq_true hbl
                  have hne := run_neW (gw l b) (gw T a)
                  have HG1 := Lib.hid (fun n => group_any d Ad cd L (gw T a).key (w7.drewN n) (hE7.dir.drewN n) hRi)
                  rw [hgr] at HG1
                  cases hn : neW (gw l b) (gw T a) with
                  | true =>
                    rw [hn] at hne
                    have HON := Lib.hid (hon1 (neW_true hn))
                    clear hon1 hon2 hn hgr hAt HG1
                    generalize gw l b = xl at *
                    generalize gw T a = xt at *
                    go_wp2
                    go_quiet (fail)
                    go_wp2
                    go_roundw
                    case rel => exact ⟨b + 1, _, by go_num, by omega, HON.out, rfl⟩
                    case measure => simp [intOf]; omega
                  | false =>
                    rw [hn] at hne
                    have HON := Lib.hid (hon2 (neW_false hn))
                    clear hon1 hon2 hn hgr hAt
                    generalize gw l b = xl at *
                    generalize gw T a = xt at *
                    go_wp2
                    go_quiet (fail)
                    go_wp2_with (go_at_call 12; refine (HG1.out _).mono ?_; rintro e w' ⟨rfl, rfl⟩)
                    go_roundw
                    case rel => exact ⟨a + 1, b + 1, _, by go_num, by go_num, by omega, by omega, HON.out, rfl⟩
                    case measure => simp [intOf]; omega
              · have hbn := (below_drewN (Below.refl w7.heap.size w7) q)
                have hb7n := below_drewN hb67 q
                have hao : ¬ ((a : Int) < (T.length : Int)) := by omega
                clear hAt hr7 hrs
                by_cases hT0 : 0 < T.length
                · have t0 : decide (0 < (T.length : Int)) = true := decide_eq_true (by omega)
                  have t0' : decide (0 < T.length) = true := decide_eq_true hT0
                  obtain ⟨hf1, hf2⟩ := HAT.out hT0
                  have t1 : decide (((fewK S 8).length : Int) ≤ (fg : Int)) = false := decide_eq_false (by omega)
                  have fL : (0 : Int) ≤ (fg : Int) := by omega
                  have fU : (fg : Int) < ((fewK S 8).length : Int) := by omega
                  obtain ⟨adg, rfl, _, hcg⟩ := hrg7.numb hf1
                  rw [hf2] at hcg
                  rw [if_pos hT0] at HSTEP
                  clear hrg7
                  go_wp2
                  go_roundw
                  case rel => exact ⟨g + 1, by go_num, by omega, by rw [HALL.out]; go_num, by rw [HSTEP.out]; go_num, hb7n⟩
                  case measure => simp [intOf]; omega
                · have t0 : decide (0 < (T.length : Int)) = false := decide_eq_false (by omega)
                  have t0' : decide (0 < T.length) = false := decide_eq_false hT0
                  have t2 : T.length = 0 := by omega
                  rw [if_neg hT0] at HSTEP
                  clear hrg7
                  go_wp2
                  go_roundw
                  case rel => exact ⟨g + 1, by go_num, by omega, by rw [HALL.out]; go_num, by rw [HSTEP.out]; rfl, hb7n⟩
                  case measure => simp [intOf]; omega
          · have hg1 : g = L.length + 1 := by omega
            subst hg1
            rw [HALE.out, HF2.out]
            have HS1 := Lib.hid (share_any d L Ad cd (-1) A3 c3 l wr hEg.dir hRi hEg.wr (by omega))
            go_wp2_with (go_at_call 10; refine HGR.out.mono ?_; rintro e w' ⟨rfl, rfl⟩)
            refine HS1.out.mono ?_
            rintro e w7 ⟨As, cs, rfl, _, hb7, _⟩
            rw [shr_under]
            have hE7 := hEg.below hb7
            have HGR7 := Lib.hid (groups_any d Ad cd L w7 hE7.dir hfew)
            have HS2 := Lib.hid (share_any d L Ad cd ((L.length : Int) + 1) A3 c3 l w7 hE7.dir hRi hE7.wr (by omega))
            go_wp2_with (go_at_call 10; refine HGR7.out.mono ?_; rintro e w' ⟨rfl, rfl⟩)
            refine HS2.out.mono ?_
            rintro e w8 ⟨At, ct, rfl, _, hb8, _⟩
            rw [shr_over]
            go_wp2
            go_ret
            exact ⟨rfl, (hbe6.trans (hb.mono hbe6.size)).trans ((hb7.trans (hb8.mono hb7.size)).mono (Nat.le_trans hbe6.size hb.size))⟩
  · have hx0 : (newE L == 0) = false := beq_eq_false_iff_ne.2 hE
    have hx1 : (newE L != 0) = true := by simp [hE]
    have HN := Lib.hid (fun w1 (hb1 : Below w.heap.size w w1) => dnew_no A c w.heap.size L w1 (hr.below hb1) hb1.size (by omega) hE)
    generalize newE L = x at *
    clear hE
    go_enter Try.func6, Try.ntmps6
    go_wp2_with fail
    refine HW.out.mono ?_
    clear HW
    rintro e w1 ⟨rfl, hb1⟩
    go_wp2_with fail
    refine (HN.out w1 hb1).mono ?_
    clear HN
    rintro e w2 ⟨rfl, hb2⟩
    have hbe := hb1.trans (hb2.mono hb1.size)
    clear hb1 hb2
    go_wp2_with (go_at_call 9; refine (num_any _ _).mono ?_; rintro e w' ⟨rfl, rfl⟩)
    go_ret
    exact ⟨rfl, hbe⟩
end Go.Proofs.Ythenjpenfemmbaa
