/- Layer 7: the chapter's first example, and the law QuorumReached, walked. -/
import Derived.Test.YtfoojhjhinofmaaQiE
namespace Go.Proofs.Ytfoojhjhinofmaa
open Go.RowKit
set_option linter.unusedSimpArgs false
set_option linter.unusedVariables false

theorem reads_blk {w : World} {g B : Nat} {t : TypeId} {cs : Array Value} (h : Blk w g t cs) (hB : g < B) : Reads w B 1 (some ⟨g, 0, none⟩) cs.size cs.toList :=
  ⟨by simp, fun _ => ⟨_, rfl, hB, fun j u hj => by
    rw [Addr.add_lit, Nat.zero_add]
    exact (h.cell j).trans (by simpa using hj)⟩⟩
theorem srt_539 : srt [5, 3, 9] = [3, 5, 9] := by
  have h1 := srt_perm [5, 3, 9]
  have h2 := srt_sorted [5, 3, 9]
  have h3 : ([5, 3, 9] : List Int).Perm [3, 5, 9] := by decide
  exact (h1.trans h3).eq_of_pairwise (fun a b _ _ h h' => by omega) h2 (by simp)
theorem idx_539 : idxOf [5, 3, 9] = 5 := by unfold idxOf; rw [srt_539]; rfl
theorem pc_small : pc 3 5 = 2 ∧ pc 3 9 = 1 ∧ pc 3 3 = 2 := by decide
set_option maxHeartbeats 2000000 in
set_option maxRecDepth 100000 in
theorem works_any (w : World) : Calls Try.prog 18 #[] w (Done w) := by
  have n3 : needF 3 = 2 := by decide
  have w5 : wonF 3 5 = true := by unfold wonF bitsF; rw [n3]; decide
  have w9 : wonF 3 9 = false := by unfold wonF bitsF; rw [n3]; decide
  have l3 : lostF 3 3 = true := by unfold lostF bitsF; rw [n3]; decide
  have HN := Lib.hid (need_any 3 w)
  have H5 := Lib.hid (won_any 3 5 w (by decide))
  have H9 := Lib.hid (won_any 3 9 w (by decide))
  have H3 := Lib.hid (lost_any 3 3 w (by decide))
  rw [n3] at HN
  rw [w5] at H5
  rw [w9] at H9
  rw [l3] at H3
  have hb0 := below_alloc w (.cells #[.int .i64 5, .int .i64 3, .int .i64 9] 3)
  have HI := Lib.hid (index_any (some ⟨w.heap.size, 0, none⟩) 3 (w.alloc (.cells #[.int .i64 5, .int .i64 3, .int .i64 9] 3)).heap.size [5, 3, 9] (w.alloc (.cells #[.int .i64 5, .int .i64 3, .int .i64 9] 3)) (reads_blk (Blk.new w 3 #[.int .i64 5, .int .i64 3, .int .i64 9]) (by simp)) (Nat.le_refl _) (by decide))
  rw [idx_539] at HI
  clear n3 w5 w9 l3
  go_enter Try.func18, Try.ntmps18
  go_wp2_with fail
  refine HN.out.mono ?_
  rintro e w' ⟨rfl, rfl⟩
  go_wp2_with fail
  refine H5.out.mono ?_
  rintro e w' ⟨rfl, rfl⟩
  go_wp2_with fail
  refine H9.out.mono ?_
  rintro e w' ⟨rfl, rfl⟩
  go_wp2_with fail
  refine H3.out.mono ?_
  rintro e w' ⟨rfl, rfl⟩
  go_wp2_with fail
  refine HI.out.mono ?_
  rintro e w2 ⟨rfl, hb2⟩
  go_wp2
  go_ret
  exact ⟨rfl, hb0.trans (hb2.mono hb0.size)⟩

def ReachRel (M : List Int) (x : Int) (w0 : World) (r a i : Value) (wr : World) : Prop :=
  ∃ k : Nat, i = .int .i64 k ∧ k ≤ M.length ∧ r = .int .i64 (cnt (M.take k) x : Nat) ∧ a = .int .i64 (cntG (M.take k) x : Nat) ∧ wr = w0
theorem cnt_take_le (M : List Int) (k : Nat) (x : Int) : cnt (M.take k) x ≤ k := Nat.le_trans (cnt_le _ _) (by rw [List.length_take]; omega)
theorem cntG_take_le (M : List Int) (k : Nat) (x : Int) : cntG (M.take k) x ≤ k := Nat.le_trans (cntG_le _ _) (by rw [List.length_take]; omega)
set_option maxHeartbeats 4000000 in
set_option maxRecDepth 100000 in
theorem reached_any (A : Option Addr) (c : Nat) (M : List Int) (at_ by_ : Int) (w : World) (hr : Reads w w.heap.size 1 A M.length (ic M)) (hat1 : -9223372036854775808 ≤ at_) (hat2 : at_ ≤ 9223372036854775807) :
    Calls Try.prog 7 #[.slice A M.length c, .int .i64 at_, .int .i64 by_] w (Done w) := by
  obtain ⟨i0, hi0, hz0, hz1, hz2⟩ := info_parts Try.info3
  have HW := Lib.hid (works_any w)
  by_cases h0 : M.length = 0
  · have z0 : ((M.length : Int) == 0) = true := beq_iff_eq.2 (by omega)
    clear h0
    go_enter Try.func7, Try.ntmps7
    go_wp2_with fail
    refine HW.out.mono ?_
    rintro e w1 ⟨rfl, hb1⟩
    go_wp2
    go_ret
    exact ⟨rfl, hb1⟩
  by_cases hbig : 1000 < M.length
  · have z0 : ((M.length : Int) == 0) = false := beq_eq_false_iff_ne.2 (by omega)
    have z1 : decide (1000 < (M.length : Int)) = true := decide_eq_true (by omega)
    clear h0
    go_enter Try.func7, Try.ntmps7
    go_wp2_with fail
    refine HW.out.mono ?_
    rintro e w1 ⟨rfl, hb1⟩
    go_wp2
    go_ret
    exact ⟨rfl, hb1⟩
  have hpos : 0 < M.length := by omega
  have hll : M.length ≤ 1000 := by omega
  have z0 : ((M.length : Int) == 0) = false := beq_eq_false_iff_ne.2 (by omega)
  have z1 : decide (1000 < (M.length : Int)) = false := decide_eq_false (by omega)
  have hreach := idx_reach hpos
  have habove := idx_above hpos
  clear h0 hbig
  go_enter Try.func7, Try.ntmps7
  go_wp2_with fail
  refine HW.out.mono ?_
  clear HW
  rintro e w1 ⟨rfl, hb1⟩
  go_wp2_with fail
  refine (index_any A c w.heap.size M w1 (hr.below hb1) hb1.size (by omega)).mono ?_
  rintro e w2 ⟨rfl, hb2⟩
  have hb2' := hb1.trans (hb2.mono hb1.size)
  have hr2 := hr.below hb2'
  have hraise := fun v => @idx_raise M (((at_ % 18446744073709551616) % (M.length : Int)).toNat) v hpos
  obtain ⟨k, hk⟩ : ∃ k : Nat, ((at_ % 18446744073709551616) % (M.length : Int)) = (k : Int) := Int.eq_ofNat_of_zero_le (Int.emod_nonneg _ (by omega))
  have hkl : k < M.length := by have := Int.emod_lt_of_pos (at_ % 18446744073709551616) (show (0 : Int) < M.length by omega); omega
  rw [hk, Int.toNat_natCast] at hraise
  have HK := Lib.hid hk
  have HR := Lib.hid hraise
  clear hb1 hb2 hk hraise
  generalize hx : idxOf M = x at *
  go_wp2
  go_loopw [8, 9, 10] (ReachRel M x w2) (fun _ _ i _ => M.length - (intOf i).toNat)
  case atStart => exact ⟨0, rfl, Nat.zero_le _, rfl, rfl, rfl⟩
  case round =>
    obtain ⟨j, rfl, hj, rfl, rfl, rfl⟩ := hrel
    have b1 := cnt_take_le M j x
    have b2 := cntG_take_le M j x
    by_cases hlt : j < M.length
    · obtain ⟨ad, rfl, hadB, hcell⟩ := hr2.numb hlt
      have s1 := cnt_snoc (M.take j) x (gm M j)
      have s2 := cntG_snoc (M.take j) x (gm M j)
      rw [← take_on hlt] at s1 s2
      generalize gm M j = u at *
      by_cases hg1 : x < u
      · rw [if_pos (by omega)] at s1
        rw [if_pos hg1] at s2
        have S1 := Lib.hid s1
        have S2 := Lib.hid s2
        have y1 : decide (x ≤ u) = true := decide_eq_true (by omega)
        have y2 : decide (x < u) = true := decide_eq_true hg1
        clear s1 s2 hreach habove
        go_wp2
        go_roundw
        case rel => exact ⟨j + 1, by go_num, by omega, by rw [S1.out]; go_num, by rw [S2.out]; go_num, rfl⟩
        case measure => simp [intOf]; omega
      · by_cases hg2 : x ≤ u
        · rw [if_pos hg2] at s1
          rw [if_neg hg1] at s2
          have S1 := Lib.hid s1
          have S2 := Lib.hid s2
          have y1 : decide (x ≤ u) = true := decide_eq_true hg2
          have y2 : decide (x < u) = false := decide_eq_false hg1
          clear s1 s2 hreach habove
          go_wp2
          go_roundw
          case rel => exact ⟨j + 1, by go_num, by omega, by rw [S1.out]; go_num, by rw [S2.out]; go_num, rfl⟩
          case measure => simp [intOf]; omega
        · rw [if_neg hg2] at s1
          rw [if_neg hg1] at s2
          have S1 := Lib.hid s1
          have S2 := Lib.hid s2
          have y1 : decide (x ≤ u) = false := decide_eq_false hg2
          have y2 : decide (x < u) = false := decide_eq_false hg1
          clear s1 s2 hreach habove
          go_wp2
          go_roundw
          case rel => exact ⟨j + 1, by go_num, by omega, by rw [S1.out]; go_num, by rw [S2.out]; go_num, rfl⟩
          case measure => simp [intOf]; omega
    · have hT : M.take j = M := List.take_of_length_le (by omega)
      rw [hT]
      clear hT b1 b2
      have hge : M.length ≤ j := by omega
      have hw : wrap64 ((IntKind.u64.wrap at_).tmod (M.length : Int)) = (k : Int) := by
        rw [IntKind.wrap_u64, Int.tmod_eq_emod_of_nonneg (Int.emod_nonneg _ (by decide)), HK.out]
        exact IntWalk.wrap64_in _ (by omega)
      have hW := Lib.hid hw
      have q1 : decide ((M.length : Int) / 2 < (cnt M x : Int)) = true := decide_eq_true (by omega)
      have q1' : decide (M.length / 2 < cnt M x) = true := decide_eq_true hreach
      have q2 : decide ((cntG M x : Int) ≤ (M.length : Int) / 2) = true := decide_eq_true (by omega)
      have q2' : decide (cntG M x ≤ M.length / 2) = true := decide_eq_true habove
      have hcn := cnt_le M x
      have hcg := cntG_le M x
      clear hw hreach habove
      obtain ⟨v, hv⟩ : ∃ v, v = max (gm M k) by_ := ⟨_, rfl⟩
      have hle := Lib.hid (HR.out v (fun hk => by rw [← gm_at hk, hv]; omega))
      have hset := Lib.hid (show (ic M).set k (.int .i64 v) = ic (M.set k v) by unfold ic; rw [List.map_set])
      have hslen := Lib.hid (show (M.set k v).length = M.length from List.length_set)
      have kL : (0 : Int) ≤ (k : Int) := by omega
      have kU : (k : Int) < (M.length : Int) := by omega
      have HV := Lib.hid hv
      clear hv
      go_wp2_with (at_builtin; refine wpList_app rfl (.tmp 47) (.tmp 48) 31 31 rfl 3 i0 _ 1 8 Try.underlying31 hi0 hz0 hz1 hz2 rfl (by omega) (some ⟨wr.heap.size, 0, none⟩) 0 0 [] rfl (World.ownsRow_made wr #[] 0 (Nat.zero_le _) (by simp [maxLen]) rfl) _ M.length (ic M) rfl (Src.ofReads Try.underlying31 (hr2.alloc hb2'.size _) (ic_one _)) (by simp only [maxLen]; omega) (by omega) ?_; intro A1 k1 w1 hown1 hk1 hf1; rw [Nat.zero_add, List.nil_append] at hown1; obtain ⟨g, cap, hv, hg0, hgl⟩ := hown1.form (by omega); injection hv with hA _ hc; subst hA hc; have hw := hW.out; have x1 := (hown1.cellAt k (by omega)).trans (ic_at hkl); have x2 := hown1.frozenAt k)
      rw [← HV.out]
      obtain ⟨hst, _⟩ := hown1.stored k (.int .i64 v)
      rw [hset.out] at hst
      have hbm : Below wr.heap.size wr w1 := hk1.of_alloc.below (Nat.le_refl _) (by simp [ob])
      have hgf : wr.heap.size ≤ g := (hf1 g (by simp [ob])).elim (fun h => by simp [ob] at h; omega) (fun h => by simp at h; omega)
      have hbs := (hbm.setCell (p := ⟨g, k, none⟩) hgf (.int .i64 v))
      have hrm := Reads.of_own hst
      have HI := index_any (some ⟨g, 0, none⟩) k1 _ (M.set k v) _ (by rw [hslen.out]; exact hrm) (Nat.le_refl _) (by rw [hslen.out]; omega)
      rw [hslen.out] at HI
      have hle2 := hle.out
      have q3 : decide (x ≤ idxOf (M.set k v)) = true := decide_eq_true hle2
      have hbe := hb2'.trans (hbs.mono hb2'.size)
      clear hst hbm hbs hrm hown1 hk1 hf1 hle2 hw x1 x2
      generalize idxOf (M.set k v) = y at *
      refine HI.mono ?_
      clear HI
      rintro e w4 ⟨rfl, hb4⟩
      go_wp2
      go_ret
      exact ⟨rfl, hbe.trans (hb4.mono hbe.size)⟩
end Go.Proofs.Ytfoojhjhinofmaa
