/- rlog: Restore; the reference's Restore. -/
import Derived.Test.YtdcnfdhhflmdcaaLogB
namespace Go.Proofs.Ytdcnfdhhflmdcaa
open Go.RowKit
set_option linter.unusedSimpArgs false
set_option linter.unusedVariables false

def resOk (b t : Int) (p : List Ent) : Bool := cntB b && cntB t && ((b == 0) == (t == 0)) && riseB t p && decide ((p.length : Int) ≤ 1099511627776 - b)
def resE (b t : Int) (p : List Ent) : Int := if resOk b t p = false then 2 else if 512 < p.length then 131 else 0
def RestEnds (T : TypeId) (b t : Int) (p : List Ent) (w : World) (e : Ending) (w' : World) : Prop :=
  ∃ ptr, e = .returned (.tuple #[.pointer ptr, .int .i64 (resE b t p)]) ∧ (resE b t p ≠ 0 → ptr = none) ∧ (resE b t p = 0 → ∃ d F, ptr = some ⟨d, 0, none⟩ ∧ IsLog T w' d F b t p ∧ ∀ k ∈ F, w.heap.size ≤ k) ∧ Below w.heap.size w w'
set_option maxHeartbeats 4000000 in
theorem restore_any (b t : Int) (A0 : Option Addr) (c0 : Nat) (ps : List MEnt) (w : World) (hE : Ents w w.heap.size A0 ps.length ps) (hs : SmallL ps) :
    Calls Try.prog 20 #[.int .i64 b, .int .i64 t, .slice A0 ps.length c0] w (RestEnds 69 b t (es ps) w) := by
  have HCb := Lib.hid (fun w => count_any b w)
  have HCt := Lib.hid (fun w => count_any t w)
  have hpn : ps.length ≤ 977343669134 := by have := hs.1; omega
  have HRi := Lib.hid (rising_any t A0 c0 ps w hE (by omega))
  have HE := Lib.hid hE
  have HS := Lib.hid hs
  have hel := es_len ps
  have HR0 : Hid (resOk b t (es ps) = (cntB b && cntB t && ((b == 0) == (t == 0)) && riseB t (es ps) && decide ((ps.length : Int) ≤ 1099511627776 - b))) := Lib.hid (by unfold resOk; rw [hel])
  have HB0 : Hid (resOk b t (es ps) = false → resE b t (es ps) = 2) := Lib.hid (fun h => by unfold resE; rw [if_pos h])
  have HB1 : Hid (resOk b t (es ps) = true → resE b t (es ps) = if 512 < ps.length then 131 else 0) := Lib.hid (fun h => by unfold resE; rw [if_neg (by rw [h]; decide), hel])
  clear hs hE hel
  cases h1 : cntB b with
  | false =>
    rw [h1] at HCb HR0
    have HR := Lib.hid (HB0.out HR0.out)
    clear h1
    go_enter Try.func20, Try.ntmps20
    go_wp2_with fail
    refine (HCb.out _).mono ?_
    rintro e w' ⟨rfl, rfl⟩
    go_wp2
    go_ret2
    unfold RestEnds
    rw [HR.out]
    exact ⟨none, rfl, fun _ => rfl, fun h => absurd h (by decide), Below.refl _ _⟩
  | true =>
  have hp0 : 0 ≤ b ∧ b ≤ 1099511627776 := by unfold cntB at h1; exact of_decide_eq_true h1
  obtain ⟨hp0, hp1⟩ := hp0
  rw [h1] at HCb HR0
  cases h2 : cntB t with
  | false =>
    rw [h2] at HCt HR0
    have HR := Lib.hid (HB0.out HR0.out)
    clear h1 h2
    go_enter Try.func20, Try.ntmps20
    go_wp2_with fail
    refine (HCb.out _).mono ?_
    rintro e w' ⟨rfl, rfl⟩
    go_wp2_with fail
    refine (HCt.out _).mono ?_
    rintro e w' ⟨rfl, rfl⟩
    go_wp2
    go_ret2
    unfold RestEnds
    rw [HR.out]
    exact ⟨none, rfl, fun _ => rfl, fun h => absurd h (by decide), Below.refl _ _⟩
  | true =>
  rw [h2] at HCt HR0
  clear h1 h2
  obtain ⟨x, hx⟩ : ∃ x, (b == 0) = x := ⟨_, rfl⟩
  obtain ⟨y, hy⟩ : ∃ y, (t == 0) = y := ⟨_, rfl⟩
  rw [hx, hy] at HR0
  cases hxy : (x == y) with
  | false =>
    rw [hxy] at HR0
    have HR := Lib.hid (HB0.out HR0.out)
    go_enter Try.func20, Try.ntmps20
    go_wp2_with fail
    refine (HCb.out _).mono ?_
    rintro e w' ⟨rfl, rfl⟩
    go_wp2_with fail
    refine (HCt.out _).mono ?_
    rintro e w' ⟨rfl, rfl⟩
    go_wp2
    go_ret2
    unfold RestEnds
    rw [HR.out]
    exact ⟨none, rfl, fun _ => rfl, fun h => absurd h (by decide), Below.refl _ _⟩
  | true =>
  rw [hxy] at HR0
  cases h3 : riseB t (es ps) with
  | false =>
    rw [h3] at HRi HR0
    have HR := Lib.hid (HB0.out HR0.out)
    clear h3
    go_enter Try.func20, Try.ntmps20
    go_wp2_with fail
    refine (HCb.out _).mono ?_
    rintro e w' ⟨rfl, rfl⟩
    go_wp2_with fail
    refine (HCt.out _).mono ?_
    rintro e w' ⟨rfl, rfl⟩
    go_wp2_with fail
    refine HRi.out.mono ?_
    rintro e wx ⟨rfl, hbx⟩
    go_wp2
    go_ret2
    unfold RestEnds
    rw [HR.out]
    exact ⟨none, rfl, fun _ => rfl, fun h => absurd h (by decide), hbx⟩
  | true =>
  rw [h3] at HRi HR0
  clear h3
  by_cases h4 : (ps.length : Int) ≤ 1099511627776 - b
  rotate_left
  · rw [decide_eq_false h4] at HR0
    have HR := Lib.hid (HB0.out HR0.out)
    have z4 : decide (1099511627776 - b < (ps.length : Int)) = true := decide_eq_true (by omega)
    clear h4
    go_enter Try.func20, Try.ntmps20
    go_wp2_with fail
    refine (HCb.out _).mono ?_
    rintro e w' ⟨rfl, rfl⟩
    go_wp2_with fail
    refine (HCt.out _).mono ?_
    rintro e w' ⟨rfl, rfl⟩
    go_wp2_with fail
    refine HRi.out.mono ?_
    rintro e wx ⟨rfl, hbx⟩
    go_wp2
    go_ret2
    unfold RestEnds
    rw [HR.out]
    exact ⟨none, rfl, fun _ => rfl, fun h => absurd h (by decide), hbx⟩
  rw [decide_eq_true h4] at HR0
  have HR1 := Lib.hid (HB1.out HR0.out)
  have z4 : decide (1099511627776 - b < (ps.length : Int)) = false := decide_eq_false (by omega)
  have hroom : b + (ps.length : Int) ≤ 1099511627776 := by omega
  clear HB0 HR0 HB1 h4
  by_cases h5 : 512 < ps.length
  · have HR : Hid (resE b t (es ps) = 131) := Lib.hid (by rw [HR1.out, if_pos h5])
    have z5 : decide ((512 : Int) < (ps.length : Int)) = true := decide_eq_true (by omega)
    clear HR1
    go_enter Try.func20, Try.ntmps20
    go_wp2_with fail
    refine (HCb.out _).mono ?_
    rintro e w' ⟨rfl, rfl⟩
    go_wp2_with fail
    refine (HCt.out _).mono ?_
    rintro e w' ⟨rfl, rfl⟩
    go_wp2_with fail
    refine HRi.out.mono ?_
    rintro e wx ⟨rfl, hbx⟩
    go_wp2
    go_ret2
    unfold RestEnds
    rw [HR.out]
    exact ⟨none, rfl, fun _ => rfl, fun h => absurd h (by decide), hbx⟩
  · have HR : Hid (resE b t (es ps) = 0) := Lib.hid (by rw [HR1.out, if_neg h5])
    have z5 : decide ((512 : Int) < (ps.length : Int)) = false := decide_eq_false (by omega)
    clear HR1
    go_enter Try.func20, Try.ntmps20
    go_wp2_with fail
    refine (HCb.out _).mono ?_
    rintro e w' ⟨rfl, rfl⟩
    go_wp2_with fail
    refine (HCt.out _).mono ?_
    rintro e w' ⟨rfl, rfl⟩
    go_wp2_with fail
    refine HRi.out.mono ?_
    rintro e wx ⟨rfl, hbx⟩
    have HBX := Lib.hid hbx
    clear hbx
    go_wp2_with fail
    refine (some_any A0 c0 ps _ ((HE.out.below HBX.out).more HBX.out.size) HS.out).mono ?_
    rintro e w1 ⟨A, c, ns, he, hm, hO, hb1⟩
    have hl : ps.length = ns.length := by simpa using (congrArg List.length hm).symm
    have hfw : ns.length ≤ 512 := by omega
    have hrm : b + (ns.length : Int) ≤ 1099511627776 := by omega
    rw [hl] at he
    subst he
    have HM := Lib.hid hm
    have hbw := HBX.out.trans (hb1.mono HBX.out.size)
    have HBW := Lib.hid hbw
    have HO := Lib.hid (hO.more HBX.out.size)
    clear hm hb1 hbw hO hl
    go_wp2
    go_ret2
    unfold RestEnds
    rw [HR.out]
    have hba := below_alloc w1 (.cells (logC b t A ns.length c) 69)
    refine ⟨some ⟨w1.heap.size, 0, none⟩, rfl, fun h => absurd rfl h, fun _ => ⟨w1.heap.size, fpL w1.heap.size A ns, rfl, ⟨A, c, ns, ⟨Blk.new w1 69 (logC b t A ns.length c), (HO.out.below hba).more (Nat.zero_le _), hp0, hrm, hfw, small_of HM.out HS.out.2⟩, rfl, HM.out⟩, fun k hk => ?_⟩, HBW.out.alloc HBW.out.size _⟩
    rcases List.mem_cons.1 hk with rfl | h
    · exact HBW.out.size
    · exact HO.out.low k h
set_option maxHeartbeats 4000000 in
theorem rrestore_any (b t : Int) (A0 : Option Addr) (c0 : Nat) (ps : List MEnt) (w : World) (hE : Ents w w.heap.size A0 ps.length ps) (hs : SmallL ps) :
    Calls Try.prog 22 #[.int .i64 b, .int .i64 t, .slice A0 ps.length c0] w (RestEnds 74 b t (es ps) w) := by
  have HCb := Lib.hid (fun w => rcount_any b w)
  have HCt := Lib.hid (fun w => rcount_any t w)
  have hpn : ps.length ≤ 977343669134 := by have := hs.1; omega
  have HRi := Lib.hid (rrises_any t A0 c0 _ ps w hE (by omega))
  have HE := Lib.hid hE
  have HS := Lib.hid hs
  have hel := es_len ps
  have HR0 : Hid (resOk b t (es ps) = (cntB b && cntB t && ((b == 0) == (t == 0)) && riseB t (es ps) && decide ((ps.length : Int) ≤ 1099511627776 - b))) := Lib.hid (by unfold resOk; rw [hel])
  have HB0 : Hid (resOk b t (es ps) = false → resE b t (es ps) = 2) := Lib.hid (fun h => by unfold resE; rw [if_pos h])
  have HB1 : Hid (resOk b t (es ps) = true → resE b t (es ps) = if 512 < ps.length then 131 else 0) := Lib.hid (fun h => by unfold resE; rw [if_neg (by rw [h]; decide), hel])
  clear hs hE hel
  cases h1 : cntB b with
  | false =>
    rw [h1] at HCb HR0
    have HR := Lib.hid (HB0.out HR0.out)
    clear h1
    go_enter Try.func22, Try.ntmps22
    go_wp2_with fail
    refine (HCb.out _).mono ?_
    rintro e w' ⟨rfl, rfl⟩
    go_wp2
    go_ret2
    unfold RestEnds
    rw [HR.out]
    exact ⟨none, rfl, fun _ => rfl, fun h => absurd h (by decide), Below.refl _ _⟩
  | true =>
  have hp0 : 0 ≤ b ∧ b ≤ 1099511627776 := by unfold cntB at h1; exact of_decide_eq_true h1
  obtain ⟨hp0, hp1⟩ := hp0
  rw [h1] at HCb HR0
  cases h2 : cntB t with
  | false =>
    rw [h2] at HCt HR0
    have HR := Lib.hid (HB0.out HR0.out)
    clear h1 h2
    go_enter Try.func22, Try.ntmps22
    go_wp2_with fail
    refine (HCb.out _).mono ?_
    rintro e w' ⟨rfl, rfl⟩
    go_wp2_with fail
    refine (HCt.out _).mono ?_
    rintro e w' ⟨rfl, rfl⟩
    go_wp2
    go_ret2
    unfold RestEnds
    rw [HR.out]
    exact ⟨none, rfl, fun _ => rfl, fun h => absurd h (by decide), Below.refl _ _⟩
  | true =>
  rw [h2] at HCt HR0
  clear h1 h2
  obtain ⟨x, hx⟩ : ∃ x, (b == 0) = x := ⟨_, rfl⟩
  obtain ⟨y, hy⟩ : ∃ y, (t == 0) = y := ⟨_, rfl⟩
  rw [hx, hy] at HR0
  cases hxy : (x == y) with
  | false =>
    rw [hxy] at HR0
    have HR := Lib.hid (HB0.out HR0.out)
    go_enter Try.func22, Try.ntmps22
    go_wp2_with fail
    refine (HCb.out _).mono ?_
    rintro e w' ⟨rfl, rfl⟩
    go_wp2_with fail
    refine (HCt.out _).mono ?_
    rintro e w' ⟨rfl, rfl⟩
    go_wp2
    go_ret2
    unfold RestEnds
    rw [HR.out]
    exact ⟨none, rfl, fun _ => rfl, fun h => absurd h (by decide), Below.refl _ _⟩
  | true =>
  rw [hxy] at HR0
  cases h3 : riseB t (es ps) with
  | false =>
    rw [h3] at HRi HR0
    have HR := Lib.hid (HB0.out HR0.out)
    clear h3
    go_enter Try.func22, Try.ntmps22
    go_wp2_with fail
    refine (HCb.out _).mono ?_
    rintro e w' ⟨rfl, rfl⟩
    go_wp2_with fail
    refine (HCt.out _).mono ?_
    rintro e w' ⟨rfl, rfl⟩
    go_wp2_with fail
    refine HRi.out.mono ?_
    rintro e wx ⟨rfl, q, rfl⟩
    have hbx := below_drewN (Below.refl w.heap.size w) q
    go_wp2
    go_ret2
    unfold RestEnds
    rw [HR.out]
    exact ⟨none, rfl, fun _ => rfl, fun h => absurd h (by decide), hbx⟩
  | true =>
  rw [h3] at HRi HR0
  clear h3
  by_cases h4 : (ps.length : Int) ≤ 1099511627776 - b
  rotate_left
  · rw [decide_eq_false h4] at HR0
    have HR := Lib.hid (HB0.out HR0.out)
    have z4 : decide (1099511627776 - b < (ps.length : Int)) = true := decide_eq_true (by omega)
    clear h4
    go_enter Try.func22, Try.ntmps22
    go_wp2_with fail
    refine (HCb.out _).mono ?_
    rintro e w' ⟨rfl, rfl⟩
    go_wp2_with fail
    refine (HCt.out _).mono ?_
    rintro e w' ⟨rfl, rfl⟩
    go_wp2_with fail
    refine HRi.out.mono ?_
    rintro e wx ⟨rfl, q, rfl⟩
    have hbx := below_drewN (Below.refl w.heap.size w) q
    go_wp2
    go_ret2
    unfold RestEnds
    rw [HR.out]
    exact ⟨none, rfl, fun _ => rfl, fun h => absurd h (by decide), hbx⟩
  rw [decide_eq_true h4] at HR0
  have HR1 := Lib.hid (HB1.out HR0.out)
  have z4 : decide (1099511627776 - b < (ps.length : Int)) = false := decide_eq_false (by omega)
  have hroom : b + (ps.length : Int) ≤ 1099511627776 := by omega
  clear HB0 HR0 HB1 h4
  by_cases h5 : 512 < ps.length
  · have HR : Hid (resE b t (es ps) = 131) := Lib.hid (by rw [HR1.out, if_pos h5])
    have z5 : decide ((512 : Int) < (ps.length : Int)) = true := decide_eq_true (by omega)
    clear HR1
    go_enter Try.func22, Try.ntmps22
    go_wp2_with fail
    refine (HCb.out _).mono ?_
    rintro e w' ⟨rfl, rfl⟩
    go_wp2_with fail
    refine (HCt.out _).mono ?_
    rintro e w' ⟨rfl, rfl⟩
    go_wp2_with fail
    refine HRi.out.mono ?_
    rintro e wx ⟨rfl, q, rfl⟩
    have hbx := below_drewN (Below.refl w.heap.size w) q
    go_wp2
    go_ret2
    unfold RestEnds
    rw [HR.out]
    exact ⟨none, rfl, fun _ => rfl, fun h => absurd h (by decide), hbx⟩
  · have HR : Hid (resE b t (es ps) = 0) := Lib.hid (by rw [HR1.out, if_neg h5])
    have z5 : decide ((512 : Int) < (ps.length : Int)) = false := decide_eq_false (by omega)
    clear HR1
    go_enter Try.func22, Try.ntmps22
    go_wp2_with fail
    refine (HCb.out _).mono ?_
    rintro e w' ⟨rfl, rfl⟩
    go_wp2_with fail
    refine (HCt.out _).mono ?_
    rintro e w' ⟨rfl, rfl⟩
    go_wp2_with fail
    refine HRi.out.mono ?_
    rintro e wx ⟨rfl, q, rfl⟩
    have hbx := below_drewN (Below.refl w.heap.size w) q
    have HBX := Lib.hid hbx
    clear hbx
    go_wp2_with fail
    refine (copies_any A0 c0 ps _ ((HE.out.below HBX.out).more HBX.out.size) HS.out).mono ?_
    rintro e w1 ⟨A, c, ns, he, hm, hO, hb1⟩
    have hl : ps.length = ns.length := by simpa using (congrArg List.length hm).symm
    have hfw : ns.length ≤ 512 := by omega
    have hrm : b + (ns.length : Int) ≤ 1099511627776 := by omega
    rw [hl] at he
    subst he
    have HM := Lib.hid hm
    have hbw := HBX.out.trans (hb1.mono HBX.out.size)
    have HBW := Lib.hid hbw
    have HO := Lib.hid (hO.more HBX.out.size)
    clear hm hb1 hbw hO hl
    go_wp2
    go_ret2
    unfold RestEnds
    rw [HR.out]
    have hba := below_alloc w1 (.cells (logC b t A ns.length c) 74)
    refine ⟨some ⟨w1.heap.size, 0, none⟩, rfl, fun h => absurd rfl h, fun _ => ⟨w1.heap.size, fpL w1.heap.size A ns, rfl, ⟨A, c, ns, ⟨Blk.new w1 74 (logC b t A ns.length c), (HO.out.below hba).more (Nat.zero_le _), hp0, hrm, hfw, small_of HM.out HS.out.2⟩, rfl, HM.out⟩, fun k hk => ?_⟩, HBW.out.alloc HBW.out.size _⟩
    rcases List.mem_cons.1 hk with rfl | h
    · exact HBW.out.size
    · exact HO.out.low k h
end Go.Proofs.Ytdcnfdhhflmdcaa
