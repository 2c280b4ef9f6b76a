/- RlogPlays: same. -/
import Derived.Test.YtdcnfdhhflmdcaaRpA
import Derived.Test.YtdcnfdhhflmdcaaRpC
import Derived.Test.YtdcnfdhhflmdcaaRbA
namespace Go.Proofs.Ytdcnfdhhflmdcaa
open Go.RowKit
set_option linter.unusedSimpArgs false
set_option linter.unusedVariables false

theorem sliceAll {b : Int} {l : List Ent} {n : Nat} (h : l.length ≤ n) : sliceE b l (b + 1) = 0 ∧ sliceL b l (b + 1) (n : Int) = l := by
  have h0 : sliceE b l (b + 1) = 0 := by unfold sliceE; rw [if_neg (by omega), if_neg (by omega)]
  refine ⟨h0, ?_⟩
  unfold sliceL
  rw [if_pos h0, show (b + 1 - b - 1).toNat = 0 by omega, List.drop_zero, show ((n : Int)).toNat = n by omega, List.take_of_length_le h]
set_option maxHeartbeats 4000000 in
set_option maxRecDepth 100000 in
theorem same_any (d1 d2 : Nat) (F1 F2 : List Nat) (b t : Int) (l : List Ent) (w : World) (h1 : IsLog 69 w d1 F1 b t l) (h2 : IsLog 74 w d2 F2 b t l) :
    Calls Try.prog 30 #[.pointer (some ⟨d1, 0, none⟩), .pointer (some ⟨d2, 0, none⟩)] w fun e w' => e = .returned (.bool true) ∧ Below w.heap.size w w' := by
  have hN := h1.few
  have hb0 := h1.b0
  have hb1 := h1.b1
  obtain ⟨N, hNN⟩ : ∃ N, N = l.length := ⟨_, rfl⟩
  rw [← hNN] at hN hb1
  have HNN := Lib.hid hNN
  have H1 := Lib.hid h1
  obtain ⟨A, c, ms, hG, _, hes⟩ := h2
  have hml : ms.length = N := by rw [← es_len, hes, hNN]
  have HG := Lib.hid hG
  have x0 : w.cell? ⟨d2, 0, none⟩ = some (.int .i64 b) := hG.blk.cell 0
  have x1 : w.cell? ⟨d2, 1, none⟩ = some (.int .i64 t) := hG.blk.cell 1
  have x2 : w.cell? ⟨d2, 2, none⟩ = some (.slice A N c) := by rw [← hml]; exact hG.blk.cell 2
  have HES := Lib.hid hes
  have HML := Lib.hid hml
  have HLA := Lib.hid (fun q => last_log (H1.out.drewN q))
  have HLR := Lib.hid (fun q => rlast_any d2 b t A c ms _ (HG.out.drewN q).ref_)
  rw [hes] at HLR
  unfold LastEnds lastI at HLA HLR
  rw [← hNN] at HLA HLR
  obtain ⟨TE, hTE⟩ : ∃ TE, TE = lastT b t l := ⟨_, rfl⟩
  rw [← hTE] at HLA HLR
  have HSA := Lib.hid (sliceAll (b := b) (l := l) (n := N + 1) (by omega))
  clear h1 hG hes hml hNN hTE
  go_enter Try.func30, Try.ntmps30
  go_wp2_with fail
  refine (base_log H1.out).mono ?_
  rintro e w' ⟨rfl, q1, rfl⟩
  go_wp2_with fail
  refine (HLA.out q1).mono ?_
  rintro e w' ⟨rfl, q2, rfl⟩
  go_wp2_with fail
  refine (HLR.out (q1 + q2)).mono ?_
  rintro e w' ⟨rfl, q3, rfl⟩
  go_wp2_with fail
  have e1 : (N : Int) + 1 = ((N + 1 : Nat) : Int) := by omega
  rw [e1]
  clear e1
  refine (slice_log (H1.out.drewN (q1 + q2 + q3)) (b + 1) ((N + 1 : Nat) : Int)).mono ?_
  rintro e w3 ⟨A3, c3, ns, he, hms, hO, hb3⟩
  rw [HSA.out.1] at he
  rw [HSA.out.2] at hms
  subst he
  have hnl : ns.length = N := by rw [← es_len, hms, HNN.out]
  have hb3w : Below w.heap.size w w3 := (below_drewN (Below.refl _ _) (q1 + q2 + q3)).trans hb3
  have hG3 := HG.out.below hb3w
  have x23 : w3.cell? ⟨d2, 2, none⟩ = some (.slice A ms.length c) := hG3.blk.cell 2
  have HB3 := Lib.hid hb3w
  have hsm : SmallL ns := SmallL.of (by omega) (H1.out.small (fun e he => by rw [hms] at he; exact he))
  have HC := Lib.hid (sameE_yes A3 A c3 c ns ms w3 hO.ents hG3.own.ents (by rw [hms, HES.out]) hsm)
  have HO := Lib.hid (hO.more (B' := w.heap.size) (by simp))
  have HSM := Lib.hid hsm
  clear hms hO hb3 hG3 hb3w hnl hsm x0 x1 x2
  go_wp2_with fail
  refine HC.out.mono ?_
  rintro e w4 ⟨rfl, hb4⟩
  have HO4 := Lib.hid (HO.out.below hb4)
  have HB4 := Lib.hid (HB3.out.trans (hb4.mono HB3.out.size))
  clear hb4
  go_wp2_with fail
  refine (spoil_any _ A3 c3 ns w4 HO4.out HSM.out).mono ?_
  rintro e w5 ⟨rfl, hk⟩
  have HB5 := Lib.hid (HB4.out.trans (hk.below HB4.out.size HO4.out.low))
  clear hk
  go_wp2
  go_ret
  exact ⟨rfl, HB5.out⟩
end Go.Proofs.Ytdcnfdhhflmdcaa
