/- Locks: LocksPlays. -/
import Derived.Test.YtpidpdbjjdkhoaaGreatGzK
namespace Go.Proofs.YtpidpdbjjdkhoaaGreat
open Go.RowKit
set_option linter.unusedSimpArgs false
set_option linter.unusedVariables false
attribute [local go_sem ↓] Go.wp_at_zero Go.wp_at_succ

def opR : RowT LOp := ⟨fun o => [.int .i64 o.kind, .int .i64 o.id.n, .int .i64 o.id.c, .string o.key, .int .i64 o.mode], 5, ⟨0, ⟨0, 0⟩, ⟨#[]⟩, 0⟩, by decide, fun _ => rfl, fun x u hu => by
  simp only [List.mem_cons, List.mem_nil_iff, or_false] at hu
  rcases hu with rfl | rfl | rfl | rfl | rfl <;> rfl⟩
theorem rdO {w : World} {B n : Nat} {A : Option Addr} {l : List LOp} (h : Reads w B 5 A n (rc opR l)) {k : Nat} (hk : k < l.length) :
    ∃ b off, A = some ⟨b, off, none⟩ ∧ b < B ∧ w.cell? ⟨b, off + k * 5, none⟩ = some (.int .i64 (gr opR l k).kind) ∧ w.cell? ⟨b, off + k * 5 + 1, none⟩ = some (.int .i64 (gr opR l k).id.n) ∧ w.cell? ⟨b, off + k * 5 + 2, none⟩ = some (.int .i64 (gr opR l k).id.c) ∧ w.cell? ⟨b, off + k * 5 + 3, none⟩ = some (.string (gr opR l k).key) ∧ w.cell? ⟨b, off + k * 5 + 4, none⟩ = some (.int .i64 (gr opR l k).mode) := by
  obtain ⟨b, off, hA, hb, hc⟩ := Reads.elt (R := opR) h hk
  exact ⟨b, off, hA, hb, hc 0 _ rfl, hc 1 _ rfl, hc 2 _ rfl, hc 3 _ rfl, hc 4 _ rfl⟩
theorem rnew_any (most : Int) (w : World) : Calls Tryz.prog 6 #[.int .i64 most] w fun e w' => e = .returned (.pointer (some ⟨w.heap.size, 0, none⟩)) ∧ w' = w.alloc (.cells (tbC (tb0 most) tm0) 49) := by
  have HT : Hid (tbC (tb0 most) tm0 = #[.int .i64 (max 0 most), .slice none 0 0, .slice none 0 0, .slice none 0 0, .slice none 0 0]) := Lib.hid rfl
  go_enter Tryz.func6, Tryz.ntmps6
  go_wp2
  go_ret
  exact ⟨rfl, by rw [HT.out]⟩
theorem rnew_at (w : World) (most : Int) : RfAt (w.alloc (.cells (tbC (tb0 most) tm0) 49)) w.heap.size (tb0 most) tm0 :=
  ⟨Blk.new _ _ _, World.ownsRow_nil _ _ _ _, World.ownsRow_nil _ _ _ _, World.ownsRow_nil _ _ _ _, World.ownsRow_nil _ _ _ _, by simp [tb0], by simp [tb0]⟩
def PlRel (W : World) (d g : Nat) (i : Value) (wr : World) : Prop := ∃ (k : Nat) (q : Tb) (m n : TbM), i = .int .i64 k ∧ k ≤ 200 ∧ Bth W [] d g q m q n wr ∧ Sane k q
set_option maxHeartbeats 8000000 in
set_option maxRecDepth 100000 in
theorem locksPlays_any (most : Int) (A : Option Addr) (c : Nat) (os : List LOp) (W : World) (hO : Reads W W.heap.size 5 A os.length (rc opR os)) :
    Calls Tryz.prog 3 #[.int .i64 most, .slice A os.length c] W fun e w' => e = .returned (.bool true) ∧ Below W.heap.size W w' := by
  have HO := Lib.hid hO
  clear hO
  go_enter Tryz.func3, Tryz.ntmps3
  go_wp2_with fail
  refine (new_any most _).mono ?_
  rintro e w1 ⟨rfl, hw1⟩
  have HW1 := Lib.hid hw1
  clear hw1
  go_wp2_with fail
  refine (rnew_any most _).mono ?_
  rintro e w2 ⟨rfl, hw2⟩
  have HX0 : Hid (Bth W [] W.heap.size w1.heap.size (tb0 most) tm0 (tb0 most) tm0 w2) := Lib.hid (by
    have hw1 := HW1.out
    have h1 : TbAt w1 W.heap.size (tb0 most) tm0 := by rw [hw1]; exact new_at W most
    have hs : w1.heap.size = W.heap.size + 1 := by rw [hw1]; simp
    have hb1 : Below W.heap.size W w1 := by rw [hw1]; exact below_alloc W _
    have hb2 : Below w1.heap.size w1 w2 := by rw [hw2]; exact below_alloc w1 _
    have h2 : RfAt w2 w1.heap.size (tb0 most) tm0 := by rw [hw2]; exact rnew_at w1 most
    refine ⟨h1.below hb2, h2, fun k hk hf => ?_, fun k hk => ?_, fun k hk => ?_, by simp, hb1.trans (hb2.mono hb1.size)⟩
    · simp [fpT, tm0, ob] at hk hf; omega
    · simp [fpT, tm0, ob] at hk; omega
    · simp [fpT, tm0, ob] at hk; omega)
  obtain ⟨d, hd⟩ : ∃ d, d = W.heap.size := ⟨_, rfl⟩
  obtain ⟨g, hg⟩ : ∃ g, g = w1.heap.size := ⟨_, rfl⟩
  rw [← hg] at HX0
  rw [← hg]
  have HX1 : Hid (Bth W [] d g (tb0 most) tm0 (tb0 most) tm0 w2) := Lib.hid (by rw [hd]; exact HX0.out)
  rw [← hd]
  clear HW1 hw2 hd hg HX0
  go_wp2
  go_loopw [7] (PlRel W d g) (fun i _ => 200 - (intOf i).toNat)
  case atStart => exact ⟨0, tb0 most, tm0, tm0, rfl, by omega, HX1.out, sane0 most⟩
  case round =>
    clear HX1
    obtain ⟨kk, q, m, n, rfl, hk, hx, hs⟩ := hrel
    have HX := Lib.hid hx
    have HS := Lib.hid hs
    clear hx hs
    by_cases hgo : kk < os.length ∧ kk < 200
    · obtain ⟨hg1, hg2⟩ := hgo
      obtain ⟨bo, off, rfl, hbo, y0, y1, y2, y3, y4⟩ := rdO (HO.out.below HX.out.bel) hg1
      obtain ⟨o, ho⟩ : ∃ o, o = gr opR os kk := ⟨_, rfl⟩
      rw [← ho] at y0 y1 y2 y3 y4
      have kL : (0 : Int) ≤ (kk : Int) := by omega
      have kU : (kk : Int) < (os.length : Int) := by omega
      have k1 : (kk : Int) < 200 := by omega
      have HC := Lib.hid (act_any HX.out HS.out (by omega) o)
      unfold lopV at HC
      clear ho
      go_wp2_with fail
      refine HC.out.mono ?_
      clear HC
      rintro e w3 ⟨rfl, m', n', hx⟩
      have HX3 := Lib.hid hx
      have HS3 := Lib.hid (HS.out.step o)
      clear hx y0 y1 y2 y3 y4 HX HS
      go_wp2
      go_roundw
      case rel => exact ⟨kk + 1, _, m', n', by go_num, by omega, HX3.out, HS3.out⟩
      case measure => simp [intOf]; omega
    · have hz : decide (kk < os.length) = false ∨ (decide (kk < os.length) = true ∧ decide ((kk : Int) < 200) = false) := by
        by_cases h1 : kk < os.length
        · exact .inr ⟨decide_eq_true (by omega), decide_eq_false (by omega)⟩
        · exact .inl (decide_eq_false (by omega))
      have HSM := Lib.hid (same_any HX.out.tb HX.out.rf ⟨by have := HS.out.prep; omega, by have := HS.out.hurt; omega⟩)
      clear hgo
      rcases hz with z1 | ⟨z1, z2⟩
      all_goals
        go_wp2_with fail
        refine HSM.out.mono ?_
        rintro e w3 ⟨rfl, hb3⟩
        go_wp2
        go_ret
        exact ⟨rfl, HX.out.bel.trans (hb3.mono HX.out.bel.size)⟩
end Go.Proofs.YtpidpdbjjdkhoaaGreat
