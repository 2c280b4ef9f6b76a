/- Locks: works. -/
import Derived.Test.YtpidpdbjjdkhoaaLlB
import Derived.Test.YtpidpdbjjdkhoaaLlD
namespace Go.Proofs.Ytpidpdbjjdkhoaa
open Go.RowKit
set_option linter.unusedSimpArgs false
set_option linter.unusedVariables false
attribute [local go_sem ↓] Go.wp_at_zero Go.wp_at_succ

/-- a table, apart from the blocks T, all in memory that is newer than w0 -/
structure TbX (w0 : World) (T : List Nat) (d : Nat) (q : Tb) (m : TbM) (w : World) : Prop where
  tb : TbAt w d q m
  lo : ∀ k ∈ fpT d m, w0.heap.size ≤ k
  ap : ∀ k ∈ T, k ∉ fpT d m
  lt : ∀ k ∈ T, k < w.heap.size
  bel : Below w0.heap.size w0 w
section
variable {w0 w w' : World} {T : List Nat} {d : Nat} {q q' : Tb} {m m' : TbM}
theorem TbX.step (h : TbX w0 T d q m w) (ht : TbAt w' d q' m') (hm : Moves (fpT d m) (fpT d m') w w') : TbX w0 T d q' m' w' :=
  ⟨ht, fun k hk => (hm.foot k hk).elim (h.lo k) (fun h1 => Nat.le_trans h.bel.size h1), hm.apart h.lt h.ap, fun k hk => Nat.lt_of_lt_of_le (h.lt k hk) hm.kept.size, h.bel.trans (hm.below h.bel.size h.lo)⟩
theorem TbX.below (h : TbX w0 T d q m w) (hb : Below w.heap.size w w') : TbX w0 T d q m w' :=
  ⟨h.tb.below hb, h.lo, h.ap, fun k hk => Nat.lt_of_lt_of_le (h.lt k hk) hb.size, h.bel.trans (hb.mono h.bel.size)⟩
theorem TbX.less (h : TbX w0 T d q m w) {T' : List Nat} (hs : ∀ k ∈ T', k ∈ T) : TbX w0 T' d q m w := ⟨h.tb, h.lo, fun k hk => h.ap k (hs k hk), fun k hk => h.lt k (hs k hk), h.bel⟩
theorem TbX.more (h : TbX w0 T d q m w) {T' : List Nat} (hs : ∀ k ∈ T', k ∉ fpT d m ∧ k < w.heap.size) : TbX w0 (T' ++ T) d q m w :=
  ⟨h.tb, h.lo, fun k hk => (List.mem_append.1 hk).elim (fun h1 => (hs k h1).1) (h.ap k), fun k hk => (List.mem_append.1 hk).elim (fun h1 => (hs k h1).2) (h.lt k), h.bel⟩
theorem TbX.fresh (h : TbX w0 T d q m w) {T' : List Nat} (hb : Below w.heap.size w w') (hs : ∀ k ∈ T', w.heap.size ≤ k ∧ k < w'.heap.size) : TbX w0 (T' ++ T) d q m w' :=
  (h.below hb).more fun k hk => ⟨fun hm => by have := h.tb.lt k hm; have := (hs k hk).1; omega, (hs k hk).2⟩
end
theorem tbx0 {W w : World} (most : Int) (hb : Below W.heap.size W w) : TbX W [] w.heap.size (tb0 most) tm0 (w.alloc (.cells (tbC (tb0 most) tm0) 59)) :=
  ⟨new_at w most, fun k hk => by simp [fpT, tm0, ob] at hk; rw [hk]; exact hb.size, by simp, by simp, hb.alloc hb.size _⟩
theorem reads_blk {w : World} {g : Nat} {t : TypeId} {cs : Array Value} {n size : Nat} (h : Blk w g t cs) (hl : cs.size = n * size) : Reads w w.heap.size size (some ⟨g, 0, none⟩) n cs.toList :=
  ⟨by rw [Array.length_toList]; exact hl, fun _ => ⟨_, rfl, h.lt, fun j u hu => by
    rw [Addr.add_lit, Nat.zero_add, h.cell j, ← Array.getElem?_toList]; exact hu⟩⟩
theorem wk1 : askT (tb0 10) ⟨⟨#[97]⟩, ⟨2, 0⟩, 2⟩ = ⟨10, [⟨⟨#[97]⟩, ⟨2, 0⟩, 2⟩], [], [], []⟩ := by kernel_rfl
theorem wk1e : askE (tb0 10) ⟨⟨#[97]⟩, ⟨2, 0⟩, 2⟩ = 0 := by kernel_rfl
theorem wk1h : askH (tb0 10) ⟨⟨#[97]⟩, ⟨2, 0⟩, 2⟩ = [] := by kernel_rfl
theorem wk2 : askT ⟨10, [⟨⟨#[97]⟩, ⟨2, 0⟩, 2⟩], [], [], []⟩ ⟨⟨#[97]⟩, ⟨1, 0⟩, 1⟩ = ⟨10, [⟨⟨#[97]⟩, ⟨2, 0⟩, 2⟩], [⟨⟨#[97]⟩, ⟨1, 0⟩, 1⟩], [], [⟨2, 0⟩]⟩ := by kernel_rfl
theorem wk2e : askE ⟨10, [⟨⟨#[97]⟩, ⟨2, 0⟩, 2⟩], [], [], []⟩ ⟨⟨#[97]⟩, ⟨1, 0⟩, 1⟩ = 150 := by kernel_rfl
theorem wk2h : askH ⟨10, [⟨⟨#[97]⟩, ⟨2, 0⟩, 2⟩], [], [], []⟩ ⟨⟨#[97]⟩, ⟨1, 0⟩, 1⟩ = [⟨2, 0⟩] := by kernel_rfl
theorem wk3 : edges ⟨10, [⟨⟨#[97]⟩, ⟨2, 0⟩, 2⟩], [⟨⟨#[97]⟩, ⟨1, 0⟩, 1⟩], [], [⟨2, 0⟩]⟩ = [⟨⟨#[97]⟩, ⟨1, 0⟩, ⟨2, 0⟩⟩] := by kernel_rfl
theorem wk4 : askT ⟨10, [⟨⟨#[97]⟩, ⟨2, 0⟩, 2⟩], [⟨⟨#[97]⟩, ⟨1, 0⟩, 1⟩], [], [⟨2, 0⟩]⟩ ⟨⟨#[98]⟩, ⟨2, 0⟩, 1⟩ = ⟨10, [⟨⟨#[97]⟩, ⟨2, 0⟩, 2⟩], [⟨⟨#[97]⟩, ⟨1, 0⟩, 1⟩], [], [⟨2, 0⟩]⟩ := by kernel_rfl
theorem wk4e : askE ⟨10, [⟨⟨#[97]⟩, ⟨2, 0⟩, 2⟩], [⟨⟨#[97]⟩, ⟨1, 0⟩, 1⟩], [], [⟨2, 0⟩]⟩ ⟨⟨#[98]⟩, ⟨2, 0⟩, 1⟩ = 8 := by kernel_rfl
theorem wk5 : (endS ⟨10, [⟨⟨#[97]⟩, ⟨2, 0⟩, 2⟩], [⟨⟨#[97]⟩, ⟨1, 0⟩, 1⟩], [], [⟨2, 0⟩]⟩ ⟨2, 0⟩).2 = [⟨⟨#[97]⟩, ⟨1, 0⟩, 1⟩] := by kernel_rfl
set_option maxHeartbeats 4000000 in
set_option maxRecDepth 100000 in
theorem works_any (W : World) : Calls Try.prog 6 #[] W fun e w' => e = .returned (.bool true) ∧ Below W.heap.size W w' := by
  go_enter Try.func6, Try.ntmps6
  go_wp2_with fail
  refine (new_any 10 _).mono ?_
  rintro e w1 ⟨rfl, hw1⟩
  have HX1 : Hid (TbX W [] W.heap.size (tb0 10) tm0 w1) := Lib.hid (by rw [hw1]; exact tbx0 10 (Below.refl _ _))
  obtain ⟨d, hd⟩ : ∃ d, d = W.heap.size := ⟨_, rfl⟩
  rw [← hd] at HX1
  rw [← hd]
  clear hw1 hd
  go_upto_region 5 with fail
  have k1 := (Blk.new w1 34 #[.int .i64 1, .int .i64 0]).alloc (.cells #[.int .i64 2, .int .i64 0] 34)
  have k2 := Blk.new (w1.alloc (.cells #[.int .i64 1, .int .i64 0] 34)) 34 #[.int .i64 2, .int .i64 0]
  simp only [World.size_alloc] at k2
  have HB := Lib.hid ((below_alloc w1 (.cells #[.int .i64 1, .int .i64 0] 34)).alloc (by simp) (.cells #[.int .i64 2, .int .i64 0] 34))
  obtain ⟨w2, hw2⟩ : ∃ w2, w2 = ((w1.alloc (.cells #[.int .i64 1, .int .i64 0] 34)).alloc (.cells #[.int .i64 2, .int .i64 0] 34)) := ⟨_, rfl⟩
  obtain ⟨p1, hp1⟩ : ∃ p1, p1 = w1.heap.size := ⟨_, rfl⟩
  obtain ⟨p2, hp2⟩ : ∃ p2, p2 = w1.heap.size + 1 := ⟨_, rfl⟩
  rw [← hw2] at HB k1 k2
  rw [← hp1] at k1
  rw [← hp2] at k2
  rw [← hw2]
  rw [← hp2]
  rw [← hp1]
  clear hw2
  have HP1 : Hid (w1.heap.size ≤ p1) := Lib.hid (by rw [hp1]; exact Nat.le_refl _)
  have HP2 : Hid (w1.heap.size ≤ p2) := Lib.hid (by rw [hp2]; omega)
  have K1 := Lib.hid k1
  have K2 := Lib.hid k2
  have HX2 := Lib.hid (HX1.out.fresh (T' := [p1, p2]) HB.out (fun k hk => by
    simp only [List.mem_cons, List.mem_nil_iff, or_false] at hk
    rcases hk with rfl | rfl
    · exact ⟨HP1.out, K1.out.lt⟩
    · exact ⟨HP2.out, K2.out.lt⟩))
  clear k1 k2 hp1 hp2 HX1 HB
  have x0 : w2.cell? ⟨p2, 0, none⟩ = some (.int .i64 2) := K2.out.cell 0
  have x1 : w2.cell? ⟨p2, 1, none⟩ = some (.int .i64 0) := K2.out.cell 1
  have HC : Hid (Calls Try.prog 15 #[.pointer (some ⟨d, 0, none⟩), .agg #[.int .i64 2, .int .i64 0], .string ⟨#[97]⟩, .int .i64 2] w2 (AskEnds d _ _ ⟨⟨#[97]⟩, ⟨2, 0⟩, 2⟩ w2)) := Lib.hid (ask_any HX2.out.tb ⟨⟨#[97]⟩, ⟨2, 0⟩, 2⟩ (by decide) (by first | (rw [wk1]; decide) | (rw [wk2]; decide) | (rw [wk4]; decide)))
  go_wp2_with fail
  refine HC.out.mono ?_
  clear x0 x1 HC
  rintro e w3 ⟨A1, c1, rfl, ho, hf, m1, ht, hm, ha⟩
  rw [wk1e, wk1h]
  rw [wk1] at ht
  have HX3 := Lib.hid (HX2.out.step ht hm)
  have J1 := Lib.hid (hm.kept.blk K1.out (HX2.out.ap p1 (by simp)))
  have J2 := Lib.hid (hm.kept.blk K2.out (HX2.out.ap p2 (by simp)))
  clear ho hf ht hm ha K1 K2 HX2
  have x0 : w3.cell? ⟨p1, 0, none⟩ = some (.int .i64 1) := J1.out.cell 0
  have x1 : w3.cell? ⟨p1, 1, none⟩ = some (.int .i64 0) := J1.out.cell 1
  have HC : Hid (Calls Try.prog 15 #[.pointer (some ⟨d, 0, none⟩), .agg #[.int .i64 1, .int .i64 0], .string ⟨#[97]⟩, .int .i64 1] w3 (AskEnds d _ _ ⟨⟨#[97]⟩, ⟨1, 0⟩, 1⟩ w3)) := Lib.hid (ask_any HX3.out.tb ⟨⟨#[97]⟩, ⟨1, 0⟩, 1⟩ (by decide) (by first | (rw [wk1]; decide) | (rw [wk2]; decide) | (rw [wk4]; decide)))
  go_wp2_with fail
  refine HC.out.mono ?_
  clear x0 x1 HC
  rintro e w4 ⟨A2, c2, rfl, ho, hf, m2, ht, hm, ha⟩
  rw [wk2h] at ho
  rw [wk2e, wk2h]
  rw [wk2] at ht
  have HX4 := Lib.hid ((HX3.out.step ht hm).more (T' := ob A2) (fun k hk => ⟨ha k hk, own_lt ho k hk⟩))
  have K1 := Lib.hid (hm.kept.blk J1.out (HX3.out.ap p1 (by simp)))
  have K2 := Lib.hid (hm.kept.blk J2.out (HX3.out.ap p2 (by simp)))
  have HO := Lib.hid ho
  clear ho hf ht hm ha J1 J2 HX3
  have HE := Lib.hid (edges_any HX4.out.tb)
  go_wp2_with fail
  refine HE.out.mono ?_
  clear HE
  rintro e w5 ⟨A3, c3, rfl, ho3, hf3, hb3⟩
  rw [wk3] at ho3
  rw [wk3]
  have HX5 := Lib.hid ((HX4.out.fresh (T' := ob A3) hb3 (fun k hk => ⟨hf3 k hk, own_lt ho3 k hk⟩)))
  have J1 := Lib.hid (K1.out.below hb3 K1.out.lt)
  have J2 := Lib.hid (K2.out.below hb3 K2.out.lt)
  have HO2 := Lib.hid ((Kept.of_below (S := []) hb3).own HO.out (by simp))
  have HO3 := Lib.hid ho3
  clear ho3 hf3 hb3 K1 K2 HX4 HO
  have x0 : w5.cell? ⟨p2, 0, none⟩ = some (.int .i64 2) := J2.out.cell 0
  have x1 : w5.cell? ⟨p2, 1, none⟩ = some (.int .i64 0) := J2.out.cell 1
  have HC : Hid (Calls Try.prog 15 #[.pointer (some ⟨d, 0, none⟩), .agg #[.int .i64 2, .int .i64 0], .string ⟨#[98]⟩, .int .i64 1] w5 (AskEnds d _ _ ⟨⟨#[98]⟩, ⟨2, 0⟩, 1⟩ w5)) := Lib.hid (ask_any HX5.out.tb ⟨⟨#[98]⟩, ⟨2, 0⟩, 1⟩ (by decide) (by first | (rw [wk1]; decide) | (rw [wk2]; decide) | (rw [wk4]; decide)))
  go_wp2_with fail
  refine HC.out.mono ?_
  clear x0 x1 HC
  rintro e w6 ⟨A4, c4, rfl, ho, hf, m6, ht, hm, ha⟩
  rw [wk4e]
  rw [wk4] at ht
  have HX6 := Lib.hid (HX5.out.step ht hm)
  have K1 := Lib.hid (hm.kept.blk J1.out (HX5.out.ap p1 (by simp)))
  have K2 := Lib.hid (hm.kept.blk J2.out (HX5.out.ap p2 (by simp)))
  have HO4 := Lib.hid (hm.kept.own HO2.out (fun g hg => HX5.out.ap g (by simp [ownBlock_mem.1 hg])))
  have HO5 := Lib.hid (hm.kept.own HO3.out (fun g hg => HX5.out.ap g (by simp [ownBlock_mem.1 hg])))
  clear ho hf ht hm ha J1 J2 HX5 HO2 HO3
  have x0 : w6.cell? ⟨p2, 0, none⟩ = some (.int .i64 2) := K2.out.cell 0
  have x1 : w6.cell? ⟨p2, 1, none⟩ = some (.int .i64 0) := K2.out.cell 1
  have HC : Hid (Calls Try.prog 17 #[.pointer (some ⟨d, 0, none⟩), .agg #[.int .i64 2, .int .i64 0]] w6 (EndEnds d _ _ ⟨2, 0⟩ w6)) := Lib.hid (end_any HX6.out.tb ⟨2, 0⟩)
  go_wp2_with fail
  refine HC.out.mono ?_
  clear x0 x1 HC
  rintro e w7 ⟨A5, c5, rfl, ho, hf, m7, ht, hm, ha⟩
  rw [wk5] at ho
  rw [wk5]
  have HB7 := Lib.hid (HX6.out.bel.trans (hm.below HX6.out.bel.size HX6.out.lo))
  have J1 := Lib.hid (hm.kept.blk K1.out (HX6.out.ap p1 (by simp)))
  have J2 := Lib.hid (hm.kept.blk K2.out (HX6.out.ap p2 (by simp)))
  have HR1 := Lib.hid (Reads.of_own (hm.kept.own HO4.out (fun g hg => HX6.out.ap g (by simp [ownBlock_mem.1 hg]))))
  have HR2 := Lib.hid (Reads.of_own (hm.kept.own HO5.out (fun g hg => HX6.out.ap g (by simp [ownBlock_mem.1 hg]))))
  have HR3 := Lib.hid (Reads.of_own ho)
  clear ho hf ht hm ha K1 K2 HX6 HO4 HO5
  have y10 : w7.cell? ⟨p1, 0, none⟩ = some (.int .i64 1) := J1.out.cell 0
  have y11 : w7.cell? ⟨p1, 1, none⟩ = some (.int .i64 0) := J1.out.cell 1
  have y20 : w7.cell? ⟨p2, 0, none⟩ = some (.int .i64 2) := J2.out.cell 0
  have y21 : w7.cell? ⟨p2, 1, none⟩ = some (.int .i64 0) := J2.out.cell 1
  go_wp2_with fail
  have k8 := Blk.new w7 34 #[.int .i64 2, .int .i64 0]
  have hb8 := below_alloc w7 (.cells #[.int .i64 2, .int .i64 0] 34)
  obtain ⟨w8, hw8⟩ : ∃ w8, w8 = w7.alloc (.cells #[.int .i64 2, .int .i64 0] 34) := ⟨_, rfl⟩
  rw [← hw8] at k8 hb8
  rw [← hw8]
  have HC : Hid (Calls Try.prog 20 #[.slice A2 1 c2, .slice (some ⟨w7.heap.size, 0, none⟩) 1 1] w8 fun e w' => e = .returned (.bool true) ∧ ∃ q, w' = w8.drewN q) := Lib.hid (alikeI A2 (some ⟨w7.heap.size, 0, none⟩) c2 1 _ _ [⟨2, 0⟩] w8 (HR1.out.below hb8) (reads_blk k8 (by rfl)) (by decide))
  have HB8 := Lib.hid hb8
  have y1 := Lib.hid (J1.out.below hb8 J1.out.lt)
  have y2 := Lib.hid (J2.out.below hb8 J2.out.lt)
  clear k8 hw8 hb8 y10 y11 y20 y21 HR1
  have y10 : w8.cell? ⟨p1, 0, none⟩ = some (.int .i64 1) := y1.out.cell 0
  have y11 : w8.cell? ⟨p1, 1, none⟩ = some (.int .i64 0) := y1.out.cell 1
  have y20 : w8.cell? ⟨p2, 0, none⟩ = some (.int .i64 2) := y2.out.cell 0
  have y21 : w8.cell? ⟨p2, 1, none⟩ = some (.int .i64 0) := y2.out.cell 1
  refine HC.out.mono ?_
  clear HC
  rintro e w9 ⟨rfl, n1, rfl⟩
  go_wp2_with fail
  have k8 := Blk.new (w8.drewN n1) 50 #[.string ⟨#[97]⟩, .int .i64 1, .int .i64 0, .int .i64 2, .int .i64 0]
  have hb9 := below_alloc (w8.drewN n1) (.cells #[.string ⟨#[97]⟩, .int .i64 1, .int .i64 0, .int .i64 2, .int .i64 0] 50)
  obtain ⟨w9, hw9⟩ : ∃ w9, w9 = (w8.drewN n1).alloc (.cells #[.string ⟨#[97]⟩, .int .i64 1, .int .i64 0, .int .i64 2, .int .i64 0] 50) := ⟨_, rfl⟩
  rw [← hw9] at k8 hb9
  rw [← hw9]
  have hbd : Below w7.heap.size w7 w9 := (below_drewN HB8.out n1).trans (hb9.mono HB8.out.size)
  have HC : Hid (Calls Try.prog 21 #[.slice A3 1 c3, .slice (some ⟨w8.heap.size, 0, none⟩) 1 1] w9 fun e w' => e = .returned (.bool true) ∧ ∃ q, w' = w9.drewN q) := Lib.hid (alikeE A3 (some ⟨w8.heap.size, 0, none⟩) c3 1 _ _ [⟨⟨#[97]⟩, ⟨1, 0⟩, ⟨2, 0⟩⟩] w9 (HR2.out.below hbd) (reads_blk k8 (by rfl)) (by decide))
  have HB9 := Lib.hid hbd
  have y1 := Lib.hid (J1.out.below hbd J1.out.lt)
  clear k8 hw9 hbd hb9 y10 y11 y20 y21 HR2 HB8
  have y10 : w9.cell? ⟨p1, 0, none⟩ = some (.int .i64 1) := y1.out.cell 0
  have y11 : w9.cell? ⟨p1, 1, none⟩ = some (.int .i64 0) := y1.out.cell 1
  refine HC.out.mono ?_
  clear HC
  rintro e w10 ⟨rfl, n2, rfl⟩
  go_wp2_with fail
  have k8 := Blk.new (w9.drewN n2) 39 #[.string ⟨#[97]⟩, .int .i64 1, .int .i64 0, .int .i64 1]
  have hb9 := below_alloc (w9.drewN n2) (.cells #[.string ⟨#[97]⟩, .int .i64 1, .int .i64 0, .int .i64 1] 39)
  obtain ⟨w10, hw10⟩ : ∃ w10, w10 = (w9.drewN n2).alloc (.cells #[.string ⟨#[97]⟩, .int .i64 1, .int .i64 0, .int .i64 1] 39) := ⟨_, rfl⟩
  rw [← hw10] at k8 hb9
  rw [← hw10]
  have hbd : Below w7.heap.size w7 w10 := (below_drewN HB9.out n2).trans (hb9.mono HB9.out.size)
  have HC : Hid (Calls Try.prog 22 #[.slice A5 1 c5, .slice (some ⟨w9.heap.size, 0, none⟩) 1 1] w10 fun e w' => e = .returned (.bool true) ∧ ∃ q, w' = w10.drewN q) := Lib.hid (alikeL A5 (some ⟨w9.heap.size, 0, none⟩) c5 1 _ _ [⟨⟨#[97]⟩, ⟨1, 0⟩, 1⟩] w10 (HR3.out.below hbd) (reads_blk k8 (by rfl)) (by decide))
  have HB10 := Lib.hid (HB7.out.trans (hbd.mono HB7.out.size))
  clear k8 hw10 hbd hb9 y10 y11 HR3 HB9
  refine HC.out.mono ?_
  clear HC
  rintro e w11 ⟨rfl, n3, rfl⟩
  go_wp2_with fail
  go_ret
  exact ⟨rfl, below_drewN HB10.out n3⟩
end Go.Proofs.Ytpidpdbjjdkhoaa
