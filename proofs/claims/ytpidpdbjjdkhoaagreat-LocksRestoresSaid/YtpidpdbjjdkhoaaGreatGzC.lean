/- Locks, the reference: its table in memory; Conflict, clash, any, May, Mode, Waits. -/
import Derived.Test.YtpidpdbjjdkhoaaGreatGzB
namespace Go.Proofs.YtpidpdbjjdkhoaaGreat
open Go.RowKit
set_option linter.unusedSimpArgs false
set_option linter.unusedVariables false
attribute [local go_sem ↓] Go.wp_at_zero Go.wp_at_succ

theorem Reads.row {α : Type} {R : RowT α} {w : World} {B n : Nat} {A : Option Addr} {l : List α} (h : Reads w B R.sz A n (rc R l)) (h0 : 0 < l.length) :
    ∃ b off, A = some ⟨b, off, none⟩ ∧ b < B ∧ ∀ k, k < l.length → ∀ j u, (R.cells (gr R l k))[j]? = some u → w.cell? ⟨b, off + k * R.sz + j, none⟩ = some u := by
  obtain ⟨b, off, hA, hb, _⟩ := Reads.elt (R := R) h h0
  refine ⟨b, off, hA, hb, fun k hk => ?_⟩
  obtain ⟨b', off', hA', _, hc⟩ := Reads.elt (R := R) h hk
  rw [hA] at hA'
  cases hA'
  exact hc
theorem rowL {w : World} {n : Nat} {A : Option Addr} {l : List Lk} (h : Reads w w.heap.size 4 A n (rc lkR l)) (h0 : 0 < l.length) :
    ∃ b off, A = some ⟨b, off, none⟩ ∧ ∀ k, k < l.length → ∀ w', Below w.heap.size w w' → (w'.cell? ⟨b, off + k * 4, none⟩ = some (.string (gr lkR l k).key) ∧ w'.cell? ⟨b, off + k * 4 + 1, none⟩ = some (.int .i64 (gr lkR l k).id.n) ∧ w'.cell? ⟨b, off + k * 4 + 2, none⟩ = some (.int .i64 (gr lkR l k).id.c) ∧ w'.cell? ⟨b, off + k * 4 + 3, none⟩ = some (.int .i64 (gr lkR l k).mode)) := by
  obtain ⟨b, off, hA, hb, hc⟩ := Reads.row (R := lkR) h h0
  refine ⟨b, off, hA, fun k hk w' hw => ⟨(hw.cell (p := ⟨b, off + k * 4, none⟩) hb).trans (hc k hk 0 _ rfl), (hw.cell (p := ⟨b, off + k * 4 + 1, none⟩) hb).trans (hc k hk 1 _ rfl), (hw.cell (p := ⟨b, off + k * 4 + 2, none⟩) hb).trans (hc k hk 2 _ rfl), (hw.cell (p := ⟨b, off + k * 4 + 3, none⟩) hb).trans (hc k hk 3 _ rfl)⟩⟩
theorem rowI {w : World} {n : Nat} {A : Option Addr} {l : List Idn} (h : Reads w w.heap.size 2 A n (rc idR l)) (h0 : 0 < l.length) :
    ∃ b off, A = some ⟨b, off, none⟩ ∧ ∀ k, k < l.length → ∀ w', Below w.heap.size w w' → (w'.cell? ⟨b, off + k * 2, none⟩ = some (.int .i64 (gr idR l k).n) ∧ w'.cell? ⟨b, off + k * 2 + 1, none⟩ = some (.int .i64 (gr idR l k).c)) := by
  obtain ⟨b, off, hA, hb, hc⟩ := Reads.row (R := idR) h h0
  refine ⟨b, off, hA, fun k hk w' hw => ⟨(hw.cell (p := ⟨b, off + k * 2, none⟩) hb).trans (hc k hk 0 _ rfl), (hw.cell (p := ⟨b, off + k * 2 + 1, none⟩) hb).trans (hc k hk 1 _ rfl)⟩⟩
/-- the reference's table in memory -/
structure RfAt (w : World) (g : Nat) (q : Tb) (m : TbM) : Prop where
  blk : Blk w g 49 (tbC q m)
  oh : w.ownsRow 0 62 4 (.slice m.ah q.held.length m.ch) q.held.length (rc lkR q.held)
  ow : w.ownsRow 0 62 4 (.slice m.aw q.wait.length m.cw) q.wait.length (rc lkR q.wait)
  op : w.ownsRow 0 29 2 (.slice m.ap q.prep.length m.cp) q.prep.length (rc idR q.prep)
  ou : w.ownsRow 0 29 2 (.slice m.au q.hurt.length m.cu) q.hurt.length (rc idR q.hurt)
  fh : q.held.length + q.wait.length ≤ 1000
  fm : q.prep.length ≤ 8796093022208 ∧ q.hurt.length ≤ 8796093022208
section
variable {w w' : World} {d : Nat} {q : Tb} {m : TbM} {S : List Nat}
theorem RfAt.lt (h : RfAt w d q m) : ∀ k ∈ fpT d m, k < w.heap.size := by
  intro k hk
  simp only [fpT, List.mem_cons, List.mem_append] at hk
  rcases hk with rfl | hk | hk | hk | hk
  · exact h.blk.lt
  · exact own_lt h.oh k hk
  · exact own_lt h.ow k hk
  · exact own_lt h.op k hk
  · exact own_lt h.ou k hk
theorem RfAt.kept (h : RfAt w d q m) (hk : Kept S w w') (hd : ∀ k ∈ fpT d m, k ∉ S) : RfAt w' d q m := by
  simp only [fpT, List.mem_cons, List.mem_append] at hd
  exact ⟨hk.blk h.blk (hd d (.inl rfl)), hk.own h.oh (fun g hg => hd g (.inr (.inl (ownBlock_mem.1 hg)))), hk.own h.ow (fun g hg => hd g (.inr (.inr (.inl (ownBlock_mem.1 hg))))),
    hk.own h.op (fun g hg => hd g (.inr (.inr (.inr (.inl (ownBlock_mem.1 hg)))))), hk.own h.ou (fun g hg => hd g (.inr (.inr (.inr (.inr (ownBlock_mem.1 hg)))))), h.fh, h.fm⟩
theorem RfAt.below (h : RfAt w d q m) (hb : Below w.heap.size w w') : RfAt w' d q m := h.kept (S := []) (Kept.of_below hb) (by simp)
theorem RfAt.c0 (h : RfAt w d q m) : w.cell? ⟨d, 0, none⟩ = some (.int .i64 q.most) := h.blk.cell 0
theorem RfAt.c1 (h : RfAt w d q m) : w.cell? ⟨d, 1, none⟩ = some (.slice m.ah q.held.length m.ch) := h.blk.cell 1
theorem RfAt.c2 (h : RfAt w d q m) : w.cell? ⟨d, 2, none⟩ = some (.slice m.aw q.wait.length m.cw) := h.blk.cell 2
theorem RfAt.c3 (h : RfAt w d q m) : w.cell? ⟨d, 3, none⟩ = some (.slice m.ap q.prep.length m.cp) := h.blk.cell 3
theorem RfAt.c4 (h : RfAt w d q m) : w.cell? ⟨d, 4, none⟩ = some (.slice m.au q.hurt.length m.cu) := h.blk.cell 4
end
/-- the reference's conflict -/
def confR (a b : Lk) : Bool := decide (a.key = b.key ∧ a.id ≠ b.id ∧ (a.mode ≠ 1 ∨ b.mode ≠ 1))
theorem confR_eq {a b : Lk} (h1 : a.mode = 1 ∨ a.mode = 2) (h2 : b.mode = 1 ∨ b.mode = 2) : confR a b = conf a b := by
  unfold confR conf
  rw [Bool.eq_iff_iff, decide_eq_true_iff, decide_eq_true_iff]
  constructor
  · rintro ⟨e1, e2, e3⟩; exact ⟨e1, e2, by omega⟩
  · rintro ⟨e1, e2, e3⟩; exact ⟨e1, e2, by omega⟩
theorem confR_key {x y : Lk} (h : (x.key.toList == y.key.toList) = false) : confR x y = false := by
  unfold confR
  rw [decide_eq_false_iff_not]
  exact fun e => by rw [e.1] at h; simp at h
theorem confR_id {x y : Lk} (h : eqI x.id y.id = true) : confR x y = false := by
  unfold confR
  rw [decide_eq_false_iff_not]
  exact fun e => e.2.1 (eqI_iff.1 h)
theorem confR_mode {x y : Lk} (h1 : (x.key.toList == y.key.toList) = true) (h2 : eqI x.id y.id = false) : confR x y = decide (x.mode ≠ 1 ∨ y.mode ≠ 1) := by
  have hk : x.key = y.key := toList_inj (by simpa using h1)
  have hi : x.id ≠ y.id := fun e => by rw [eqI_iff.2 e] at h2; cases h2
  unfold confR
  rw [Bool.eq_iff_iff, decide_eq_true_iff, decide_eq_true_iff]
  exact ⟨fun e => e.2.2, fun e => ⟨hk, hi, e⟩⟩
set_option maxHeartbeats 4000000 in
theorem rconf_any (x y : Lk) (w : World) : Calls Tryz.prog 47 #[lkV x, lkV y] w (BoolIs (confR x y) w) := by
  have he := run_neI x.id y.id
  cases hk : (x.key.toList == y.key.toList) with
  | false =>
    have HR := Lib.hid (confR_key hk)
    unfold lkV
    go_enter Tryz.func47, Tryz.ntmps47
    go_upto_region 1 with fail
    have k1 := (Blk.new w 62 #[.string x.key, .int .i64 x.id.n, .int .i64 x.id.c, .int .i64 x.mode]).alloc (.cells #[.string y.key, .int .i64 y.id.n, .int .i64 y.id.c, .int .i64 y.mode] 62)
    have k2 := Blk.new (w.alloc (.cells #[.string x.key, .int .i64 x.id.n, .int .i64 x.id.c, .int .i64 x.mode] 62)) 62 #[.string y.key, .int .i64 y.id.n, .int .i64 y.id.c, .int .i64 y.mode]
    simp only [World.size_alloc] at k2
    have HB := Lib.hid ((below_alloc w (.cells #[.string x.key, .int .i64 x.id.n, .int .i64 x.id.c, .int .i64 x.mode] 62)).alloc (by simp) (.cells #[.string y.key, .int .i64 y.id.n, .int .i64 y.id.c, .int .i64 y.mode] 62))
    obtain ⟨w2, hw2⟩ : ∃ w2, w2 = ((w.alloc (.cells #[.string x.key, .int .i64 x.id.n, .int .i64 x.id.c, .int .i64 x.mode] 62)).alloc (.cells #[.string y.key, .int .i64 y.id.n, .int .i64 y.id.c, .int .i64 y.mode] 62)) := ⟨_, rfl⟩
    obtain ⟨p1, hp1⟩ : ∃ p1, p1 = w.heap.size := ⟨_, rfl⟩
    obtain ⟨p2, hp2⟩ : ∃ p2, p2 = w.heap.size + 1 := ⟨_, rfl⟩
    rw [← hw2] at HB k1 k2
    rw [← hp1] at k1
    rw [← hp2] at k2
    rw [← hw2]
    rw [← hp2]
    rw [← hp1]
    clear hw2 hp1 hp2
    have x10 : w2.cell? ⟨p1, 0, none⟩ = some (.string x.key) := k1.cell 0
    have x11 : w2.cell? ⟨p1, 1, none⟩ = some (.int .i64 x.id.n) := k1.cell 1
    have x12 : w2.cell? ⟨p1, 2, none⟩ = some (.int .i64 x.id.c) := k1.cell 2
    have x13 : w2.cell? ⟨p1, 3, none⟩ = some (.int .i64 x.mode) := k1.cell 3
    have x20 : w2.cell? ⟨p2, 0, none⟩ = some (.string y.key) := k2.cell 0
    have x21 : w2.cell? ⟨p2, 1, none⟩ = some (.int .i64 y.id.n) := k2.cell 1
    have x22 : w2.cell? ⟨p2, 2, none⟩ = some (.int .i64 y.id.c) := k2.cell 2
    have x23 : w2.cell? ⟨p2, 3, none⟩ = some (.int .i64 y.mode) := k2.cell 3
    clear k1 k2
    go_wp2
    go_ret
    exact ⟨ret_bool HR.out.symm, HB.out⟩
  | true =>
    cases hi : eqI x.id y.id with
    | true =>
      rw [hi] at he
      have HR := Lib.hid (confR_id hi)
      unfold lkV
      go_enter Tryz.func47, Tryz.ntmps47
      go_upto_region 1 with fail
      have k1 := (Blk.new w 62 #[.string x.key, .int .i64 x.id.n, .int .i64 x.id.c, .int .i64 x.mode]).alloc (.cells #[.string y.key, .int .i64 y.id.n, .int .i64 y.id.c, .int .i64 y.mode] 62)
      have k2 := Blk.new (w.alloc (.cells #[.string x.key, .int .i64 x.id.n, .int .i64 x.id.c, .int .i64 x.mode] 62)) 62 #[.string y.key, .int .i64 y.id.n, .int .i64 y.id.c, .int .i64 y.mode]
      simp only [World.size_alloc] at k2
      have HB := Lib.hid ((below_alloc w (.cells #[.string x.key, .int .i64 x.id.n, .int .i64 x.id.c, .int .i64 x.mode] 62)).alloc (by simp) (.cells #[.string y.key, .int .i64 y.id.n, .int .i64 y.id.c, .int .i64 y.mode] 62))
      obtain ⟨w2, hw2⟩ : ∃ w2, w2 = ((w.alloc (.cells #[.string x.key, .int .i64 x.id.n, .int .i64 x.id.c, .int .i64 x.mode] 62)).alloc (.cells #[.string y.key, .int .i64 y.id.n, .int .i64 y.id.c, .int .i64 y.mode] 62)) := ⟨_, rfl⟩
      obtain ⟨p1, hp1⟩ : ∃ p1, p1 = w.heap.size := ⟨_, rfl⟩
      obtain ⟨p2, hp2⟩ : ∃ p2, p2 = w.heap.size + 1 := ⟨_, rfl⟩
      rw [← hw2] at HB k1 k2
      rw [← hp1] at k1
      rw [← hp2] at k2
      rw [← hw2]
      rw [← hp2]
      rw [← hp1]
      clear hw2 hp1 hp2
      have x10 : w2.cell? ⟨p1, 0, none⟩ = some (.string x.key) := k1.cell 0
      have x11 : w2.cell? ⟨p1, 1, none⟩ = some (.int .i64 x.id.n) := k1.cell 1
      have x12 : w2.cell? ⟨p1, 2, none⟩ = some (.int .i64 x.id.c) := k1.cell 2
      have x13 : w2.cell? ⟨p1, 3, none⟩ = some (.int .i64 x.mode) := k1.cell 3
      have x20 : w2.cell? ⟨p2, 0, none⟩ = some (.string y.key) := k2.cell 0
      have x21 : w2.cell? ⟨p2, 1, none⟩ = some (.int .i64 y.id.n) := k2.cell 1
      have x22 : w2.cell? ⟨p2, 2, none⟩ = some (.int .i64 y.id.c) := k2.cell 2
      have x23 : w2.cell? ⟨p2, 3, none⟩ = some (.int .i64 y.mode) := k2.cell 3
      clear k1 k2
      go_wp2
      go_ret
      exact ⟨ret_bool HR.out.symm, HB.out⟩
    | false =>
      rw [hi] at he
      by_cases m1 : x.mode = 1
      · 
        have m1b : (x.mode == 1) = true := by simpa using m1
        have m1d : decide (x.mode = 1) = true := by simpa using m1
        have m1n : (x.mode != 1) = false := by unfold bne; rw [m1b]; rfl
        by_cases m2 : y.mode = 1
        · have hc : Hid (confR x y = false) := Lib.hid (by rw [confR_mode hk hi, m1, m2]; decide)
          have m2b : (y.mode == 1) = true := by simpa using m2
          have m2d : decide (y.mode = 1) = true := by simpa using m2
          have m2n : (y.mode != 1) = false := by unfold bne; rw [m2b]; rfl
          clear m1 m2
          have HR := Lib.hid (hc.out)
          unfold lkV
          go_enter Tryz.func47, Tryz.ntmps47
          go_upto_region 1 with fail
          have k1 := (Blk.new w 62 #[.string x.key, .int .i64 x.id.n, .int .i64 x.id.c, .int .i64 x.mode]).alloc (.cells #[.string y.key, .int .i64 y.id.n, .int .i64 y.id.c, .int .i64 y.mode] 62)
          have k2 := Blk.new (w.alloc (.cells #[.string x.key, .int .i64 x.id.n, .int .i64 x.id.c, .int .i64 x.mode] 62)) 62 #[.string y.key, .int .i64 y.id.n, .int .i64 y.id.c, .int .i64 y.mode]
          simp only [World.size_alloc] at k2
          have HB := Lib.hid ((below_alloc w (.cells #[.string x.key, .int .i64 x.id.n, .int .i64 x.id.c, .int .i64 x.mode] 62)).alloc (by simp) (.cells #[.string y.key, .int .i64 y.id.n, .int .i64 y.id.c, .int .i64 y.mode] 62))
          obtain ⟨w2, hw2⟩ : ∃ w2, w2 = ((w.alloc (.cells #[.string x.key, .int .i64 x.id.n, .int .i64 x.id.c, .int .i64 x.mode] 62)).alloc (.cells #[.string y.key, .int .i64 y.id.n, .int .i64 y.id.c, .int .i64 y.mode] 62)) := ⟨_, rfl⟩
          obtain ⟨p1, hp1⟩ : ∃ p1, p1 = w.heap.size := ⟨_, rfl⟩
          obtain ⟨p2, hp2⟩ : ∃ p2, p2 = w.heap.size + 1 := ⟨_, rfl⟩
          rw [← hw2] at HB k1 k2
          rw [← hp1] at k1
          rw [← hp2] at k2
          rw [← hw2]
          rw [← hp2]
          rw [← hp1]
          clear hw2 hp1 hp2
          have x10 : w2.cell? ⟨p1, 0, none⟩ = some (.string x.key) := k1.cell 0
          have x11 : w2.cell? ⟨p1, 1, none⟩ = some (.int .i64 x.id.n) := k1.cell 1
          have x12 : w2.cell? ⟨p1, 2, none⟩ = some (.int .i64 x.id.c) := k1.cell 2
          have x13 : w2.cell? ⟨p1, 3, none⟩ = some (.int .i64 x.mode) := k1.cell 3
          have x20 : w2.cell? ⟨p2, 0, none⟩ = some (.string y.key) := k2.cell 0
          have x21 : w2.cell? ⟨p2, 1, none⟩ = some (.int .i64 y.id.n) := k2.cell 1
          have x22 : w2.cell? ⟨p2, 2, none⟩ = some (.int .i64 y.id.c) := k2.cell 2
          have x23 : w2.cell? ⟨p2, 3, none⟩ = some (.int .i64 y.mode) := k2.cell 3
          clear k1 k2
          go_wp2
          go_ret
          exact ⟨ret_bool HR.out.symm, HB.out⟩
        · have hc : Hid (confR x y = true) := Lib.hid (by rw [confR_mode hk hi]; exact decide_eq_true (.inr m2))
          have m2b : (y.mode == 1) = false := by simpa using m2
          have m2d : decide (y.mode = 1) = false := by simpa using m2
          have m2n : (y.mode != 1) = true := by unfold bne; rw [m2b]; rfl
          clear m1 m2
          have HR := Lib.hid (hc.out)
          unfold lkV
          go_enter Tryz.func47, Tryz.ntmps47
          go_upto_region 1 with fail
          have k1 := (Blk.new w 62 #[.string x.key, .int .i64 x.id.n, .int .i64 x.id.c, .int .i64 x.mode]).alloc (.cells #[.string y.key, .int .i64 y.id.n, .int .i64 y.id.c, .int .i64 y.mode] 62)
          have k2 := Blk.new (w.alloc (.cells #[.string x.key, .int .i64 x.id.n, .int .i64 x.id.c, .int .i64 x.mode] 62)) 62 #[.string y.key, .int .i64 y.id.n, .int .i64 y.id.c, .int .i64 y.mode]
          simp only [World.size_alloc] at k2
          have HB := Lib.hid ((below_alloc w (.cells #[.string x.key, .int .i64 x.id.n, .int .i64 x.id.c, .int .i64 x.mode] 62)).alloc (by simp) (.cells #[.string y.key, .int .i64 y.id.n, .int .i64 y.id.c, .int .i64 y.mode] 62))
          obtain ⟨w2, hw2⟩ : ∃ w2, w2 = ((w.alloc (.cells #[.string x.key, .int .i64 x.id.n, .int .i64 x.id.c, .int .i64 x.mode] 62)).alloc (.cells #[.string y.key, .int .i64 y.id.n, .int .i64 y.id.c, .int .i64 y.mode] 62)) := ⟨_, rfl⟩
          obtain ⟨p1, hp1⟩ : ∃ p1, p1 = w.heap.size := ⟨_, rfl⟩
          obtain ⟨p2, hp2⟩ : ∃ p2, p2 = w.heap.size + 1 := ⟨_, rfl⟩
          rw [← hw2] at HB k1 k2
          rw [← hp1] at k1
          rw [← hp2] at k2
          rw [← hw2]
          rw [← hp2]
          rw [← hp1]
          clear hw2 hp1 hp2
          have x10 : w2.cell? ⟨p1, 0, none⟩ = some (.string x.key) := k1.cell 0
          have x11 : w2.cell? ⟨p1, 1, none⟩ = some (.int .i64 x.id.n) := k1.cell 1
          have x12 : w2.cell? ⟨p1, 2, none⟩ = some (.int .i64 x.id.c) := k1.cell 2
          have x13 : w2.cell? ⟨p1, 3, none⟩ = some (.int .i64 x.mode) := k1.cell 3
          have x20 : w2.cell? ⟨p2, 0, none⟩ = some (.string y.key) := k2.cell 0
          have x21 : w2.cell? ⟨p2, 1, none⟩ = some (.int .i64 y.id.n) := k2.cell 1
          have x22 : w2.cell? ⟨p2, 2, none⟩ = some (.int .i64 y.id.c) := k2.cell 2
          have x23 : w2.cell? ⟨p2, 3, none⟩ = some (.int .i64 y.mode) := k2.cell 3
          clear k1 k2
          go_wp2
          go_ret
          exact ⟨ret_bool HR.out.symm, HB.out⟩
      · have hc : Hid (confR x y = true) := Lib.hid (by rw [confR_mode hk hi]; exact decide_eq_true (.inl m1))
        have m1b : (x.mode == 1) = false := by simpa using m1
        have m1d : decide (x.mode = 1) = false := by simpa using m1
        have m1n : (x.mode != 1) = true := by unfold bne; rw [m1b]; rfl
        clear m1
        have HR := Lib.hid (hc.out)
        unfold lkV
        go_enter Tryz.func47, Tryz.ntmps47
        go_upto_region 1 with fail
        have k1 := (Blk.new w 62 #[.string x.key, .int .i64 x.id.n, .int .i64 x.id.c, .int .i64 x.mode]).alloc (.cells #[.string y.key, .int .i64 y.id.n, .int .i64 y.id.c, .int .i64 y.mode] 62)
        have k2 := Blk.new (w.alloc (.cells #[.string x.key, .int .i64 x.id.n, .int .i64 x.id.c, .int .i64 x.mode] 62)) 62 #[.string y.key, .int .i64 y.id.n, .int .i64 y.id.c, .int .i64 y.mode]
        simp only [World.size_alloc] at k2
        have HB := Lib.hid ((below_alloc w (.cells #[.string x.key, .int .i64 x.id.n, .int .i64 x.id.c, .int .i64 x.mode] 62)).alloc (by simp) (.cells #[.string y.key, .int .i64 y.id.n, .int .i64 y.id.c, .int .i64 y.mode] 62))
        obtain ⟨w2, hw2⟩ : ∃ w2, w2 = ((w.alloc (.cells #[.string x.key, .int .i64 x.id.n, .int .i64 x.id.c, .int .i64 x.mode] 62)).alloc (.cells #[.string y.key, .int .i64 y.id.n, .int .i64 y.id.c, .int .i64 y.mode] 62)) := ⟨_, rfl⟩
        obtain ⟨p1, hp1⟩ : ∃ p1, p1 = w.heap.size := ⟨_, rfl⟩
        obtain ⟨p2, hp2⟩ : ∃ p2, p2 = w.heap.size + 1 := ⟨_, rfl⟩
        rw [← hw2] at HB k1 k2
        rw [← hp1] at k1
        rw [← hp2] at k2
        rw [← hw2]
        rw [← hp2]
        rw [← hp1]
        clear hw2 hp1 hp2
        have x10 : w2.cell? ⟨p1, 0, none⟩ = some (.string x.key) := k1.cell 0
        have x11 : w2.cell? ⟨p1, 1, none⟩ = some (.int .i64 x.id.n) := k1.cell 1
        have x12 : w2.cell? ⟨p1, 2, none⟩ = some (.int .i64 x.id.c) := k1.cell 2
        have x13 : w2.cell? ⟨p1, 3, none⟩ = some (.int .i64 x.mode) := k1.cell 3
        have x20 : w2.cell? ⟨p2, 0, none⟩ = some (.string y.key) := k2.cell 0
        have x21 : w2.cell? ⟨p2, 1, none⟩ = some (.int .i64 y.id.n) := k2.cell 1
        have x22 : w2.cell? ⟨p2, 2, none⟩ = some (.int .i64 y.id.c) := k2.cell 2
        have x23 : w2.cell? ⟨p2, 3, none⟩ = some (.int .i64 y.mode) := k2.cell 3
        clear k1 k2
        go_wp2
        go_ret
        exact ⟨ret_bool HR.out.symm, HB.out⟩
/-! ### questions of a row -/
def ScRel {α : Type} (R : RowT α) (l : List α) (p : α → Bool) (w : World) (i : Value) (wr : World) : Prop := ∃ k : Nat, i = .int .i64 k ∧ k ≤ l.length ∧ (∀ j, j < k → p (gr R l j) = false) ∧ Below w.heap.size w wr
theorem sc_on {α : Type} {R : RowT α} {l : List α} {p : α → Bool} {k : Nat} (h : ∀ j, j < k → p (gr R l j) = false) (hk : p (gr R l k) = false) : ∀ j, j < k + 1 → p (gr R l j) = false := fun j hj => by
  by_cases e : j = k
  · rw [e]; exact hk
  · exact h j (by omega)
theorem sc_no {α : Type} {R : RowT α} {l : List α} {p : α → Bool} {k : Nat} (hk : l.length ≤ k) (h : ∀ j, j < k → p (gr R l j) = false) : l.any p = false := by
  rw [List.any_eq_false]
  intro x hx
  obtain ⟨j, hj, rfl⟩ := List.mem_iff_getElem.1 hx
  have := h j (by omega)
  rw [gr_at hj] at this
  simp [this]
theorem sc_yes {α : Type} {R : RowT α} {l : List α} {p : α → Bool} {k : Nat} (hk : k < l.length) (h : p (gr R l k) = true) : l.any p = true := List.any_eq_true.2 ⟨_, gr_mem hk, h⟩
theorem sc_find {l : List Lk} {p : Lk → Bool} {k : Nat} (hk : k < l.length) (hno : ∀ j, j < k → p (gr lkR l j) = false) (h : p (gr lkR l k) = true) : l.find? p = some (gr lkR l k) := find_at hk h hno
theorem sc_none {l : List Lk} {p : Lk → Bool} {k : Nat} (hk : l.length ≤ k) (hno : ∀ j, j < k → p (gr lkR l j) = false) : l.find? p = none := find_not fun i hi => hno i (by omega)
set_option maxHeartbeats 8000000 in
set_option maxRecDepth 100000 in
theorem rclash_any {w : World} {g : Nat} {q : Tb} {m : TbM} (h : RfAt w g q m) (x : Lk) : Calls Tryz.prog 76 #[.pointer (some ⟨g, 0, none⟩), lkV x] w (BoolIs (q.held.any fun y => confR y x) w) := by
  have HH := Lib.hid h
  have HC := Lib.hid (fun y w => rconf_any y x w)
  unfold lkV at HC
  clear h
  unfold lkV
  go_enter Tryz.func76, Tryz.ntmps76
  go_upto_region 1 with fail
  have k1 := Blk.new w 62 #[.string x.key, .int .i64 x.id.n, .int .i64 x.id.c, .int .i64 x.mode]
  have HB := Lib.hid (below_alloc w (.cells #[.string x.key, .int .i64 x.id.n, .int .i64 x.id.c, .int .i64 x.mode] 62))
  obtain ⟨w2, hw2⟩ : ∃ w2, w2 = (w.alloc (.cells #[.string x.key, .int .i64 x.id.n, .int .i64 x.id.c, .int .i64 x.mode] 62)) := ⟨_, rfl⟩
  obtain ⟨p1, hp1⟩ : ∃ p1, p1 = w.heap.size := ⟨_, rfl⟩
  rw [← hw2] at HB k1
  rw [← hp1] at k1
  rw [← hw2]
  rw [← hp1]
  clear hw2 hp1
  have HT2 := Lib.hid (HH.out.below HB.out)
  have HK1 := Lib.hid k1
  clear k1
  go_wp2
  go_loopw [5] (ScRel lkR q.held (fun y => confR y x) w2) (fun i _ => q.held.length - (intOf i).toNat)
  case atStart => exact ⟨0, rfl, Nat.zero_le _, fun j h => absurd h (by omega), Below.refl _ _⟩
  case round =>
    obtain ⟨k, rfl, hk, hno, hb⟩ := hrel
    have HNO := Lib.hid hno
    have HBR := Lib.hid hb
    have hfh := HT2.out.fh
    have y1 : wr.cell? ⟨g, 1, none⟩ = some (.slice m.ah q.held.length m.ch) := (HT2.out.below hb).c1
    clear hno hb
    by_cases hlt : k < q.held.length
    · obtain ⟨b, off, hA, hcell⟩ := rowL (Reads.of_own HT2.out.oh) (by omega)
      have hcy := hcell k hlt
      rw [hA] at y1
      obtain ⟨y, hy⟩ : ∃ y, y = gr lkR q.held k := ⟨_, rfl⟩
      rw [← hy] at hcy
      have HCY := Lib.hid hcy
      have HY := Lib.hid hy
      have kL : (0 : Int) ≤ (k : Int) := by omega
      have kU : (k : Int) < (q.held.length : Int) := by omega
      have hS : Hid (∀ w', Below w2.heap.size w2 w' → (w'.cell? ⟨g, 1, none⟩ = some (.slice (some ⟨b, off, none⟩) q.held.length m.ch) ∧ w'.cell? ⟨b, off + k * 4, none⟩ = some (.string y.key) ∧ w'.cell? ⟨b, off + k * 4 + 1, none⟩ = some (.int .i64 y.id.n) ∧ w'.cell? ⟨b, off + k * 4 + 2, none⟩ = some (.int .i64 y.id.c) ∧ w'.cell? ⟨b, off + k * 4 + 3, none⟩ = some (.int .i64 y.mode) ∧ w'.cell? ⟨p1, 0, none⟩ = some (.string x.key) ∧ w'.cell? ⟨p1, 1, none⟩ = some (.int .i64 x.id.n) ∧ w'.cell? ⟨p1, 2, none⟩ = some (.int .i64 x.id.c) ∧ w'.cell? ⟨p1, 3, none⟩ = some (.int .i64 x.mode))) := Lib.hid (fun w' hb => by
        have h1 := (HT2.out.below hb).c1
        rw [hA] at h1
        obtain ⟨a0, a1, a2, a3⟩ := HCY.out w' hb
        exact ⟨h1, a0, a1, a2, a3, (HK1.out.below hb HK1.out.lt).cell 0, (HK1.out.below hb HK1.out.lt).cell 1, (HK1.out.below hb HK1.out.lt).cell 2, (HK1.out.below hb HK1.out.lt).cell 3⟩)
      have HBD : Hid (Below w2.heap.size w2 wr.drew) := Lib.hid (HBR.out.trans ((below_drewN (Below.refl wr.heap.size wr) 1).mono HBR.out.size))
      clear hy hcy hcell
      cases hv : confR y x with
      | true =>
        have HV := Lib.hid (sc_yes (p := fun y => confR y x) hlt (by show confR (gr lkR q.held k) x = true; rw [← HY.out]; exact hv))
        go_wp2_with fail
        refine wp_region_heldH (by kernel_rfl) hS (HBD.out) (fun hHeld => ?_)
        refine takes [0, 1, 2, 3, 4, 5, 6, 7] 1 (by kernel_rfl) (by assumption) ?_
        iterate 8 (refine tkY rfl (fun _ _ _ h => h) rfl (by ((intro w hSw); (try dsimp only at hSw); go_simp; (try with_reducible rfl))) ?_; try simp only [Act.put, List.setIfInBounds_toArray, List.set_cons_zero, List.set_cons_succ])
        refine tkE ?_
        refine wpAnyH_ready (rs := [8]) (by kernel_rfl) (by simp) ?_
        refine readyC rfl (fun K hK => ?_) ?_
        ·
          go_simp
          go_at_call 47
          refine (HC.out y _).mono ?_
          rintro e w3 ⟨he_, hb_⟩
          rw [hv] at he_
          subst he_
          have HB3 := Lib.hid (HBD.out.trans (hb_.mono HBD.out.size))
          clear hb_
          go_wp2_with fail
          refine hK.out _ _ (by with_reducible exact hS.out _ HB3.out) (fun hHeld => ?_)
          clear hK K
          try simp only [Act.put, List.setIfInBounds_toArray, List.set_cons_zero, List.set_cons_succ]
          refine wpAnyH_done (by kernel_rfl) ?_ _
          have HBL := Lib.hid (HB.out.trans (HB3.out.mono HB.out.size))
          go_wp2
          go_ret
          exact ⟨ret_bool HV.out.symm, HBL.out⟩
        exact AllReadyH.nil
      | false =>
        have HV := Lib.hid hv
        go_wp2_with fail
        refine wp_region_heldH (by kernel_rfl) hS (HBD.out) (fun hHeld => ?_)
        refine takes [0, 1, 2, 3, 4, 5, 6, 7] 1 (by kernel_rfl) (by assumption) ?_
        iterate 8 (refine tkY rfl (fun _ _ _ h => h) rfl (by ((intro w hSw); (try dsimp only at hSw); go_simp; (try with_reducible rfl))) ?_; try simp only [Act.put, List.setIfInBounds_toArray, List.set_cons_zero, List.set_cons_succ])
        refine tkE ?_
        refine wpAnyH_ready (rs := [8]) (by kernel_rfl) (by simp) ?_
        refine readyC rfl (fun K hK => ?_) ?_
        ·
          go_simp
          go_at_call 47
          refine (HC.out y _).mono ?_
          rintro e w3 ⟨he_, hb_⟩
          rw [hv] at he_
          subst he_
          have HB3 := Lib.hid (HBD.out.trans (hb_.mono HBD.out.size))
          clear hb_
          go_wp2_with fail
          refine hK.out _ _ (by with_reducible exact hS.out _ HB3.out) (fun hHeld => ?_)
          clear hK K
          try simp only [Act.put, List.setIfInBounds_toArray, List.set_cons_zero, List.set_cons_succ]
          refine wpAnyH_done (by kernel_rfl) ?_ _
          go_wp2
          go_roundw
          case rel => exact ⟨k + 1, by go_num, by omega, sc_on (p := fun y => confR y x) HNO.out (by rw [← HY.out]; exact HV.out), HB3.out⟩
          case measure => simp [intOf]; omega
        exact AllReadyH.nil
    · have kU : ¬ (k : Int) < (q.held.length : Int) := by omega
      have HV := Lib.hid (sc_no (p := fun y => confR y x) (show q.held.length ≤ k by omega) HNO.out)
      have HBL := Lib.hid (HB.out.trans (HBR.out.mono HB.out.size))
      go_wp2
      go_ret
      exact ⟨ret_bool HV.out.symm, HBL.out⟩
set_option maxHeartbeats 8000000 in
set_option maxRecDepth 100000 in
theorem rany_any {w : World} {g : Nat} {q : Tb} {m : TbM} (h : RfAt w g q m) (x : Lk) : Calls Tryz.prog 88 #[.pointer (some ⟨g, 0, none⟩), lkV x] w (BoolIs ((q.wait.any fun y => confR y x) || q.held.any fun y => confR y x) w) := by
  have HH := Lib.hid h
  have HC := Lib.hid (fun y w => rconf_any y x w)
  unfold lkV at HC
  clear h
  unfold lkV
  go_enter Tryz.func88, Tryz.ntmps88
  go_upto_region 1 with fail
  have k1 := Blk.new w 62 #[.string x.key, .int .i64 x.id.n, .int .i64 x.id.c, .int .i64 x.mode]
  have HB := Lib.hid (below_alloc w (.cells #[.string x.key, .int .i64 x.id.n, .int .i64 x.id.c, .int .i64 x.mode] 62))
  obtain ⟨w2, hw2⟩ : ∃ w2, w2 = (w.alloc (.cells #[.string x.key, .int .i64 x.id.n, .int .i64 x.id.c, .int .i64 x.mode] 62)) := ⟨_, rfl⟩
  obtain ⟨p1, hp1⟩ : ∃ p1, p1 = w.heap.size := ⟨_, rfl⟩
  rw [← hw2] at HB k1
  rw [← hp1] at k1
  rw [← hw2]
  rw [← hp1]
  clear hw2 hp1
  have HT2 := Lib.hid (HH.out.below HB.out)
  have HK1 := Lib.hid k1
  clear k1
  go_wp2
  go_loopw [5] (ScRel lkR q.wait (fun y => confR y x) w2) (fun i _ => q.wait.length - (intOf i).toNat)
  case atStart => exact ⟨0, rfl, Nat.zero_le _, fun j h => absurd h (by omega), Below.refl _ _⟩
  case round =>
    obtain ⟨k, rfl, hk, hno, hb⟩ := hrel
    have HNO := Lib.hid hno
    have HBR := Lib.hid hb
    have hfh := HT2.out.fh
    have y1 : wr.cell? ⟨g, 2, none⟩ = some (.slice m.aw q.wait.length m.cw) := (HT2.out.below hb).c2
    clear hno hb
    by_cases hlt : k < q.wait.length
    · obtain ⟨b, off, hA, hcell⟩ := rowL (Reads.of_own HT2.out.ow) (by omega)
      have hcy := hcell k hlt
      rw [hA] at y1
      obtain ⟨y, hy⟩ : ∃ y, y = gr lkR q.wait k := ⟨_, rfl⟩
      rw [← hy] at hcy
      have HCY := Lib.hid hcy
      have HY := Lib.hid hy
      have kL : (0 : Int) ≤ (k : Int) := by omega
      have kU : (k : Int) < (q.wait.length : Int) := by omega
      have hS : Hid (∀ w', Below w2.heap.size w2 w' → (w'.cell? ⟨g, 2, none⟩ = some (.slice (some ⟨b, off, none⟩) q.wait.length m.cw) ∧ w'.cell? ⟨b, off + k * 4, none⟩ = some (.string y.key) ∧ w'.cell? ⟨b, off + k * 4 + 1, none⟩ = some (.int .i64 y.id.n) ∧ w'.cell? ⟨b, off + k * 4 + 2, none⟩ = some (.int .i64 y.id.c) ∧ w'.cell? ⟨b, off + k * 4 + 3, none⟩ = some (.int .i64 y.mode) ∧ w'.cell? ⟨p1, 0, none⟩ = some (.string x.key) ∧ w'.cell? ⟨p1, 1, none⟩ = some (.int .i64 x.id.n) ∧ w'.cell? ⟨p1, 2, none⟩ = some (.int .i64 x.id.c) ∧ w'.cell? ⟨p1, 3, none⟩ = some (.int .i64 x.mode))) := Lib.hid (fun w' hb => by
        have h1 := (HT2.out.below hb).c2
        rw [hA] at h1
        obtain ⟨a0, a1, a2, a3⟩ := HCY.out w' hb
        exact ⟨h1, a0, a1, a2, a3, (HK1.out.below hb HK1.out.lt).cell 0, (HK1.out.below hb HK1.out.lt).cell 1, (HK1.out.below hb HK1.out.lt).cell 2, (HK1.out.below hb HK1.out.lt).cell 3⟩)
      have HBD : Hid (Below w2.heap.size w2 wr.drew) := Lib.hid (HBR.out.trans ((below_drewN (Below.refl wr.heap.size wr) 1).mono HBR.out.size))
      clear hy hcy hcell
      cases hv : confR y x with
      | true =>
        have HV := Lib.hid (sc_yes (p := fun y => confR y x) hlt (by show confR (gr lkR q.wait k) x = true; rw [← HY.out]; exact hv))
        go_wp2_with fail
        refine wp_region_heldH (by kernel_rfl) hS (HBD.out) (fun hHeld => ?_)
        refine takes [0, 1, 2, 3, 4, 5, 6, 7] 1 (by kernel_rfl) (by assumption) ?_
        iterate 8 (refine tkY rfl (fun _ _ _ h => h) rfl (by ((intro w hSw); (try dsimp only at hSw); go_simp; (try with_reducible rfl))) ?_; try simp only [Act.put, List.setIfInBounds_toArray, List.set_cons_zero, List.set_cons_succ])
        refine tkE ?_
        refine wpAnyH_ready (rs := [8]) (by kernel_rfl) (by simp) ?_
        refine readyC rfl (fun K hK => ?_) ?_
        ·
          go_simp
          go_at_call 47
          refine (HC.out y _).mono ?_
          rintro e w3 ⟨he_, hb_⟩
          rw [hv] at he_
          subst he_
          have HB3 := Lib.hid (HBD.out.trans (hb_.mono HBD.out.size))
          clear hb_
          go_wp2_with fail
          refine hK.out _ _ (by with_reducible exact hS.out _ HB3.out) (fun hHeld => ?_)
          clear hK K
          try simp only [Act.put, List.setIfInBounds_toArray, List.set_cons_zero, List.set_cons_succ]
          refine wpAnyH_done (by kernel_rfl) ?_ _
          have HBL := Lib.hid (HB.out.trans (HB3.out.mono HB.out.size))
          go_wp2
          go_ret
          exact ⟨ret_bool (by rw [HV.out]; rfl), HBL.out⟩
        exact AllReadyH.nil
      | false =>
        have HV := Lib.hid hv
        go_wp2_with fail
        refine wp_region_heldH (by kernel_rfl) hS (HBD.out) (fun hHeld => ?_)
        refine takes [0, 1, 2, 3, 4, 5, 6, 7] 1 (by kernel_rfl) (by assumption) ?_
        iterate 8 (refine tkY rfl (fun _ _ _ h => h) rfl (by ((intro w hSw); (try dsimp only at hSw); go_simp; (try with_reducible rfl))) ?_; try simp only [Act.put, List.setIfInBounds_toArray, List.set_cons_zero, List.set_cons_succ])
        refine tkE ?_
        refine wpAnyH_ready (rs := [8]) (by kernel_rfl) (by simp) ?_
        refine readyC rfl (fun K hK => ?_) ?_
        ·
          go_simp
          go_at_call 47
          refine (HC.out y _).mono ?_
          rintro e w3 ⟨he_, hb_⟩
          rw [hv] at he_
          subst he_
          have HB3 := Lib.hid (HBD.out.trans (hb_.mono HBD.out.size))
          clear hb_
          go_wp2_with fail
          refine hK.out _ _ (by with_reducible exact hS.out _ HB3.out) (fun hHeld => ?_)
          clear hK K
          try simp only [Act.put, List.setIfInBounds_toArray, List.set_cons_zero, List.set_cons_succ]
          refine wpAnyH_done (by kernel_rfl) ?_ _
          go_wp2
          go_roundw
          case rel => exact ⟨k + 1, by go_num, by omega, sc_on (p := fun y => confR y x) HNO.out (by rw [← HY.out]; exact HV.out), HB3.out⟩
          case measure => simp [intOf]; omega
        exact AllReadyH.nil
    · have kU : ¬ (k : Int) < (q.wait.length : Int) := by omega
      have HV := Lib.hid (sc_no (p := fun y => confR y x) (show q.wait.length ≤ k by omega) HNO.out)
      have HBL := Lib.hid (HB.out.trans (HBR.out.mono HB.out.size))
      have k3 := HK1.out.below HBR.out HK1.out.lt
      have x10 : wr.cell? ⟨p1, 0, none⟩ = some (.string x.key) := k3.cell 0; have x11 : wr.cell? ⟨p1, 1, none⟩ = some (.int .i64 x.id.n) := k3.cell 1; have x12 : wr.cell? ⟨p1, 2, none⟩ = some (.int .i64 x.id.c) := k3.cell 2; have x13 : wr.cell? ⟨p1, 3, none⟩ = some (.int .i64 x.mode) := k3.cell 3
      have HCL := Lib.hid (rclash_any (HT2.out.below HBR.out) x)
      unfold lkV at HCL
      clear k3
      go_wp2_with fail
      refine HCL.out.mono ?_
      rintro e w4 ⟨rfl, hb4⟩
      clear x10 x11 x12 x13 y1
      go_wp2
      go_ret
      exact ⟨ret_bool (by rw [HV.out]; rfl), HBL.out.trans (hb4.mono HBL.out.size)⟩
set_option maxHeartbeats 8000000 in
set_option maxRecDepth 100000 in
theorem rmay_any {w : World} {g : Nat} {q : Tb} {m : TbM} (h : RfAt w g q m) (x : Lk) : Calls Tryz.prog 51 #[.pointer (some ⟨g, 0, none⟩), lkV x] w (BoolIs (!(q.wait.any fun y => confR y x && ol y.id x.id) && !(q.held.any fun y => confR y x)) w) := by
  have HH := Lib.hid h
  have HC := Lib.hid (fun y w => rconf_any y x w)
  have HOL := Lib.hid (fun y w => rolder_any y x.id w)
  unfold lkV at HC
  unfold idV at HOL
  clear h
  unfold lkV
  go_enter Tryz.func51, Tryz.ntmps51
  go_upto_region 1 with fail
  have k1 := Blk.new w 62 #[.string x.key, .int .i64 x.id.n, .int .i64 x.id.c, .int .i64 x.mode]
  have HB := Lib.hid (below_alloc w (.cells #[.string x.key, .int .i64 x.id.n, .int .i64 x.id.c, .int .i64 x.mode] 62))
  obtain ⟨w2, hw2⟩ : ∃ w2, w2 = (w.alloc (.cells #[.string x.key, .int .i64 x.id.n, .int .i64 x.id.c, .int .i64 x.mode] 62)) := ⟨_, rfl⟩
  obtain ⟨p1, hp1⟩ : ∃ p1, p1 = w.heap.size := ⟨_, rfl⟩
  rw [← hw2] at HB k1
  rw [← hp1] at k1
  rw [← hw2]
  rw [← hp1]
  clear hw2 hp1
  have HT2 := Lib.hid (HH.out.below HB.out)
  have HK1 := Lib.hid k1
  clear k1
  go_wp2
  go_loopw [5] (ScRel lkR q.wait (fun y => confR y x && ol y.id x.id) w2) (fun i _ => q.wait.length - (intOf i).toNat)
  case atStart => exact ⟨0, rfl, Nat.zero_le _, fun j h => absurd h (by omega), Below.refl _ _⟩
  case round =>
    obtain ⟨k, rfl, hk, hno, hb⟩ := hrel
    have HNO := Lib.hid hno
    have HBR := Lib.hid hb
    have hfh := HT2.out.fh
    have y1 : wr.cell? ⟨g, 2, none⟩ = some (.slice m.aw q.wait.length m.cw) := (HT2.out.below hb).c2
    clear hno hb
    by_cases hlt : k < q.wait.length
    · obtain ⟨b, off, hA, hcell⟩ := rowL (Reads.of_own HT2.out.ow) (by omega)
      have hcy := hcell k hlt
      rw [hA] at y1
      obtain ⟨y, hy⟩ : ∃ y, y = gr lkR q.wait k := ⟨_, rfl⟩
      rw [← hy] at hcy
      have HCY := Lib.hid hcy
      have HY := Lib.hid hy
      have kL : (0 : Int) ≤ (k : Int) := by omega
      have kU : (k : Int) < (q.wait.length : Int) := by omega
      have hS : Hid (∀ w', Below w2.heap.size w2 w' → (w'.cell? ⟨g, 2, none⟩ = some (.slice (some ⟨b, off, none⟩) q.wait.length m.cw) ∧ w'.cell? ⟨b, off + k * 4, none⟩ = some (.string y.key) ∧ w'.cell? ⟨b, off + k * 4 + 1, none⟩ = some (.int .i64 y.id.n) ∧ w'.cell? ⟨b, off + k * 4 + 2, none⟩ = some (.int .i64 y.id.c) ∧ w'.cell? ⟨b, off + k * 4 + 3, none⟩ = some (.int .i64 y.mode) ∧ w'.cell? ⟨p1, 0, none⟩ = some (.string x.key) ∧ w'.cell? ⟨p1, 1, none⟩ = some (.int .i64 x.id.n) ∧ w'.cell? ⟨p1, 2, none⟩ = some (.int .i64 x.id.c) ∧ w'.cell? ⟨p1, 3, none⟩ = some (.int .i64 x.mode))) := Lib.hid (fun w' hb => by
        have h1 := (HT2.out.below hb).c2
        rw [hA] at h1
        obtain ⟨a0, a1, a2, a3⟩ := HCY.out w' hb
        exact ⟨h1, a0, a1, a2, a3, (HK1.out.below hb HK1.out.lt).cell 0, (HK1.out.below hb HK1.out.lt).cell 1, (HK1.out.below hb HK1.out.lt).cell 2, (HK1.out.below hb HK1.out.lt).cell 3⟩)
      have HBD : Hid (Below w2.heap.size w2 wr.drew) := Lib.hid (HBR.out.trans ((below_drewN (Below.refl wr.heap.size wr) 1).mono HBR.out.size))
      clear hy hcy hcell
      cases hv : confR y x with
      | false =>
        have HV : Hid (((fun y : Lk => confR y x && ol y.id x.id) y) = false) := Lib.hid (by show (confR y x && ol y.id x.id) = false; rw [hv]; rfl)
        go_wp2_with fail
        refine wp_region_heldH (by kernel_rfl) hS (HBD.out) (fun hHeld => ?_)
        refine takes [0, 1, 2, 3, 4, 5, 6, 7] 14 (by kernel_rfl) (by assumption) ?_
        iterate 8 (refine tkY rfl (fun _ _ _ h => h) rfl (by ((intro w hSw); (try dsimp only at hSw); go_simp; (try with_reducible rfl))) ?_; try simp only [Act.put, List.setIfInBounds_toArray, List.set_cons_zero, List.set_cons_succ])
        refine tkE ?_
        refine wpAnyH_ready (rs := [8]) (by kernel_rfl) (by simp) ?_
        refine readyC rfl (fun K hK => ?_) ?_
        ·
          go_simp
          go_at_call 47
          refine (HC.out y _).mono ?_
          rintro e w3 ⟨he_, hb_⟩
          rw [hv] at he_
          subst he_
          have HB3 := Lib.hid (HBD.out.trans (hb_.mono HBD.out.size))
          clear hb_
          go_wp2_with fail
          refine hK.out _ _ (by with_reducible exact hS.out _ HB3.out) (fun hHeld => ?_)
          clear hK K
          try simp only [Act.put, List.setIfInBounds_toArray, List.set_cons_zero, List.set_cons_succ]
          refine takes [9, 10, 11, 12, 13, 14, 15, 16, 17, 18, 19, 20, 21] 0 (by kernel_rfl) (by assumption) ?_
          refine tkY rfl (fun _ _ _ h => h) rfl (by ((intro w hSw); (try dsimp only at hSw); go_simp; (try with_reducible rfl))) ?_; try simp only [Act.put, List.setIfInBounds_toArray, List.set_cons_zero, List.set_cons_succ]
          iterate 11 (refine tkN rfl (fun _ _ _ h => h) rfl ?_; try simp only [Act.put, List.setIfInBounds_toArray, List.set_cons_zero, List.set_cons_succ])
          refine tkY rfl (fun _ _ _ h => h) rfl (by ((intro w hSw); (try dsimp only at hSw); go_simp; (try with_reducible rfl))) ?_; try simp only [Act.put, List.setIfInBounds_toArray, List.set_cons_zero, List.set_cons_succ]
          refine tkE ?_
          refine wpAnyH_done (by kernel_rfl) ?_ _
          go_wp2
          go_roundw
          case rel => exact ⟨k + 1, by go_num, by omega, sc_on (p := (fun y : Lk => confR y x && ol y.id x.id)) HNO.out (by rw [← HY.out]; exact HV.out), HB3.out⟩
          case measure => simp [intOf]; omega
        exact AllReadyH.nil
      | true =>
        cases ho : ol y.id x.id with
        | false =>
          have HV : Hid (((fun y : Lk => confR y x && ol y.id x.id) y) = false) := Lib.hid (by show (confR y x && ol y.id x.id) = false; rw [hv, ho]; rfl)
          go_wp2_with fail
          refine wp_region_heldH (by kernel_rfl) hS (HBD.out) (fun hHeld => ?_)
          refine takes [0, 1, 2, 3, 4, 5, 6, 7] 14 (by kernel_rfl) (by assumption) ?_
          iterate 8 (refine tkY rfl (fun _ _ _ h => h) rfl (by ((intro w hSw); (try dsimp only at hSw); go_simp; (try with_reducible rfl))) ?_; try simp only [Act.put, List.setIfInBounds_toArray, List.set_cons_zero, List.set_cons_succ])
          refine tkE ?_
          refine wpAnyH_ready (rs := [8]) (by kernel_rfl) (by simp) ?_
          refine readyC rfl (fun K hK => ?_) ?_
          ·
            go_simp
            go_at_call 47
            refine (HC.out y _).mono ?_
            rintro e w3 ⟨he_, hb_⟩
            rw [hv] at he_
            subst he_
            have HB3 := Lib.hid (HBD.out.trans (hb_.mono HBD.out.size))
            clear hb_
            go_wp2_with fail
            refine hK.out _ _ (by with_reducible exact hS.out _ HB3.out) (fun hHeld => ?_)
            clear hK K
            try simp only [Act.put, List.setIfInBounds_toArray, List.set_cons_zero, List.set_cons_succ]
            refine takes [9, 10, 11, 12, 13, 14, 15, 16, 17, 18, 19] 2 (by kernel_rfl) (by assumption) ?_
            iterate 11 (refine tkY rfl (fun _ _ _ h => h) rfl (by ((intro w hSw); (try dsimp only at hSw); go_simp; (try with_reducible rfl))) ?_; try simp only [Act.put, List.setIfInBounds_toArray, List.set_cons_zero, List.set_cons_succ])
            refine tkE ?_
            refine wpAnyH_ready (rs := [20]) (by kernel_rfl) (by simp) ?_
            refine readyC rfl (fun K hK => ?_) ?_
            ·
              go_simp
              go_at_call 48
              refine (HOL.out y.id _).mono ?_
              rintro e w4 ⟨he_, hb_⟩
              rw [ho] at he_
              subst he_
              have HB4 := Lib.hid (HB3.out.trans (hb_.mono HB3.out.size))
              clear hb_
              go_wp2_with fail
              refine hK.out _ _ (by with_reducible exact hS.out _ HB4.out) (fun hHeld => ?_)
              clear hK K
              try simp only [Act.put, List.setIfInBounds_toArray, List.set_cons_zero, List.set_cons_succ]
              refine takes [21] 0 (by kernel_rfl) (by assumption) ?_
              refine tkY rfl (fun _ _ _ h => h) rfl (by ((intro w hSw); (try dsimp only at hSw); go_simp; (try with_reducible rfl))) ?_; try simp only [Act.put, List.setIfInBounds_toArray, List.set_cons_zero, List.set_cons_succ]
              refine tkE ?_
              refine wpAnyH_done (by kernel_rfl) ?_ _
              go_wp2
              go_roundw
              case rel => exact ⟨k + 1, by go_num, by omega, sc_on (p := (fun y : Lk => confR y x && ol y.id x.id)) HNO.out (by rw [← HY.out]; exact HV.out), HB4.out⟩
              case measure => simp [intOf]; omega
            exact AllReadyH.nil
          exact AllReadyH.nil
        | true =>
          have HV := Lib.hid (sc_yes (p := (fun y : Lk => confR y x && ol y.id x.id)) hlt (by show (confR (gr lkR q.wait k) x && ol (gr lkR q.wait k).id x.id) = true; rw [← HY.out, hv, ho]; rfl))
          go_wp2_with fail
          refine wp_region_heldH (by kernel_rfl) hS (HBD.out) (fun hHeld => ?_)
          refine takes [0, 1, 2, 3, 4, 5, 6, 7] 14 (by kernel_rfl) (by assumption) ?_
          iterate 8 (refine tkY rfl (fun _ _ _ h => h) rfl (by ((intro w hSw); (try dsimp only at hSw); go_simp; (try with_reducible rfl))) ?_; try simp only [Act.put, List.setIfInBounds_toArray, List.set_cons_zero, List.set_cons_succ])
          refine tkE ?_
          refine wpAnyH_ready (rs := [8]) (by kernel_rfl) (by simp) ?_
          refine readyC rfl (fun K hK => ?_) ?_
          ·
            go_simp
            go_at_call 47
            refine (HC.out y _).mono ?_
            rintro e w3 ⟨he_, hb_⟩
            rw [hv] at he_
            subst he_
            have HB3 := Lib.hid (HBD.out.trans (hb_.mono HBD.out.size))
            clear hb_
            go_wp2_with fail
            refine hK.out _ _ (by with_reducible exact hS.out _ HB3.out) (fun hHeld => ?_)
            clear hK K
            try simp only [Act.put, List.setIfInBounds_toArray, List.set_cons_zero, List.set_cons_succ]
            refine takes [9, 10, 11, 12, 13, 14, 15, 16, 17, 18, 19] 2 (by kernel_rfl) (by assumption) ?_
            iterate 11 (refine tkY rfl (fun _ _ _ h => h) rfl (by ((intro w hSw); (try dsimp only at hSw); go_simp; (try with_reducible rfl))) ?_; try simp only [Act.put, List.setIfInBounds_toArray, List.set_cons_zero, List.set_cons_succ])
            refine tkE ?_
            refine wpAnyH_ready (rs := [20]) (by kernel_rfl) (by simp) ?_
            refine readyC rfl (fun K hK => ?_) ?_
            ·
              go_simp
              go_at_call 48
              refine (HOL.out y.id _).mono ?_
              rintro e w4 ⟨he_, hb_⟩
              rw [ho] at he_
              subst he_
              have HB4 := Lib.hid (HB3.out.trans (hb_.mono HB3.out.size))
              clear hb_
              go_wp2_with fail
              refine hK.out _ _ (by with_reducible exact hS.out _ HB4.out) (fun hHeld => ?_)
              clear hK K
              try simp only [Act.put, List.setIfInBounds_toArray, List.set_cons_zero, List.set_cons_succ]
              refine takes [21] 0 (by kernel_rfl) (by assumption) ?_
              refine tkY rfl (fun _ _ _ h => h) rfl (by ((intro w hSw); (try dsimp only at hSw); go_simp; (try with_reducible rfl))) ?_; try simp only [Act.put, List.setIfInBounds_toArray, List.set_cons_zero, List.set_cons_succ]
              refine tkE ?_
              refine wpAnyH_done (by kernel_rfl) ?_ _
              have HBL := Lib.hid (HB.out.trans (HB4.out.mono HB.out.size))
              go_wp2
              go_ret
              exact ⟨ret_bool (by rw [HV.out]; rfl), HBL.out⟩
            exact AllReadyH.nil
          exact AllReadyH.nil
    · have kU : ¬ (k : Int) < (q.wait.length : Int) := by omega
      have HV := Lib.hid (sc_no (p := (fun y : Lk => confR y x && ol y.id x.id)) (show q.wait.length ≤ k by omega) HNO.out)
      have HBL := Lib.hid (HB.out.trans (HBR.out.mono HB.out.size))
      have k3 := HK1.out.below HBR.out HK1.out.lt
      have x10 : wr.cell? ⟨p1, 0, none⟩ = some (.string x.key) := k3.cell 0; have x11 : wr.cell? ⟨p1, 1, none⟩ = some (.int .i64 x.id.n) := k3.cell 1; have x12 : wr.cell? ⟨p1, 2, none⟩ = some (.int .i64 x.id.c) := k3.cell 2; have x13 : wr.cell? ⟨p1, 3, none⟩ = some (.int .i64 x.mode) := k3.cell 3
      have HCL := Lib.hid (rclash_any (HT2.out.below HBR.out) x)
      unfold lkV at HCL
      clear k3
      go_wp2_with fail
      refine HCL.out.mono ?_
      rintro e w4 ⟨rfl, hb4⟩
      clear x10 x11 x12 x13 y1
      go_wp2
      go_ret
      exact ⟨ret_bool (by rw [HV.out]; rfl), HBL.out.trans (hb4.mono HBL.out.size)⟩
set_option maxHeartbeats 8000000 in
set_option maxRecDepth 100000 in
theorem rmode_any {w : World} {g : Nat} {q : Tb} {m : TbM} (h : RfAt w g q m) (id : Idn) (key : ByteArray) : Calls Tryz.prog 21 #[.pointer (some ⟨g, 0, none⟩), idV id, .string key] w (IntIs (modeI q id key) w) := by
  have HH := Lib.hid h
  have HE := Lib.hid (fun y => run_eqI y id)
  clear h
  unfold idV
  go_enter Tryz.func21, Tryz.ntmps21
  go_upto_region 1 with fail
  have k1 := Blk.new w 29 #[.int .i64 id.n, .int .i64 id.c]
  have HB := Lib.hid (below_alloc w (.cells #[.int .i64 id.n, .int .i64 id.c] 29))
  obtain ⟨w2, hw2⟩ : ∃ w2, w2 = (w.alloc (.cells #[.int .i64 id.n, .int .i64 id.c] 29)) := ⟨_, rfl⟩
  obtain ⟨p1, hp1⟩ : ∃ p1, p1 = w.heap.size := ⟨_, rfl⟩
  rw [← hw2] at HB k1
  rw [← hp1] at k1
  rw [← hw2]
  rw [← hp1]
  clear hw2 hp1
  have HT2 := Lib.hid (HH.out.below HB.out)
  have HK1 := Lib.hid k1
  clear k1
  go_wp2
  go_loopw [7] (ScRel lkR q.held (fun y => at1 y ⟨key, id, 0⟩) w2) (fun i _ => q.held.length - (intOf i).toNat)
  case atStart => exact ⟨0, rfl, Nat.zero_le _, fun j h => absurd h (by omega), Below.refl _ _⟩
  case round =>
    obtain ⟨k, rfl, hk, hno, hb⟩ := hrel
    have HNO := Lib.hid hno
    have HBR := Lib.hid hb
    have hfh := HT2.out.fh
    have y1 : wr.cell? ⟨g, 1, none⟩ = some (.slice m.ah q.held.length m.ch) := (HT2.out.below hb).c1
    clear hno hb
    by_cases hlt : k < q.held.length
    · obtain ⟨b, off, hA, hcell⟩ := rowL (Reads.of_own HT2.out.oh) (by omega)
      have hcy := hcell k hlt
      rw [hA] at y1
      obtain ⟨y, hy⟩ : ∃ y, y = gr lkR q.held k := ⟨_, rfl⟩
      rw [← hy] at hcy
      have HCY := Lib.hid hcy
      have HY := Lib.hid hy
      have kL : (0 : Int) ≤ (k : Int) := by omega
      have kU : (k : Int) < (q.held.length : Int) := by omega
      have hS : Hid (∀ w', Below w2.heap.size w2 w' → (w'.cell? ⟨g, 1, none⟩ = some (.slice (some ⟨b, off, none⟩) q.held.length m.ch) ∧ w'.cell? ⟨b, off + k * 4, none⟩ = some (.string y.key) ∧ w'.cell? ⟨b, off + k * 4 + 1, none⟩ = some (.int .i64 y.id.n) ∧ w'.cell? ⟨b, off + k * 4 + 2, none⟩ = some (.int .i64 y.id.c) ∧ w'.cell? ⟨b, off + k * 4 + 3, none⟩ = some (.int .i64 y.mode) ∧ w'.cell? ⟨p1, 0, none⟩ = some (.int .i64 id.n) ∧ w'.cell? ⟨p1, 1, none⟩ = some (.int .i64 id.c))) := Lib.hid (fun w' hb => by
        have h1 := (HT2.out.below hb).c1
        rw [hA] at h1
        obtain ⟨a0, a1, a2, a3⟩ := HCY.out w' hb
        exact ⟨h1, a0, a1, a2, a3, (HK1.out.below hb HK1.out.lt).cell 0, (HK1.out.below hb HK1.out.lt).cell 1⟩)
      have HBD : Hid (Below w2.heap.size w2 wr.drew) := Lib.hid (HBR.out.trans ((below_drewN (Below.refl wr.heap.size wr) 1).mono HBR.out.size))
      clear hy hcy hcell
      have he := HE.out y.id
      cases hky : (y.key.toList == key.toList) with
      | false =>
        have HV : Hid (((fun y : Lk => at1 y ⟨key, id, 0⟩) y) = false) := Lib.hid (by show at1 y ⟨key, id, 0⟩ = false; unfold at1; exact decide_eq_false (fun h => by have h1 : y.key = key := h.1; rw [h1] at hky; simp at hky))
        clear he
        go_wp2_with fail
        refine wp_region_heldH (by kernel_rfl) hS (HBD.out) (fun hHeld => ?_)
        refine takes [0, 1, 2, 3, 4, 5, 6, 7, 8, 9, 10, 11, 12, 13, 14, 15, 16, 17, 18, 19, 20, 21] 0 (by kernel_rfl) (by assumption) ?_
        iterate 11 (refine tkY rfl (fun _ _ _ h => h) rfl (by ((intro w hSw); (try dsimp only at hSw); go_simp; (try with_reducible rfl))) ?_; try simp only [Act.put, List.setIfInBounds_toArray, List.set_cons_zero, List.set_cons_succ])
        iterate 10 (refine tkN rfl (fun _ _ _ h => h) rfl ?_; try simp only [Act.put, List.setIfInBounds_toArray, List.set_cons_zero, List.set_cons_succ])
        refine tkY rfl (fun _ _ _ h => h) rfl (by ((intro w hSw); (try dsimp only at hSw); go_simp; (try with_reducible rfl))) ?_; try simp only [Act.put, List.setIfInBounds_toArray, List.set_cons_zero, List.set_cons_succ]
        refine tkE ?_
        refine wpAnyH_done (by kernel_rfl) ?_ _
        go_wp2
        go_roundw
        case rel => exact ⟨k + 1, by go_num, by omega, sc_on (p := (fun y : Lk => at1 y ⟨key, id, 0⟩)) HNO.out (by rw [← HY.out]; exact HV.out), HBD.out⟩
        case measure => simp [intOf]; omega
      | true =>
        cases hq : eqI y.id id with
        | false =>
          rw [hq] at he
          have HV : Hid (((fun y : Lk => at1 y ⟨key, id, 0⟩) y) = false) := Lib.hid (by show at1 y ⟨key, id, 0⟩ = false; unfold at1; exact decide_eq_false (fun h => by have h1 : y.id = id := h.2; rw [eqI_iff.2 h1] at hq; cases hq))
          clear hq
          go_wp2_with fail
          refine wp_region_heldH (by kernel_rfl) hS (HBD.out) (fun hHeld => ?_)
          refine takes [0, 1, 2, 3, 4, 5, 6, 7, 8, 9, 10, 11, 12, 13, 14, 15, 16, 17, 18, 19, 20, 21] 0 (by kernel_rfl) (by assumption) ?_
          iterate 22 (refine tkY rfl (fun _ _ _ h => h) rfl (by ((intro w hSw); (try dsimp only at hSw); go_simp; (try with_reducible rfl))) ?_; try simp only [Act.put, List.setIfInBounds_toArray, List.set_cons_zero, List.set_cons_succ])
          refine tkE ?_
          refine wpAnyH_done (by kernel_rfl) ?_ _
          go_wp2
          go_roundw
          case rel => exact ⟨k + 1, by go_num, by omega, sc_on (p := (fun y : Lk => at1 y ⟨key, id, 0⟩)) HNO.out (by rw [← HY.out]; exact HV.out), HBD.out⟩
          case measure => simp [intOf]; omega
        | true =>
          rw [hq] at he
          have hat : at1 y ⟨key, id, 0⟩ = true := at1_iff.2 ⟨toList_inj (by simpa using hky), eqI_iff.1 hq⟩
          have HV : Hid (modeI q id key = y.mode) := Lib.hid (by unfold modeI; rw [sc_find hlt HNO.out (by rw [← HY.out]; exact hat), ← HY.out])
          clear hq hat
          have HSD := Lib.hid (hS.out _ HBD.out)
          go_wp2_with fail
          refine wp_region_heldH (by kernel_rfl) hS (HBD.out) (fun hHeld => ?_)
          refine takes [0, 1, 2, 3, 4, 5, 6, 7, 8, 9, 10, 11, 12, 13, 14, 15, 16, 17, 18, 19, 20, 21] 0 (by kernel_rfl) (by assumption) ?_
          iterate 22 (refine tkY rfl (fun _ _ _ h => h) rfl (by ((intro w hSw); (try dsimp only at hSw); go_simp; (try with_reducible rfl))) ?_; try simp only [Act.put, List.setIfInBounds_toArray, List.set_cons_zero, List.set_cons_succ])
          refine tkE ?_
          refine wpAnyH_done (by kernel_rfl) ?_ _
          obtain ⟨z0, z1, z2, z3, z4, _⟩ := HSD.out
          have HBL := Lib.hid (HB.out.trans (HBD.out.mono HB.out.size))
          go_wp2
          go_ret
          exact ⟨ret_int HV.out.symm, HBL.out⟩
    · have kU : ¬ (k : Int) < (q.held.length : Int) := by omega
      have HV : Hid (modeI q id key = 0) := Lib.hid (by unfold modeI; rw [sc_none (show q.held.length ≤ k by omega) HNO.out])
      have HBL := Lib.hid (HB.out.trans (HBR.out.mono HB.out.size))
      go_wp2
      go_ret
      exact ⟨ret_int HV.out.symm, HBL.out⟩
end Go.Proofs.YtpidpdbjjdkhoaaGreat
