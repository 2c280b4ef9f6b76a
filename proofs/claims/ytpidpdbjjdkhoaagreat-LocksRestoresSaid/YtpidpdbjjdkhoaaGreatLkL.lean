/- Locks: the closures; put, mark, without. -/
import Derived.Test.YtpidpdbjjdkhoaaGreatLkK
namespace Go.Proofs.YtpidpdbjjdkhoaaGreat
open Go.RowKit
set_option linter.unusedSimpArgs false
set_option linter.unusedVariables false
attribute [local go_sem ↓] Go.wp_at_zero Go.wp_at_succ

/-- a question that keeps no state, asked while the blocks T may turn -/
def PureSt {α : Type} (T : List Nat) (w0 : World) (_ : List α) (S : List Nat) (W : World) : Prop := S = [] ∧ Kept T w0 W
theorem Kept.then_below {T : List Nat} {w0 W w' : World} (h : Kept T w0 W) (hb : Below W.heap.size W w') : Kept T w0 w' := h.trans (Kept.of_below (S := T) hb) (fun x hx => .inl hx)
theorem pure_stab {α : Type} {T : List Nat} {w0 : World} (pre : List α) (S : List Nat) (W W' : World) (h : PureSt T w0 pre S W) (hk : Kept T W W') : PureSt T w0 pre S W' := ⟨h.1, h.2.trans hk (fun x hx => .inl hx)⟩
theorem pure_lt {α : Type} {T : List Nat} {w0 : World} (pre : List α) (S : List Nat) (W : World) (h : PureSt T w0 pre S W) : ∀ k ∈ S, k < W.heap.size := by rw [h.1]; simp
theorem pure_qI {g : Nat} {lb : Array Value} {p : Idn → Bool} {T : List Nat} {w0 : World} (h : ∀ x W, Kept T w0 W → Calls Tryz.prog g (#[idV x] ++ lb) W (BoolIs (p x) W)) : QuestionI g lb p (PureSt T w0) := by
  intro pre S x W hst _
  obtain ⟨rfl, hk⟩ := hst
  exact (h x W hk).mono fun e w' ⟨he, hb⟩ => ⟨he, [], ⟨rfl, hk.then_below hb⟩, ⟨Kept.of_below hb, by simp⟩⟩
theorem pure_qL {g : Nat} {lb : Array Value} {p : Lk → Bool} {T : List Nat} {w0 : World} (h : ∀ x W, Kept T w0 W → Calls Tryz.prog g (#[lkV x] ++ lb) W (BoolIs (p x) W)) : QuestionL g lb p (PureSt T w0) := by
  intro pre S x W hst _
  obtain ⟨rfl, hk⟩ := hst
  exact (h x W hk).mono fun e w' ⟨he, hb⟩ => ⟨he, [], ⟨rfl, hk.then_below hb⟩, ⟨Kept.of_below hb, by simp⟩⟩
set_option maxHeartbeats 1000000 in
theorem wid_any (x : Lk) (id : Idn) (g : Nat) (w : World) (hg : Blk w g 29 #[.int .i64 id.n, .int .i64 id.c]) : Calls Tryz.prog 80 #[lkV x, .pointer (some ⟨g, 0, none⟩)] w (BoolIs (eqI x.id id) w) := by
  have he := run_eqI x.id id
  have hgl := hg.lt
  unfold lkV
  go_enter Tryz.func80, Tryz.ntmps80
  go_upto_region 1 with fail
  have hg2 := hg.alloc (.cells #[.string x.key, .int .i64 x.id.n, .int .i64 x.id.c, .int .i64 x.mode] 62)
  have k1 := Blk.new w 62 #[.string x.key, .int .i64 x.id.n, .int .i64 x.id.c, .int .i64 x.mode]
  have HB := Lib.hid (below_alloc w (.cells #[.string x.key, .int .i64 x.id.n, .int .i64 x.id.c, .int .i64 x.mode] 62))
  obtain ⟨w2, hw2⟩ : ∃ w2, w2 = (w.alloc (.cells #[.string x.key, .int .i64 x.id.n, .int .i64 x.id.c, .int .i64 x.mode] 62)) := ⟨_, rfl⟩
  obtain ⟨p1, hp1⟩ : ∃ p1, p1 = w.heap.size := ⟨_, rfl⟩
  rw [← hw2] at HB k1 hg2
  rw [← hp1] at k1
  rw [← hw2]
  rw [← hp1]
  clear hw2 hp1
  have x10 : w2.cell? ⟨p1, 0, none⟩ = some (.string x.key) := k1.cell 0
  have x11 : w2.cell? ⟨p1, 1, none⟩ = some (.int .i64 x.id.n) := k1.cell 1
  have x12 : w2.cell? ⟨p1, 2, none⟩ = some (.int .i64 x.id.c) := k1.cell 2
  have x13 : w2.cell? ⟨p1, 3, none⟩ = some (.int .i64 x.mode) := k1.cell 3
  have y0 : w2.cell? ⟨g, 0, none⟩ = some (.int .i64 id.n) := hg2.cell 0
  have y1 : w2.cell? ⟨g, 1, none⟩ = some (.int .i64 id.c) := hg2.cell 1
  clear k1 hg2 hg hgl
  go_wp2
  go_ret
  exact ⟨rfl, HB.out⟩
set_option maxHeartbeats 1000000 in
theorem pid_any (x : Lk) (id : Idn) (g : Nat) (w : World) (hg : Blk w g 29 #[.int .i64 id.n, .int .i64 id.c]) : Calls Tryz.prog 53 #[lkV x, .pointer (some ⟨g, 0, none⟩)] w (BoolIs (eqI x.id id) w) := by
  have he := run_eqI x.id id
  have hgl := hg.lt
  unfold lkV
  go_enter Tryz.func53, Tryz.ntmps53
  go_upto_region 1 with fail
  have hg2 := hg.alloc (.cells #[.string x.key, .int .i64 x.id.n, .int .i64 x.id.c, .int .i64 x.mode] 62)
  have k1 := Blk.new w 62 #[.string x.key, .int .i64 x.id.n, .int .i64 x.id.c, .int .i64 x.mode]
  have HB := Lib.hid (below_alloc w (.cells #[.string x.key, .int .i64 x.id.n, .int .i64 x.id.c, .int .i64 x.mode] 62))
  obtain ⟨w2, hw2⟩ : ∃ w2, w2 = (w.alloc (.cells #[.string x.key, .int .i64 x.id.n, .int .i64 x.id.c, .int .i64 x.mode] 62)) := ⟨_, rfl⟩
  obtain ⟨p1, hp1⟩ : ∃ p1, p1 = w.heap.size := ⟨_, rfl⟩
  rw [← hw2] at HB k1 hg2
  rw [← hp1] at k1
  rw [← hw2]
  rw [← hp1]
  clear hw2 hp1
  have x10 : w2.cell? ⟨p1, 0, none⟩ = some (.string x.key) := k1.cell 0
  have x11 : w2.cell? ⟨p1, 1, none⟩ = some (.int .i64 x.id.n) := k1.cell 1
  have x12 : w2.cell? ⟨p1, 2, none⟩ = some (.int .i64 x.id.c) := k1.cell 2
  have x13 : w2.cell? ⟨p1, 3, none⟩ = some (.int .i64 x.mode) := k1.cell 3
  have y0 : w2.cell? ⟨g, 0, none⟩ = some (.int .i64 id.n) := hg2.cell 0
  have y1 : w2.cell? ⟨g, 1, none⟩ = some (.int .i64 id.c) := hg2.cell 1
  clear k1 hg2 hg hgl
  go_wp2
  go_ret
  exact ⟨rfl, HB.out⟩
set_option maxHeartbeats 1000000 in
theorem sameI (y x : Idn) (g : Nat) (w : World) (hg : Blk w g 29 #[.int .i64 x.n, .int .i64 x.c]) : Calls Tryz.prog 92 #[idV y, .pointer (some ⟨g, 0, none⟩)] w (BoolIs (eqI y x) w) := by
  have he := run_eqI y x
  have hgl := hg.lt
  unfold idV
  go_enter Tryz.func92, Tryz.ntmps92
  go_upto_region 1 with fail
  have hg2 := hg.alloc (.cells #[.int .i64 y.n, .int .i64 y.c] 29)
  have k1 := Blk.new w 29 #[.int .i64 y.n, .int .i64 y.c]
  have HB := Lib.hid (below_alloc w (.cells #[.int .i64 y.n, .int .i64 y.c] 29))
  obtain ⟨w2, hw2⟩ : ∃ w2, w2 = (w.alloc (.cells #[.int .i64 y.n, .int .i64 y.c] 29)) := ⟨_, rfl⟩
  obtain ⟨p1, hp1⟩ : ∃ p1, p1 = w.heap.size := ⟨_, rfl⟩
  rw [← hw2] at HB k1 hg2
  rw [← hp1] at k1
  rw [← hw2]
  rw [← hp1]
  clear hw2 hp1
  have x10 : w2.cell? ⟨p1, 0, none⟩ = some (.int .i64 y.n) := k1.cell 0
  have x11 : w2.cell? ⟨p1, 1, none⟩ = some (.int .i64 y.c) := k1.cell 1
  have y0 : w2.cell? ⟨g, 0, none⟩ = some (.int .i64 x.n) := hg2.cell 0
  have y1 : w2.cell? ⟨g, 1, none⟩ = some (.int .i64 x.c) := hg2.cell 1
  clear k1 hg2 hg hgl
  go_wp2
  go_ret
  exact ⟨rfl, HB.out⟩
def WithoutEndsI (A : Option Addr) (c : Nat) (l : List Idn) (x : Idn) (w : World) (e : Ending) (w' : World) : Prop :=
  e = .returned (.slice A (l.filter fun y => decide (y ≠ x)).length c) ∧ w'.ownsRow 0 29 2 (.slice A (l.filter fun y => decide (y ≠ x)).length c) (l.filter fun y => decide (y ≠ x)).length (rc idR (l.filter fun y => decide (y ≠ x))) ∧ Kept (ob A) w w'
theorem keep_neI (l : List Idn) (x : Idn) : keepP (fun y => eqI y x) l = l.filter fun y => decide (y ≠ x) := by
  unfold keepP
  congr 1
  funext y
  show (!eqI y x) = _
  rw [eqI_dec]
  by_cases h : y = x <;> simp [h]
set_option maxHeartbeats 1000000 in
theorem withoutI (A : Option Addr) (c : Nat) (l : List Idn) (x : Idn) (w : World) (hown : w.ownsRow 0 29 2 (.slice A l.length c) l.length (rc idR l)) (hl : l.length ≤ 1000000) :
    Calls Tryz.prog 57 #[.slice A l.length c, idV x] w (WithoutEndsI A c l x w) := by
  have hba := below_alloc w (.cells #[.int .i64 x.n, .int .i64 x.c] 29)
  have hb2 : Blk (w.alloc (.cells #[.int .i64 x.n, .int .i64 x.c] 29)) w.heap.size 29 #[.int .i64 x.n, .int .i64 x.c] := Blk.new w 29 _
  have hownA := (Kept.of_below (S := []) hba).own hown (by simp)
  have hgA : w.heap.size ∉ ob A := fun hm => by have := own_lt hown _ hm; omega
  have HD := Lib.hid (delfI 92 #[.pointer (some ⟨w.heap.size, 0, none⟩)] (enters_of Tryz.func92 (by kernel_rfl) rfl) (fun y => eqI y x) (PureSt (ob A) (w.alloc (.cells #[.int .i64 x.n, .int .i64 x.c] 29))) []
    (pure_qI (fun y W hk => sameI y x w.heap.size W (hk.blk hb2 hgA))) A (fun pre S W W' h hk _ => pure_stab pre S W W' h hk) pure_lt c l (w.alloc (.cells #[.int .i64 x.n, .int .i64 x.c] 29)) hownA (by simp) ⟨rfl, Kept.refl _ _⟩ (by omega))
  have HK : Hid (∀ w', Kept (ob A) (w.alloc (.cells #[.int .i64 x.n, .int .i64 x.c] 29)) w' → Kept (ob A) w w') := Lib.hid (fun w' hk => (Kept.of_below (S := ob A) hba).trans hk (fun y hy => .inl hy))
  clear hb2 hownA hgA hba hown
  unfold idV
  go_enter Tryz.func57, Tryz.ntmps57
  go_wp2_with fail
  refine HD.out.mono ?_
  rintro e w1 ⟨he, hown1, S', ⟨hS', hk⟩, _⟩
  have HOW := Lib.hid hown1
  have HKK := Lib.hid hk
  rw [keep_neI] at he HOW
  obtain ⟨m, hm⟩ : ∃ m, m = l.filter fun y => decide (y ≠ x) := ⟨_, rfl⟩
  rw [← hm] at he HOW
  have HM := Lib.hid hm
  subst he
  clear hown1 hk HD hm
  go_wp2_with fail
  go_ret
  unfold WithoutEndsI
  rw [← HM.out]
  exact ⟨rfl, HOW.out, HK.out _ HKK.out⟩
set_option maxHeartbeats 1000000 in
theorem sameL (y x : Lk) (g : Nat) (w : World) (hg : Blk w g 62 #[.string x.key, .int .i64 x.id.n, .int .i64 x.id.c, .int .i64 x.mode]) : Calls Tryz.prog 95 #[lkV y, .pointer (some ⟨g, 0, none⟩)] w (BoolIs (eqL y x) w) := by
  have he := run_eqL y x
  have hgl := hg.lt
  unfold lkV
  go_enter Tryz.func95, Tryz.ntmps95
  go_upto_region 1 with fail
  have hg2 := hg.alloc (.cells #[.string y.key, .int .i64 y.id.n, .int .i64 y.id.c, .int .i64 y.mode] 62)
  have k1 := Blk.new w 62 #[.string y.key, .int .i64 y.id.n, .int .i64 y.id.c, .int .i64 y.mode]
  have HB := Lib.hid (below_alloc w (.cells #[.string y.key, .int .i64 y.id.n, .int .i64 y.id.c, .int .i64 y.mode] 62))
  obtain ⟨w2, hw2⟩ : ∃ w2, w2 = (w.alloc (.cells #[.string y.key, .int .i64 y.id.n, .int .i64 y.id.c, .int .i64 y.mode] 62)) := ⟨_, rfl⟩
  obtain ⟨p1, hp1⟩ : ∃ p1, p1 = w.heap.size := ⟨_, rfl⟩
  rw [← hw2] at HB k1 hg2
  rw [← hp1] at k1
  rw [← hw2]
  rw [← hp1]
  clear hw2 hp1
  have x10 : w2.cell? ⟨p1, 0, none⟩ = some (.string y.key) := k1.cell 0
  have x11 : w2.cell? ⟨p1, 1, none⟩ = some (.int .i64 y.id.n) := k1.cell 1
  have x12 : w2.cell? ⟨p1, 2, none⟩ = some (.int .i64 y.id.c) := k1.cell 2
  have x13 : w2.cell? ⟨p1, 3, none⟩ = some (.int .i64 y.mode) := k1.cell 3
  have y0 : w2.cell? ⟨g, 0, none⟩ = some (.string x.key) := hg2.cell 0
  have y1 : w2.cell? ⟨g, 1, none⟩ = some (.int .i64 x.id.n) := hg2.cell 1
  have y2 : w2.cell? ⟨g, 2, none⟩ = some (.int .i64 x.id.c) := hg2.cell 2
  have y3 : w2.cell? ⟨g, 3, none⟩ = some (.int .i64 x.mode) := hg2.cell 3
  clear k1 hg2 hg hgl
  go_wp2
  go_ret
  exact ⟨rfl, HB.out⟩
def WithoutEndsL (A : Option Addr) (c : Nat) (l : List Lk) (x : Lk) (w : World) (e : Ending) (w' : World) : Prop :=
  e = .returned (.slice A (l.filter fun y => decide (y ≠ x)).length c) ∧ w'.ownsRow 0 62 4 (.slice A (l.filter fun y => decide (y ≠ x)).length c) (l.filter fun y => decide (y ≠ x)).length (rc lkR (l.filter fun y => decide (y ≠ x))) ∧ Kept (ob A) w w'
theorem keep_neL (l : List Lk) (x : Lk) : keepP (fun y => eqL y x) l = l.filter fun y => decide (y ≠ x) := by
  unfold keepP
  congr 1
  funext y
  show (!eqL y x) = _
  rw [eqL_dec]
  by_cases h : y = x <;> simp [h]
set_option maxHeartbeats 1000000 in
theorem withoutL (A : Option Addr) (c : Nat) (l : List Lk) (x : Lk) (w : World) (hown : w.ownsRow 0 62 4 (.slice A l.length c) l.length (rc lkR l)) (hl : l.length ≤ 1000000) :
    Calls Tryz.prog 60 #[.slice A l.length c, lkV x] w (WithoutEndsL A c l x w) := by
  have hba := below_alloc w (.cells #[.string x.key, .int .i64 x.id.n, .int .i64 x.id.c, .int .i64 x.mode] 62)
  have hb2 : Blk (w.alloc (.cells #[.string x.key, .int .i64 x.id.n, .int .i64 x.id.c, .int .i64 x.mode] 62)) w.heap.size 62 #[.string x.key, .int .i64 x.id.n, .int .i64 x.id.c, .int .i64 x.mode] := Blk.new w 62 _
  have hownA := (Kept.of_below (S := []) hba).own hown (by simp)
  have hgA : w.heap.size ∉ ob A := fun hm => by have := own_lt hown _ hm; omega
  have HD := Lib.hid (delfL 95 #[.pointer (some ⟨w.heap.size, 0, none⟩)] (enters_of Tryz.func95 (by kernel_rfl) rfl) (fun y => eqL y x) (PureSt (ob A) (w.alloc (.cells #[.string x.key, .int .i64 x.id.n, .int .i64 x.id.c, .int .i64 x.mode] 62))) []
    (pure_qL (fun y W hk => sameL y x w.heap.size W (hk.blk hb2 hgA))) A (fun pre S W W' h hk _ => pure_stab pre S W W' h hk) pure_lt c l (w.alloc (.cells #[.string x.key, .int .i64 x.id.n, .int .i64 x.id.c, .int .i64 x.mode] 62)) hownA (by simp) ⟨rfl, Kept.refl _ _⟩ (by omega))
  have HK : Hid (∀ w', Kept (ob A) (w.alloc (.cells #[.string x.key, .int .i64 x.id.n, .int .i64 x.id.c, .int .i64 x.mode] 62)) w' → Kept (ob A) w w') := Lib.hid (fun w' hk => (Kept.of_below (S := ob A) hba).trans hk (fun y hy => .inl hy))
  clear hb2 hownA hgA hba hown
  unfold lkV
  go_enter Tryz.func60, Tryz.ntmps60
  go_wp2_with fail
  refine HD.out.mono ?_
  rintro e w1 ⟨he, hown1, S', ⟨hS', hk⟩, _⟩
  have HOW := Lib.hid hown1
  have HKK := Lib.hid hk
  rw [keep_neL] at he HOW
  obtain ⟨m, hm⟩ : ∃ m, m = l.filter fun y => decide (y ≠ x) := ⟨_, rfl⟩
  rw [← hm] at he HOW
  have HM := Lib.hid hm
  subst he
  clear hown1 hk HD hm
  go_wp2_with fail
  go_ret
  unfold WithoutEndsL
  rw [← HM.out]
  exact ⟨rfl, HOW.out, HK.out _ HKK.out⟩
set_option maxHeartbeats 2000000 in
theorem against1 (l x : Lk) (g1 g2 : Nat) (w : World) (h1 : Blk w g1 62 #[.string x.key, .int .i64 x.id.n, .int .i64 x.id.c, .int .i64 x.mode]) (h2 : Blk w g2 71 #[(.func (.func 39) #[] #[])]) : Calls Tryz.prog 82 #[lkV l, .pointer (some ⟨g1, 0, none⟩), .pointer (some ⟨g2, 0, none⟩)] w (BoolIs (conf l x) w) := by
  have HC := Lib.hid (conflict_any l x)
  unfold lkV at HC
  have hl1 := h1.lt
  have hl2 := h2.lt
  cases hc : conf l x with
  | false =>
    rw [hc] at HC
    clear hc
    unfold lkV
    go_enter Tryz.func82, Tryz.ntmps82
    go_upto_region 1 with fail
    have q1 := h1.alloc (.cells #[.string l.key, .int .i64 l.id.n, .int .i64 l.id.c, .int .i64 l.mode] 62)
    have q2 := h2.alloc (.cells #[.string l.key, .int .i64 l.id.n, .int .i64 l.id.c, .int .i64 l.mode] 62)
    have k1 := Blk.new w 62 #[.string l.key, .int .i64 l.id.n, .int .i64 l.id.c, .int .i64 l.mode]
    have HB := Lib.hid (below_alloc w (.cells #[.string l.key, .int .i64 l.id.n, .int .i64 l.id.c, .int .i64 l.mode] 62))
    obtain ⟨w2, hw2⟩ : ∃ w2, w2 = (w.alloc (.cells #[.string l.key, .int .i64 l.id.n, .int .i64 l.id.c, .int .i64 l.mode] 62)) := ⟨_, rfl⟩
    obtain ⟨p1, hp1⟩ : ∃ p1, p1 = w.heap.size := ⟨_, rfl⟩
    rw [← hw2] at HB k1 q1 q2
    rw [← hp1] at k1
    rw [← hw2]
    rw [← hp1]
    clear hw2 hp1
    have x10 : w2.cell? ⟨p1, 0, none⟩ = some (.string l.key) := k1.cell 0
    have x11 : w2.cell? ⟨p1, 1, none⟩ = some (.int .i64 l.id.n) := k1.cell 1
    have x12 : w2.cell? ⟨p1, 2, none⟩ = some (.int .i64 l.id.c) := k1.cell 2
    have x13 : w2.cell? ⟨p1, 3, none⟩ = some (.int .i64 l.mode) := k1.cell 3
    have y0 : w2.cell? ⟨g1, 0, none⟩ = some (.string x.key) := q1.cell 0
    have y1 : w2.cell? ⟨g1, 1, none⟩ = some (.int .i64 x.id.n) := q1.cell 1
    have y2 : w2.cell? ⟨g1, 2, none⟩ = some (.int .i64 x.id.c) := q1.cell 2
    have y3 : w2.cell? ⟨g1, 3, none⟩ = some (.int .i64 x.mode) := q1.cell 3
    clear k1 q1 q2
    go_wp2_with fail
    refine (HC.out _).mono ?_
    rintro e w3 ⟨rfl, hb3⟩
    clear x10 x11 x12 x13 y0 y1 y2 y3
    go_wp2
    go_ret
    exact ⟨rfl, HB.out.trans (hb3.mono HB.out.size)⟩
  | true =>
    rw [hc] at HC
    clear hc
    unfold lkV
    go_enter Tryz.func82, Tryz.ntmps82
    go_upto_region 1 with fail
    have q1 := h1.alloc (.cells #[.string l.key, .int .i64 l.id.n, .int .i64 l.id.c, .int .i64 l.mode] 62)
    have q2 := h2.alloc (.cells #[.string l.key, .int .i64 l.id.n, .int .i64 l.id.c, .int .i64 l.mode] 62)
    have k1 := Blk.new w 62 #[.string l.key, .int .i64 l.id.n, .int .i64 l.id.c, .int .i64 l.mode]
    have HB := Lib.hid (below_alloc w (.cells #[.string l.key, .int .i64 l.id.n, .int .i64 l.id.c, .int .i64 l.mode] 62))
    obtain ⟨w2, hw2⟩ : ∃ w2, w2 = (w.alloc (.cells #[.string l.key, .int .i64 l.id.n, .int .i64 l.id.c, .int .i64 l.mode] 62)) := ⟨_, rfl⟩
    obtain ⟨p1, hp1⟩ : ∃ p1, p1 = w.heap.size := ⟨_, rfl⟩
    rw [← hw2] at HB k1 q1 q2
    rw [← hp1] at k1
    rw [← hw2]
    rw [← hp1]
    clear hw2 hp1
    have x10 : w2.cell? ⟨p1, 0, none⟩ = some (.string l.key) := k1.cell 0
    have x11 : w2.cell? ⟨p1, 1, none⟩ = some (.int .i64 l.id.n) := k1.cell 1
    have x12 : w2.cell? ⟨p1, 2, none⟩ = some (.int .i64 l.id.c) := k1.cell 2
    have x13 : w2.cell? ⟨p1, 3, none⟩ = some (.int .i64 l.mode) := k1.cell 3
    have y0 : w2.cell? ⟨g1, 0, none⟩ = some (.string x.key) := q1.cell 0
    have y1 : w2.cell? ⟨g1, 1, none⟩ = some (.int .i64 x.id.n) := q1.cell 1
    have y2 : w2.cell? ⟨g1, 2, none⟩ = some (.int .i64 x.id.c) := q1.cell 2
    have y3 : w2.cell? ⟨g1, 3, none⟩ = some (.int .i64 x.mode) := q1.cell 3
    have y4 : w2.cell? ⟨g2, 0, none⟩ = some ((.func (.func 39) #[] #[])) := q2.cell 0
    have HK1 := Lib.hid k1
    have HK2 := Lib.hid q2
    clear k1 q1 q2
    go_wp2_with fail
    refine (HC.out _).mono ?_
    rintro e w3 ⟨rfl, hb3⟩
    have kb := HK1.out.below hb3 HK1.out.lt
    have kc := HK2.out.below hb3 HK2.out.lt
    have HB3 := Lib.hid (HB.out.trans (hb3.mono HB.out.size))
    clear x10 x11 x12 x13 y0 y1 y2 y3 y4
    have x10 : w3.cell? ⟨p1, 0, none⟩ = some (.string l.key) := kb.cell 0
    have x11 : w3.cell? ⟨p1, 1, none⟩ = some (.int .i64 l.id.n) := kb.cell 1
    have x12 : w3.cell? ⟨p1, 2, none⟩ = some (.int .i64 l.id.c) := kb.cell 2
    have x13 : w3.cell? ⟨p1, 3, none⟩ = some (.int .i64 l.mode) := kb.cell 3
    have y4 : w3.cell? ⟨g2, 0, none⟩ = some ((.func (.func 39) #[] #[])) := kc.cell 0
    have HA := Lib.hid (always_any l w3)
    unfold lkV at HA
    clear kb kc hb3
    go_wp2_with fail
    refine HA.out.mono ?_
    rintro e w4 ⟨rfl, hb4⟩
    clear x10 x11 x12 x13 y4
    go_wp2
    go_ret
    exact ⟨rfl, HB3.out.trans (hb4.mono HB3.out.size)⟩
set_option maxHeartbeats 2000000 in
theorem against2 (l x y : Lk) (g1 g2 g3 : Nat) (w : World) (h1 : Blk w g1 62 #[.string x.key, .int .i64 x.id.n, .int .i64 x.id.c, .int .i64 x.mode]) (h2 : Blk w g2 71 #[(.func (.func 85) #[] #[.pointer (some ⟨g3, 0, none⟩)])]) (h3 : Blk w g3 62 #[.string y.key, .int .i64 y.id.n, .int .i64 y.id.c, .int .i64 y.mode]) : Calls Tryz.prog 82 #[lkV l, .pointer (some ⟨g1, 0, none⟩), .pointer (some ⟨g2, 0, none⟩)] w (BoolIs (conf l x && ol l.id y.id) w) := by
  have HC := Lib.hid (conflict_any l x)
  unfold lkV at HC
  have hl1 := h1.lt
  have hl2 := h2.lt
  cases hc : conf l x with
  | false =>
    rw [hc] at HC
    clear hc
    unfold lkV
    go_enter Tryz.func82, Tryz.ntmps82
    go_upto_region 1 with fail
    have q1 := h1.alloc (.cells #[.string l.key, .int .i64 l.id.n, .int .i64 l.id.c, .int .i64 l.mode] 62)
    have q2 := h2.alloc (.cells #[.string l.key, .int .i64 l.id.n, .int .i64 l.id.c, .int .i64 l.mode] 62)
    have k1 := Blk.new w 62 #[.string l.key, .int .i64 l.id.n, .int .i64 l.id.c, .int .i64 l.mode]
    have HB := Lib.hid (below_alloc w (.cells #[.string l.key, .int .i64 l.id.n, .int .i64 l.id.c, .int .i64 l.mode] 62))
    obtain ⟨w2, hw2⟩ : ∃ w2, w2 = (w.alloc (.cells #[.string l.key, .int .i64 l.id.n, .int .i64 l.id.c, .int .i64 l.mode] 62)) := ⟨_, rfl⟩
    obtain ⟨p1, hp1⟩ : ∃ p1, p1 = w.heap.size := ⟨_, rfl⟩
    rw [← hw2] at HB k1 q1 q2
    rw [← hp1] at k1
    rw [← hw2]
    rw [← hp1]
    clear hw2 hp1
    have x10 : w2.cell? ⟨p1, 0, none⟩ = some (.string l.key) := k1.cell 0
    have x11 : w2.cell? ⟨p1, 1, none⟩ = some (.int .i64 l.id.n) := k1.cell 1
    have x12 : w2.cell? ⟨p1, 2, none⟩ = some (.int .i64 l.id.c) := k1.cell 2
    have x13 : w2.cell? ⟨p1, 3, none⟩ = some (.int .i64 l.mode) := k1.cell 3
    have y0 : w2.cell? ⟨g1, 0, none⟩ = some (.string x.key) := q1.cell 0
    have y1 : w2.cell? ⟨g1, 1, none⟩ = some (.int .i64 x.id.n) := q1.cell 1
    have y2 : w2.cell? ⟨g1, 2, none⟩ = some (.int .i64 x.id.c) := q1.cell 2
    have y3 : w2.cell? ⟨g1, 3, none⟩ = some (.int .i64 x.mode) := q1.cell 3
    clear k1 q1 q2
    go_wp2_with fail
    refine (HC.out _).mono ?_
    rintro e w3 ⟨rfl, hb3⟩
    clear x10 x11 x12 x13 y0 y1 y2 y3
    go_wp2
    go_ret
    exact ⟨rfl, HB.out.trans (hb3.mono HB.out.size)⟩
  | true =>
    rw [hc] at HC
    clear hc
    unfold lkV
    go_enter Tryz.func82, Tryz.ntmps82
    go_upto_region 1 with fail
    have q1 := h1.alloc (.cells #[.string l.key, .int .i64 l.id.n, .int .i64 l.id.c, .int .i64 l.mode] 62)
    have q2 := h2.alloc (.cells #[.string l.key, .int .i64 l.id.n, .int .i64 l.id.c, .int .i64 l.mode] 62)
    have k1 := Blk.new w 62 #[.string l.key, .int .i64 l.id.n, .int .i64 l.id.c, .int .i64 l.mode]
    have HB := Lib.hid (below_alloc w (.cells #[.string l.key, .int .i64 l.id.n, .int .i64 l.id.c, .int .i64 l.mode] 62))
    obtain ⟨w2, hw2⟩ : ∃ w2, w2 = (w.alloc (.cells #[.string l.key, .int .i64 l.id.n, .int .i64 l.id.c, .int .i64 l.mode] 62)) := ⟨_, rfl⟩
    obtain ⟨p1, hp1⟩ : ∃ p1, p1 = w.heap.size := ⟨_, rfl⟩
    rw [← hw2] at HB k1 q1 q2
    rw [← hp1] at k1
    rw [← hw2]
    rw [← hp1]
    clear hw2 hp1
    have x10 : w2.cell? ⟨p1, 0, none⟩ = some (.string l.key) := k1.cell 0
    have x11 : w2.cell? ⟨p1, 1, none⟩ = some (.int .i64 l.id.n) := k1.cell 1
    have x12 : w2.cell? ⟨p1, 2, none⟩ = some (.int .i64 l.id.c) := k1.cell 2
    have x13 : w2.cell? ⟨p1, 3, none⟩ = some (.int .i64 l.mode) := k1.cell 3
    have y0 : w2.cell? ⟨g1, 0, none⟩ = some (.string x.key) := q1.cell 0
    have y1 : w2.cell? ⟨g1, 1, none⟩ = some (.int .i64 x.id.n) := q1.cell 1
    have y2 : w2.cell? ⟨g1, 2, none⟩ = some (.int .i64 x.id.c) := q1.cell 2
    have y3 : w2.cell? ⟨g1, 3, none⟩ = some (.int .i64 x.mode) := q1.cell 3
    have y4 : w2.cell? ⟨g2, 0, none⟩ = some ((.func (.func 85) #[] #[.pointer (some ⟨g3, 0, none⟩)])) := q2.cell 0
    have HK1 := Lib.hid k1
    have HK2 := Lib.hid q2
    clear k1 q1 q2
    go_wp2_with fail
    refine (HC.out _).mono ?_
    rintro e w3 ⟨rfl, hb3⟩
    have kb := HK1.out.below hb3 HK1.out.lt
    have kc := HK2.out.below hb3 HK2.out.lt
    have HB3 := Lib.hid (HB.out.trans (hb3.mono HB.out.size))
    clear x10 x11 x12 x13 y0 y1 y2 y3 y4
    have x10 : w3.cell? ⟨p1, 0, none⟩ = some (.string l.key) := kb.cell 0
    have x11 : w3.cell? ⟨p1, 1, none⟩ = some (.int .i64 l.id.n) := kb.cell 1
    have x12 : w3.cell? ⟨p1, 2, none⟩ = some (.int .i64 l.id.c) := kb.cell 2
    have x13 : w3.cell? ⟨p1, 3, none⟩ = some (.int .i64 l.mode) := kb.cell 3
    have y4 : w3.cell? ⟨g2, 0, none⟩ = some ((.func (.func 85) #[] #[.pointer (some ⟨g3, 0, none⟩)])) := kc.cell 0
    have HA := Lib.hid (ahead_any l y g3 w3 (h3.below (HB3.out) h3.lt))
    unfold lkV at HA
    clear kb kc hb3
    go_wp2_with fail
    refine HA.out.mono ?_
    rintro e w4 ⟨rfl, hb4⟩
    clear x10 x11 x12 x13 y4
    go_wp2
    go_ret
    exact ⟨rfl, HB3.out.trans (hb4.mono HB3.out.size)⟩
end Go.Proofs.YtpidpdbjjdkhoaaGreat
