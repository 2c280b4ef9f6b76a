/- Locks: what stands against a lock; free. -/
import Derived.Test.YtpidpdbjjdkhoaaLkN
namespace Go.Proofs.Ytpidpdbjjdkhoaa
open Go.RowKit
set_option linter.unusedSimpArgs false
set_option linter.unusedVariables false
attribute [local go_sem ↓] Go.wp_at_zero Go.wp_at_succ

theorem anyQ (g : Nat) (lb : Array Value) (eg : ∀ args w, (callFunc g args).run Try.prog w = .ok (.enter g args) w) (p : Lk → Bool) (A : Option Addr) (c B : Nat) (l : List Lk) (w : World) (hr : Reads w B 4 A l.length (rc lkR l)) (hB : B ≤ w.heap.size) (hl : l.length ≤ 1000)
    (h : ∀ x W, Below w.heap.size w W → Calls Try.prog g (#[lkV x] ++ lb) W (BoolIs (p x) W)) :
    Calls Try.prog 32 #[.slice A l.length c, .func (.func g) #[] lb] w (BoolIs (l.any p) w) :=
  (contfL g lb eg p (PureSt [] w) [] (pure_qL (fun x W hk => h x W hk.below0)) A c B l w hr hB (by simp) ⟨rfl, Kept.refl _ _⟩ (by omega)).mono fun e w' ⟨he, S', ⟨pre, hS, hk⟩, _⟩ => ⟨he, hk.below0⟩
theorem any1 (x : Lk) (g1 g2 : Nat) (A : Option Addr) (c B : Nat) (l : List Lk) (w : World) (hr : Reads w B 4 A l.length (rc lkR l)) (hB : B ≤ w.heap.size) (hl : l.length ≤ 1000)
    (h1 : Blk w g1 39 #[.string x.key, .int .i64 x.id.n, .int .i64 x.id.c, .int .i64 x.mode]) (h2 : Blk w g2 67 #[(.func (.func 31) #[] #[])]) :
    Calls Try.prog 32 #[.slice A l.length c, .func (.func 51) #[] #[.pointer (some ⟨g1, 0, none⟩), .pointer (some ⟨g2, 0, none⟩)]] w (BoolIs (l.any fun y => conf y x) w) :=
  anyQ 51 #[.pointer (some ⟨g1, 0, none⟩), .pointer (some ⟨g2, 0, none⟩)] (enters_of Try.func51 (by kernel_rfl) rfl) (fun y => conf y x) A c B l w hr hB hl
    (fun y W hb => against1 y x g1 g2 W (h1.below hb h1.lt) (h2.below hb h2.lt))
theorem any2 (x y : Lk) (g1 g2 g3 : Nat) (A : Option Addr) (c B : Nat) (l : List Lk) (w : World) (hr : Reads w B 4 A l.length (rc lkR l)) (hB : B ≤ w.heap.size) (hl : l.length ≤ 1000)
    (h1 : Blk w g1 39 #[.string x.key, .int .i64 x.id.n, .int .i64 x.id.c, .int .i64 x.mode]) (h2 : Blk w g2 67 #[(.func (.func 55) #[] #[.pointer (some ⟨g3, 0, none⟩)])]) (h3 : Blk w g3 39 #[.string y.key, .int .i64 y.id.n, .int .i64 y.id.c, .int .i64 y.mode]) :
    Calls Try.prog 32 #[.slice A l.length c, .func (.func 51) #[] #[.pointer (some ⟨g1, 0, none⟩), .pointer (some ⟨g2, 0, none⟩)]] w (BoolIs (l.any fun z => conf z x && ol z.id y.id) w) :=
  anyQ 51 #[.pointer (some ⟨g1, 0, none⟩), .pointer (some ⟨g2, 0, none⟩)] (enters_of Try.func51 (by kernel_rfl) rfl) (fun z => conf z x && ol z.id y.id) A c B l w hr hB hl
    (fun z W hb => against2 z x y g1 g2 g3 W (h1.below hb h1.lt) (h2.below hb h2.lt) (h3.below hb h3.lt))
theorem free_yes {t : Tb} {x : Lk} (h1 : (t.held.any fun l => conf l x) = false) (h2 : (t.wait.any fun l => conf l x && ol l.id x.id) = false) : freeB t x = true := by unfold freeB; rw [h1, h2]; rfl
theorem free_no1 {t : Tb} {x : Lk} (h1 : (t.held.any fun l => conf l x) = true) : freeB t x = false := by unfold freeB; rw [h1]; rfl
theorem free_no2 {t : Tb} {x : Lk} (h1 : (t.held.any fun l => conf l x) = false) (h2 : (t.wait.any fun l => conf l x && ol l.id x.id) = true) : freeB t x = false := by unfold freeB; rw [h1, h2]; rfl
set_option maxHeartbeats 4000000 in
set_option maxRecDepth 100000 in
theorem free_any {w : World} {d : Nat} {q : Tb} {m : TbM} (h : TbAt w d q m) (x : Lk) : Calls Try.prog 36 #[.pointer (some ⟨d, 0, none⟩), lkV x] w (BoolIs (freeB q x) w) := by
  have HH := Lib.hid h
  have HA1 := Lib.hid (fun f lb w' => ag_any x f lb w')
  have HY1 := Lib.hid (fun g1 g2 W (hb : Below w.heap.size w W) h1 h2 => any1 x g1 g2 m.ah m.ch W.heap.size q.held W (Reads.of_own (h.below hb).oh) (Nat.le_refl _) (by have := h.fh; omega) h1 h2)
  have HY2 := Lib.hid (fun g1 g2 g3 W (hb : Below w.heap.size w W) h1 h2 h3 => any2 x x g1 g2 g3 m.aw m.cw W.heap.size q.wait W (Reads.of_own (h.below hb).ow) (Nat.le_refl _) (by have := h.fh; omega) h1 h2 h3)
  unfold lkV AgEnds at HA1
  clear h
  cases c1 : (q.held.any fun l => conf l x) with
  | true =>
    have HR := Lib.hid (free_no1 (t := q) c1)
    rw [c1] at HY1
    clear c1
    unfold lkV
    go_enter Try.func36, Try.ntmps36
    go_upto_region 2 with fail
    have k1 := Blk.new w 39 #[.string x.key, .int .i64 x.id.n, .int .i64 x.id.c, .int .i64 x.mode]
    have HB := Lib.hid (below_alloc w (.cells #[.string x.key, .int .i64 x.id.n, .int .i64 x.id.c, .int .i64 x.mode] 39))
    obtain ⟨w2, hw2⟩ : ∃ w2, w2 = (w.alloc (.cells #[.string x.key, .int .i64 x.id.n, .int .i64 x.id.c, .int .i64 x.mode] 39)) := ⟨_, rfl⟩
    obtain ⟨p1, hp1⟩ : ∃ p1, p1 = w.heap.size := ⟨_, rfl⟩
    rw [← hw2] at HB k1
    rw [← hp1] at k1
    rw [← hw2]
    rw [← hp1]
    clear hw2 hp1
    have HT2 := Lib.hid (HH.out.below HB.out)
    have HK1 := Lib.hid k1
    have hS : Hid (∀ w', Below w2.heap.size w2 w' → (w'.cell? ⟨p1, 0, none⟩ = some (.string x.key) ∧ w'.cell? ⟨p1, 1, none⟩ = some (.int .i64 x.id.n) ∧ w'.cell? ⟨p1, 2, none⟩ = some (.int .i64 x.id.c) ∧ w'.cell? ⟨p1, 3, none⟩ = some (.int .i64 x.mode) ∧ w'.cell? ⟨d, 1, none⟩ = some (.slice m.ah q.held.length m.ch) ∧ w'.cell? ⟨d, 2, none⟩ = some (.slice m.aw q.wait.length m.cw))) := Lib.hid (fun w' hb => ⟨(k1.below hb k1.lt).cell 0, (k1.below hb k1.lt).cell 1, (k1.below hb k1.lt).cell 2, (k1.below hb k1.lt).cell 3, (HT2.out.below hb).c1, (HT2.out.below hb).c2⟩)
    have hD : Below w2.heap.size w2 w2.drew := below_drewN (Below.refl _ _) 1
    clear k1
    refine wp_region_held_drew (S := fun w' => w'.cell? ⟨p1, 0, none⟩ = some (.string x.key) ∧ w'.cell? ⟨p1, 1, none⟩ = some (.int .i64 x.id.n) ∧ w'.cell? ⟨p1, 2, none⟩ = some (.int .i64 x.id.c) ∧ w'.cell? ⟨p1, 3, none⟩ = some (.int .i64 x.mode) ∧ w'.cell? ⟨d, 1, none⟩ = some (.slice m.ah q.held.length m.ch) ∧ w'.cell? ⟨d, 2, none⟩ = some (.slice m.aw q.wait.length m.cw)) (by kernel_rfl) (by with_reducible exact hS.out _ hD) (fun hHeld => ?_)
    refine wpAnyH_take (i := 0) (oi := { dst := some 7, op := Op.move (Operand.tmp 0), type := 24, pos := "locks.go:44", after := #[], guard := none }) (v := ?vv1) rfl (by kernel_rfl) (by kernel_rfl) (by kernel_rfl) (fun _ _ _ h => h) (Or.inl ⟨by rfl, ?hyy1⟩) (by assumption) ?rest1
    case hyy1 => ((intro w hSw); (try dsimp only at hSw); go_simp; (try with_reducible rfl))
    try simp only [Act.put, List.setIfInBounds_toArray, List.set_cons_zero, List.set_cons_succ]
    refine wpAnyH_take (i := 1) (oi := { dst := some 8, op := Op.nilCheck (Operand.tmp 7), type := 0, pos := "locks.go:44", after := #[{ on := 0, ground := Ground.data }], guard := none }) (v := ?vv2) rfl (by kernel_rfl) (by kernel_rfl) (by kernel_rfl) (fun _ _ _ h => h) (Or.inl ⟨by rfl, ?hyy2⟩) (by assumption) ?rest2
    case hyy2 => ((intro w hSw); (try dsimp only at hSw); go_simp; (try with_reducible rfl))
    try simp only [Act.put, List.setIfInBounds_toArray, List.set_cons_zero, List.set_cons_succ]
    refine wpAnyH_take (i := 2) (oi := { dst := some 9, op := Op.fieldAddr 59 (Operand.tmp 8) 1, type := 0, pos := "locks.go:44", after := #[{ on := 1, ground := Ground.data }], guard := none }) (v := ?vv3) rfl (by kernel_rfl) (by kernel_rfl) (by kernel_rfl) (fun _ _ _ h => h) (Or.inl ⟨by rfl, ?hyy3⟩) (by assumption) ?rest3
    case hyy3 => ((intro w hSw); (try dsimp only at hSw); go_simp; (try with_reducible rfl))
    try simp only [Act.put, List.setIfInBounds_toArray, List.set_cons_zero, List.set_cons_succ]
    refine wpAnyH_take (i := 3) (oi := { dst := some 10, op := Op.load 28 (Operand.tmp 9), type := 28, pos := "locks.go:44", after := #[{ on := 2, ground := Ground.data }], guard := none }) (v := ?vv4) rfl (by kernel_rfl) (by kernel_rfl) (by kernel_rfl) (fun _ _ _ h => h) (Or.inl ⟨by rfl, ?hyy4⟩) (by assumption) ?rest4
    case hyy4 => ((intro w hSw); (try dsimp only at hSw); go_simp; (try with_reducible rfl))
    try simp only [Act.put, List.setIfInBounds_toArray, List.set_cons_zero, List.set_cons_succ]
    refine wpAnyH_take (i := 4) (oi := { dst := some 11, op := Op.load 39 (Operand.tmp 3), type := 39, pos := "locks.go:44", after := #[], guard := none }) (v := ?vv5) rfl (by kernel_rfl) (by kernel_rfl) (by kernel_rfl) (fun _ _ _ h => h) (Or.inl ⟨by rfl, ?hyy5⟩) (by assumption) ?rest5
    case hyy5 => ((intro w hSw); (try dsimp only at hSw); go_simp; (try with_reducible rfl))
    try simp only [Act.put, List.setIfInBounds_toArray, List.set_cons_zero, List.set_cons_succ]
    refine wpAnyH_ready (rs := [5]) (by kernel_rfl) (by simp) ?_
    refine AllReadyH.cons (o := { dst := some 12, op := Op.call { callee := Callee.value (Operand.func 30), args := #[Operand.tmp 11, Operand.func 31], argTypes := #[39, 67] }, type := 67, pos := "locks.go:44", after := #[{ on := 4, ground := Ground.data }], guard := none }) rfl (fun K hK => ?_) ?_
    ·
      go_simp
      go_at_call 30
      refine (HA1.out _ _ _).mono ?_
      rintro e w3 ⟨g3, u3, rfl, ka3, kb3, hb3⟩
      have hc3 : Below w2.heap.size w2 w3 := hD.trans (hb3.mono hD.size)
      clear hb3
      go_wp2_with fail
      refine hK.out _ _ (by with_reducible exact hS.out _ hc3) (fun hHeld => ?_)
      clear hK K
      try simp only [Act.put, List.setIfInBounds_toArray, List.set_cons_zero, List.set_cons_succ]
      refine wpAnyH_ready (rs := [6]) (by kernel_rfl) (by simp) ?_
      refine AllReadyH.cons (o := { dst := some 13, op := Op.call { callee := Callee.value (Operand.func 32), args := #[Operand.tmp 10, Operand.tmp 12], argTypes := #[28, 67] }, type := 4, pos := "locks.go:44", after := #[{ on := 3, ground := Ground.data }, { on := 5, ground := Ground.data }, { on := 5, ground := Ground.chain }], guard := none }) rfl (fun K hK => ?_) ?_
      ·
        go_simp
        go_at_call 32
        refine (HY1.out _ _ _ (HB.out.trans (hc3.mono HB.out.size)) ka3 kb3).mono ?_
        rintro e w4 ⟨rfl, hb4⟩
        have hc4 : Below w2.heap.size w2 w4 := hc3.trans (hb4.mono hc3.size)
        clear hb4 ka3 kb3
        go_wp2_with fail
        refine hK.out _ _ (by with_reducible exact hS.out _ hc4) (fun hHeld => ?_)
        clear hK K
        try simp only [Act.put, List.setIfInBounds_toArray, List.set_cons_zero, List.set_cons_succ]
        refine wpAnyH_take (i := 7) (oi := { dst := some 14, op := Op.unOp UnOp.not 4 (Operand.tmp 13), type := 4, pos := "locks.go:44", after := #[{ on := 6, ground := Ground.data }], guard := none }) (v := ?vv6) rfl (by kernel_rfl) (by kernel_rfl) (by kernel_rfl) (fun _ _ _ h => h) (Or.inl ⟨by rfl, ?hyy6⟩) (by assumption) ?rest6
        case hyy6 => ((intro w hSw); (try dsimp only at hSw); go_simp; (try with_reducible rfl))
        try simp only [Act.put, List.setIfInBounds_toArray, List.set_cons_zero, List.set_cons_succ]
        refine wpAnyH_take (i := 8) (oi := { dst := some 15, op := Op.move (Operand.tmp 14), type := 4, pos := "locks.go:44", after := #[{ on := 7, ground := Ground.data }, { on := 6, ground := Ground.chain }], guard := none }) (v := ?vv7) rfl (by kernel_rfl) (by kernel_rfl) (by kernel_rfl) (fun _ _ _ h => h) (Or.inl ⟨by rfl, ?hyy7⟩) (by assumption) ?rest7
        case hyy7 => ((intro w hSw); (try dsimp only at hSw); go_simp; (try with_reducible rfl))
        try simp only [Act.put, List.setIfInBounds_toArray, List.set_cons_zero, List.set_cons_succ]
        refine wpAnyH_take (i := 9) (oi := { dst := some 16, op := Op.move (Operand.tmp 0), type := 24, pos := "locks.go:44", after := #[{ on := 8, ground := Ground.guard }], guard := some (8, true) }) (v := undef) rfl (by kernel_rfl) (by kernel_rfl) (by kernel_rfl) (fun _ _ _ h => h) (Or.inr ⟨by rfl, rfl⟩) (by assumption) ?_
        try simp only [Act.put, List.setIfInBounds_toArray, List.set_cons_zero, List.set_cons_succ]
        refine wpAnyH_take (i := 10) (oi := { dst := some 17, op := Op.nilCheck (Operand.tmp 16), type := 0, pos := "locks.go:44", after := #[{ on := 9, ground := Ground.data }, { on := 8, ground := Ground.guard }], guard := some (8, true) }) (v := undef) rfl (by kernel_rfl) (by kernel_rfl) (by kernel_rfl) (fun _ _ _ h => h) (Or.inr ⟨by rfl, rfl⟩) (by assumption) ?_
        try simp only [Act.put, List.setIfInBounds_toArray, List.set_cons_zero, List.set_cons_succ]
        refine wpAnyH_take (i := 11) (oi := { dst := some 18, op := Op.fieldAddr 59 (Operand.tmp 17) 2, type := 0, pos := "locks.go:44", after := #[{ on := 10, ground := Ground.data }, { on := 8, ground := Ground.guard }], guard := some (8, true) }) (v := undef) rfl (by kernel_rfl) (by kernel_rfl) (by kernel_rfl) (fun _ _ _ h => h) (Or.inr ⟨by rfl, rfl⟩) (by assumption) ?_
        try simp only [Act.put, List.setIfInBounds_toArray, List.set_cons_zero, List.set_cons_succ]
        refine wpAnyH_take (i := 12) (oi := { dst := some 19, op := Op.load 28 (Operand.tmp 18), type := 28, pos := "locks.go:44", after := #[{ on := 11, ground := Ground.data }, { on := 8, ground := Ground.guard }], guard := some (8, true) }) (v := undef) rfl (by kernel_rfl) (by kernel_rfl) (by kernel_rfl) (fun _ _ _ h => h) (Or.inr ⟨by rfl, rfl⟩) (by assumption) ?_
        try simp only [Act.put, List.setIfInBounds_toArray, List.set_cons_zero, List.set_cons_succ]
        refine wpAnyH_take (i := 13) (oi := { dst := some 20, op := Op.load 39 (Operand.tmp 3), type := 39, pos := "locks.go:44", after := #[{ on := 8, ground := Ground.guard }], guard := some (8, true) }) (v := undef) rfl (by kernel_rfl) (by kernel_rfl) (by kernel_rfl) (fun _ _ _ h => h) (Or.inr ⟨by rfl, rfl⟩) (by assumption) ?_
        try simp only [Act.put, List.setIfInBounds_toArray, List.set_cons_zero, List.set_cons_succ]
        refine wpAnyH_take (i := 14) (oi := { dst := some 21, op := Op.move (Operand.tmp 5), type := 67, pos := "locks.go:44", after := #[{ on := 8, ground := Ground.guard }], guard := some (8, true) }) (v := undef) rfl (by kernel_rfl) (by kernel_rfl) (by kernel_rfl) (fun _ _ _ h => h) (Or.inr ⟨by rfl, rfl⟩) (by assumption) ?_
        try simp only [Act.put, List.setIfInBounds_toArray, List.set_cons_zero, List.set_cons_succ]
        refine wpAnyH_take (i := 15) (oi := { dst := some 22, op := Op.call { callee := Callee.value (Operand.func 30), args := #[Operand.tmp 20, Operand.tmp 21], argTypes := #[39, 67] }, type := 67, pos := "locks.go:44", after := #[{ on := 13, ground := Ground.data }, { on := 14, ground := Ground.data }, { on := 8, ground := Ground.chain }, { on := 8, ground := Ground.guard }], guard := some (8, true) }) (v := undef) rfl (by kernel_rfl) (by kernel_rfl) (by kernel_rfl) (fun _ _ _ h => h) (Or.inr ⟨by rfl, rfl⟩) (by assumption) ?_
        try simp only [Act.put, List.setIfInBounds_toArray, List.set_cons_zero, List.set_cons_succ]
        refine wpAnyH_take (i := 16) (oi := { dst := some 23, op := Op.call { callee := Callee.value (Operand.func 32), args := #[Operand.tmp 19, Operand.tmp 22], argTypes := #[28, 67] }, type := 4, pos := "locks.go:44", after := #[{ on := 12, ground := Ground.data }, { on := 15, ground := Ground.data }, { on := 15, ground := Ground.chain }, { on := 8, ground := Ground.guard }], guard := some (8, true) }) (v := undef) rfl (by kernel_rfl) (by kernel_rfl) (by kernel_rfl) (fun _ _ _ h => h) (Or.inr ⟨by rfl, rfl⟩) (by assumption) ?_
        try simp only [Act.put, List.setIfInBounds_toArray, List.set_cons_zero, List.set_cons_succ]
        refine wpAnyH_take (i := 17) (oi := { dst := some 24, op := Op.unOp UnOp.not 4 (Operand.tmp 23), type := 4, pos := "locks.go:44", after := #[{ on := 16, ground := Ground.data }, { on := 8, ground := Ground.guard }], guard := some (8, true) }) (v := undef) rfl (by kernel_rfl) (by kernel_rfl) (by kernel_rfl) (fun _ _ _ h => h) (Or.inr ⟨by rfl, rfl⟩) (by assumption) ?_
        try simp only [Act.put, List.setIfInBounds_toArray, List.set_cons_zero, List.set_cons_succ]
        refine wpAnyH_take (i := 18) (oi := { dst := some 25, op := Op.pick (Operand.tmp 15) (Operand.tmp 24) (Operand.const (Value.bool false)), type := 4, pos := "locks.go:44", after := #[{ on := 8, ground := Ground.data }, { on := 17, ground := Ground.data }], guard := none }) (v := ?vv8) rfl (by kernel_rfl) (by kernel_rfl) (by kernel_rfl) (fun _ _ _ h => h) (Or.inl ⟨by rfl, ?hyy8⟩) (by assumption) ?rest8
        case hyy8 => ((intro w hSw); (try dsimp only at hSw); go_simp; (try with_reducible rfl))
        try simp only [Act.put, List.setIfInBounds_toArray, List.set_cons_zero, List.set_cons_succ]
        refine wpAnyH_take (i := 19) (oi := { dst := some 4, op := Op.assign (Operand.tmp 25), type := 4, pos := "locks.go:44", after := #[{ on := 18, ground := Ground.data }, { on := 16, ground := Ground.chain }, { on := 0, ground := Ground.phase }, { on := 1, ground := Ground.phase }, { on := 2, ground := Ground.phase }, { on := 3, ground := Ground.phase }, { on := 4, ground := Ground.phase }, { on := 5, ground := Ground.phase }, { on := 6, ground := Ground.phase }, { on := 7, ground := Ground.phase }, { on := 8, ground := Ground.phase }, { on := 9, ground := Ground.phase }, { on := 10, ground := Ground.phase }, { on := 11, ground := Ground.phase }, { on := 12, ground := Ground.phase }, { on := 13, ground := Ground.phase }, { on := 14, ground := Ground.phase }, { on := 15, ground := Ground.phase }, { on := 16, ground := Ground.phase }, { on := 17, ground := Ground.phase }, { on := 18, ground := Ground.phase }], guard := none }) (v := ?vv9) rfl (by kernel_rfl) (by kernel_rfl) (by kernel_rfl) (fun _ _ _ h => h) (Or.inl ⟨by rfl, ?hyy9⟩) (by assumption) ?rest9
        case hyy9 => ((intro w hSw); (try dsimp only at hSw); go_simp; (try with_reducible rfl))
        try simp only [Act.put, List.setIfInBounds_toArray, List.set_cons_zero, List.set_cons_succ]
        refine wpAnyH_done (by kernel_rfl) ?_ _
        have HBL := Lib.hid (HB.out.trans (hc4.mono HB.out.size))
        go_wp2
        go_ret
        exact ⟨ret_bool HR.out.symm, HBL.out⟩
      exact AllReadyH.nil
    exact AllReadyH.nil
  | false =>
    cases c2 : (q.wait.any fun l => conf l x && ol l.id x.id) with
    | true =>
      have HR := Lib.hid (free_no2 (t := q) c1 c2)
      rw [c1] at HY1
      rw [c2] at HY2
      clear c1 c2
      unfold lkV
      go_enter Try.func36, Try.ntmps36
      go_upto_region 2 with fail
      have k1 := Blk.new w 39 #[.string x.key, .int .i64 x.id.n, .int .i64 x.id.c, .int .i64 x.mode]
      have HB := Lib.hid (below_alloc w (.cells #[.string x.key, .int .i64 x.id.n, .int .i64 x.id.c, .int .i64 x.mode] 39))
      obtain ⟨w2, hw2⟩ : ∃ w2, w2 = (w.alloc (.cells #[.string x.key, .int .i64 x.id.n, .int .i64 x.id.c, .int .i64 x.mode] 39)) := ⟨_, rfl⟩
      obtain ⟨p1, hp1⟩ : ∃ p1, p1 = w.heap.size := ⟨_, rfl⟩
      rw [← hw2] at HB k1
      rw [← hp1] at k1
      rw [← hw2]
      rw [← hp1]
      clear hw2 hp1
      have HT2 := Lib.hid (HH.out.below HB.out)
      have HK1 := Lib.hid k1
      have hS : Hid (∀ w', Below w2.heap.size w2 w' → (w'.cell? ⟨p1, 0, none⟩ = some (.string x.key) ∧ w'.cell? ⟨p1, 1, none⟩ = some (.int .i64 x.id.n) ∧ w'.cell? ⟨p1, 2, none⟩ = some (.int .i64 x.id.c) ∧ w'.cell? ⟨p1, 3, none⟩ = some (.int .i64 x.mode) ∧ w'.cell? ⟨d, 1, none⟩ = some (.slice m.ah q.held.length m.ch) ∧ w'.cell? ⟨d, 2, none⟩ = some (.slice m.aw q.wait.length m.cw))) := Lib.hid (fun w' hb => ⟨(k1.below hb k1.lt).cell 0, (k1.below hb k1.lt).cell 1, (k1.below hb k1.lt).cell 2, (k1.below hb k1.lt).cell 3, (HT2.out.below hb).c1, (HT2.out.below hb).c2⟩)
      have hD : Below w2.heap.size w2 w2.drew := below_drewN (Below.refl _ _) 1
      clear k1
      refine wp_region_held_drew (S := fun w' => w'.cell? ⟨p1, 0, none⟩ = some (.string x.key) ∧ w'.cell? ⟨p1, 1, none⟩ = some (.int .i64 x.id.n) ∧ w'.cell? ⟨p1, 2, none⟩ = some (.int .i64 x.id.c) ∧ w'.cell? ⟨p1, 3, none⟩ = some (.int .i64 x.mode) ∧ w'.cell? ⟨d, 1, none⟩ = some (.slice m.ah q.held.length m.ch) ∧ w'.cell? ⟨d, 2, none⟩ = some (.slice m.aw q.wait.length m.cw)) (by kernel_rfl) (by with_reducible exact hS.out _ hD) (fun hHeld => ?_)
      refine wpAnyH_take (i := 0) (oi := { dst := some 7, op := Op.move (Operand.tmp 0), type := 24, pos := "locks.go:44", after := #[], guard := none }) (v := ?vv10) rfl (by kernel_rfl) (by kernel_rfl) (by kernel_rfl) (fun _ _ _ h => h) (Or.inl ⟨by rfl, ?hyy10⟩) (by assumption) ?rest10
      case hyy10 => ((intro w hSw); (try dsimp only at hSw); go_simp; (try with_reducible rfl))
      try simp only [Act.put, List.setIfInBounds_toArray, List.set_cons_zero, List.set_cons_succ]
      refine wpAnyH_take (i := 1) (oi := { dst := some 8, op := Op.nilCheck (Operand.tmp 7), type := 0, pos := "locks.go:44", after := #[{ on := 0, ground := Ground.data }], guard := none }) (v := ?vv11) rfl (by kernel_rfl) (by kernel_rfl) (by kernel_rfl) (fun _ _ _ h => h) (Or.inl ⟨by rfl, ?hyy11⟩) (by assumption) ?rest11
      case hyy11 => ((intro w hSw); (try dsimp only at hSw); go_simp; (try with_reducible rfl))
      try simp only [Act.put, List.setIfInBounds_toArray, List.set_cons_zero, List.set_cons_succ]
      refine wpAnyH_take (i := 2) (oi := { dst := some 9, op := Op.fieldAddr 59 (Operand.tmp 8) 1, type := 0, pos := "locks.go:44", after := #[{ on := 1, ground := Ground.data }], guard := none }) (v := ?vv12) rfl (by kernel_rfl) (by kernel_rfl) (by kernel_rfl) (fun _ _ _ h => h) (Or.inl ⟨by rfl, ?hyy12⟩) (by assumption) ?rest12
      case hyy12 => ((intro w hSw); (try dsimp only at hSw); go_simp; (try with_reducible rfl))
      try simp only [Act.put, List.setIfInBounds_toArray, List.set_cons_zero, List.set_cons_succ]
      refine wpAnyH_take (i := 3) (oi := { dst := some 10, op := Op.load 28 (Operand.tmp 9), type := 28, pos := "locks.go:44", after := #[{ on := 2, ground := Ground.data }], guard := none }) (v := ?vv13) rfl (by kernel_rfl) (by kernel_rfl) (by kernel_rfl) (fun _ _ _ h => h) (Or.inl ⟨by rfl, ?hyy13⟩) (by assumption) ?rest13
      case hyy13 => ((intro w hSw); (try dsimp only at hSw); go_simp; (try with_reducible rfl))
      try simp only [Act.put, List.setIfInBounds_toArray, List.set_cons_zero, List.set_cons_succ]
      refine wpAnyH_take (i := 4) (oi := { dst := some 11, op := Op.load 39 (Operand.tmp 3), type := 39, pos := "locks.go:44", after := #[], guard := none }) (v := ?vv14) rfl (by kernel_rfl) (by kernel_rfl) (by kernel_rfl) (fun _ _ _ h => h) (Or.inl ⟨by rfl, ?hyy14⟩) (by assumption) ?rest14
      case hyy14 => ((intro w hSw); (try dsimp only at hSw); go_simp; (try with_reducible rfl))
      try simp only [Act.put, List.setIfInBounds_toArray, List.set_cons_zero, List.set_cons_succ]
      refine wpAnyH_ready (rs := [5]) (by kernel_rfl) (by simp) ?_
      refine AllReadyH.cons (o := { dst := some 12, op := Op.call { callee := Callee.value (Operand.func 30), args := #[Operand.tmp 11, Operand.func 31], argTypes := #[39, 67] }, type := 67, pos := "locks.go:44", after := #[{ on := 4, ground := Ground.data }], guard := none }) rfl (fun K hK => ?_) ?_
      ·
        go_simp
        go_at_call 30
        refine (HA1.out _ _ _).mono ?_
        rintro e w3 ⟨g3, u3, rfl, ka3, kb3, hb3⟩
        have hc3 : Below w2.heap.size w2 w3 := hD.trans (hb3.mono hD.size)
        clear hb3
        go_wp2_with fail
        refine hK.out _ _ (by with_reducible exact hS.out _ hc3) (fun hHeld => ?_)
        clear hK K
        try simp only [Act.put, List.setIfInBounds_toArray, List.set_cons_zero, List.set_cons_succ]
        refine wpAnyH_ready (rs := [6]) (by kernel_rfl) (by simp) ?_
        refine AllReadyH.cons (o := { dst := some 13, op := Op.call { callee := Callee.value (Operand.func 32), args := #[Operand.tmp 10, Operand.tmp 12], argTypes := #[28, 67] }, type := 4, pos := "locks.go:44", after := #[{ on := 3, ground := Ground.data }, { on := 5, ground := Ground.data }, { on := 5, ground := Ground.chain }], guard := none }) rfl (fun K hK => ?_) ?_
        ·
          go_simp
          go_at_call 32
          refine (HY1.out _ _ _ (HB.out.trans (hc3.mono HB.out.size)) ka3 kb3).mono ?_
          rintro e w4 ⟨rfl, hb4⟩
          have hc4 : Below w2.heap.size w2 w4 := hc3.trans (hb4.mono hc3.size)
          clear hb4 ka3 kb3
          go_wp2_with fail
          refine hK.out _ _ (by with_reducible exact hS.out _ hc4) (fun hHeld => ?_)
          clear hK K
          try simp only [Act.put, List.setIfInBounds_toArray, List.set_cons_zero, List.set_cons_succ]
          refine wpAnyH_take (i := 7) (oi := { dst := some 14, op := Op.unOp UnOp.not 4 (Operand.tmp 13), type := 4, pos := "locks.go:44", after := #[{ on := 6, ground := Ground.data }], guard := none }) (v := ?vv15) rfl (by kernel_rfl) (by kernel_rfl) (by kernel_rfl) (fun _ _ _ h => h) (Or.inl ⟨by rfl, ?hyy15⟩) (by assumption) ?rest15
          case hyy15 => ((intro w hSw); (try dsimp only at hSw); go_simp; (try with_reducible rfl))
          try simp only [Act.put, List.setIfInBounds_toArray, List.set_cons_zero, List.set_cons_succ]
          refine wpAnyH_take (i := 8) (oi := { dst := some 15, op := Op.move (Operand.tmp 14), type := 4, pos := "locks.go:44", after := #[{ on := 7, ground := Ground.data }, { on := 6, ground := Ground.chain }], guard := none }) (v := ?vv16) rfl (by kernel_rfl) (by kernel_rfl) (by kernel_rfl) (fun _ _ _ h => h) (Or.inl ⟨by rfl, ?hyy16⟩) (by assumption) ?rest16
          case hyy16 => ((intro w hSw); (try dsimp only at hSw); go_simp; (try with_reducible rfl))
          try simp only [Act.put, List.setIfInBounds_toArray, List.set_cons_zero, List.set_cons_succ]
          refine wpAnyH_take (i := 9) (oi := { dst := some 16, op := Op.move (Operand.tmp 0), type := 24, pos := "locks.go:44", after := #[{ on := 8, ground := Ground.guard }], guard := some (8, true) }) (v := ?vv17) rfl (by kernel_rfl) (by kernel_rfl) (by kernel_rfl) (fun _ _ _ h => h) (Or.inl ⟨by rfl, ?hyy17⟩) (by assumption) ?rest17
          case hyy17 => ((intro w hSw); (try dsimp only at hSw); go_simp; (try with_reducible rfl))
          try simp only [Act.put, List.setIfInBounds_toArray, List.set_cons_zero, List.set_cons_succ]
          refine wpAnyH_take (i := 10) (oi := { dst := some 17, op := Op.nilCheck (Operand.tmp 16), type := 0, pos := "locks.go:44", after := #[{ on := 9, ground := Ground.data }, { on := 8, ground := Ground.guard }], guard := some (8, true) }) (v := ?vv18) rfl (by kernel_rfl) (by kernel_rfl) (by kernel_rfl) (fun _ _ _ h => h) (Or.inl ⟨by rfl, ?hyy18⟩) (by assumption) ?rest18
          case hyy18 => ((intro w hSw); (try dsimp only at hSw); go_simp; (try with_reducible rfl))
          try simp only [Act.put, List.setIfInBounds_toArray, List.set_cons_zero, List.set_cons_succ]
          refine wpAnyH_take (i := 11) (oi := { dst := some 18, op := Op.fieldAddr 59 (Operand.tmp 17) 2, type := 0, pos := "locks.go:44", after := #[{ on := 10, ground := Ground.data }, { on := 8, ground := Ground.guard }], guard := some (8, true) }) (v := ?vv19) rfl (by kernel_rfl) (by kernel_rfl) (by kernel_rfl) (fun _ _ _ h => h) (Or.inl ⟨by rfl, ?hyy19⟩) (by assumption) ?rest19
          case hyy19 => ((intro w hSw); (try dsimp only at hSw); go_simp; (try with_reducible rfl))
          try simp only [Act.put, List.setIfInBounds_toArray, List.set_cons_zero, List.set_cons_succ]
          refine wpAnyH_take (i := 12) (oi := { dst := some 19, op := Op.load 28 (Operand.tmp 18), type := 28, pos := "locks.go:44", after := #[{ on := 11, ground := Ground.data }, { on := 8, ground := Ground.guard }], guard := some (8, true) }) (v := ?vv20) rfl (by kernel_rfl) (by kernel_rfl) (by kernel_rfl) (fun _ _ _ h => h) (Or.inl ⟨by rfl, ?hyy20⟩) (by assumption) ?rest20
          case hyy20 => ((intro w hSw); (try dsimp only at hSw); go_simp; (try with_reducible rfl))
          try simp only [Act.put, List.setIfInBounds_toArray, List.set_cons_zero, List.set_cons_succ]
          refine wpAnyH_take (i := 13) (oi := { dst := some 20, op := Op.load 39 (Operand.tmp 3), type := 39, pos := "locks.go:44", after := #[{ on := 8, ground := Ground.guard }], guard := some (8, true) }) (v := ?vv21) rfl (by kernel_rfl) (by kernel_rfl) (by kernel_rfl) (fun _ _ _ h => h) (Or.inl ⟨by rfl, ?hyy21⟩) (by assumption) ?rest21
          case hyy21 => ((intro w hSw); (try dsimp only at hSw); go_simp; (try with_reducible rfl))
          try simp only [Act.put, List.setIfInBounds_toArray, List.set_cons_zero, List.set_cons_succ]
          refine wpAnyH_take (i := 14) (oi := { dst := some 21, op := Op.move (Operand.tmp 5), type := 67, pos := "locks.go:44", after := #[{ on := 8, ground := Ground.guard }], guard := some (8, true) }) (v := ?vv22) rfl (by kernel_rfl) (by kernel_rfl) (by kernel_rfl) (fun _ _ _ h => h) (Or.inl ⟨by rfl, ?hyy22⟩) (by assumption) ?rest22
          case hyy22 => ((intro w hSw); (try dsimp only at hSw); go_simp; (try with_reducible rfl))
          try simp only [Act.put, List.setIfInBounds_toArray, List.set_cons_zero, List.set_cons_succ]
          refine wpAnyH_ready (rs := [15]) (by kernel_rfl) (by simp) ?_
          refine AllReadyH.cons (o := { dst := some 22, op := Op.call { callee := Callee.value (Operand.func 30), args := #[Operand.tmp 20, Operand.tmp 21], argTypes := #[39, 67] }, type := 67, pos := "locks.go:44", after := #[{ on := 13, ground := Ground.data }, { on := 14, ground := Ground.data }, { on := 8, ground := Ground.chain }, { on := 8, ground := Ground.guard }], guard := some (8, true) }) rfl (fun K hK => ?_) ?_
          ·
            go_simp
            go_at_call 30
            refine (HA1.out _ _ _).mono ?_
            rintro e w5 ⟨g5, u5, rfl, ka5, kb5, hb5⟩
            have hc5 : Below w2.heap.size w2 w5 := hc4.trans (hb5.mono hc4.size)
            clear hb5
            go_wp2_with fail
            refine hK.out _ _ (by with_reducible exact hS.out _ hc5) (fun hHeld => ?_)
            clear hK K
            try simp only [Act.put, List.setIfInBounds_toArray, List.set_cons_zero, List.set_cons_succ]
            refine wpAnyH_ready (rs := [16]) (by kernel_rfl) (by simp) ?_
            refine AllReadyH.cons (o := { dst := some 23, op := Op.call { callee := Callee.value (Operand.func 32), args := #[Operand.tmp 19, Operand.tmp 22], argTypes := #[28, 67] }, type := 4, pos := "locks.go:44", after := #[{ on := 12, ground := Ground.data }, { on := 15, ground := Ground.data }, { on := 15, ground := Ground.chain }, { on := 8, ground := Ground.guard }], guard := some (8, true) }) rfl (fun K hK => ?_) ?_
            ·
              go_simp
              go_at_call 32
              refine (HY2.out _ _ _ _ (HB.out.trans (hc5.mono HB.out.size)) ka5 kb5 (HK1.out.below hc5 HK1.out.lt)).mono ?_
              rintro e w6 ⟨rfl, hb6⟩
              have hc6 : Below w2.heap.size w2 w6 := hc5.trans (hb6.mono hc5.size)
              clear hb6 ka5 kb5
              go_wp2_with fail
              refine hK.out _ _ (by with_reducible exact hS.out _ hc6) (fun hHeld => ?_)
              clear hK K
              try simp only [Act.put, List.setIfInBounds_toArray, List.set_cons_zero, List.set_cons_succ]
              refine wpAnyH_take (i := 17) (oi := { dst := some 24, op := Op.unOp UnOp.not 4 (Operand.tmp 23), type := 4, pos := "locks.go:44", after := #[{ on := 16, ground := Ground.data }, { on := 8, ground := Ground.guard }], guard := some (8, true) }) (v := ?vv23) rfl (by kernel_rfl) (by kernel_rfl) (by kernel_rfl) (fun _ _ _ h => h) (Or.inl ⟨by rfl, ?hyy23⟩) (by assumption) ?rest23
              case hyy23 => ((intro w hSw); (try dsimp only at hSw); go_simp; (try with_reducible rfl))
              try simp only [Act.put, List.setIfInBounds_toArray, List.set_cons_zero, List.set_cons_succ]
              refine wpAnyH_take (i := 18) (oi := { dst := some 25, op := Op.pick (Operand.tmp 15) (Operand.tmp 24) (Operand.const (Value.bool false)), type := 4, pos := "locks.go:44", after := #[{ on := 8, ground := Ground.data }, { on := 17, ground := Ground.data }], guard := none }) (v := ?vv24) rfl (by kernel_rfl) (by kernel_rfl) (by kernel_rfl) (fun _ _ _ h => h) (Or.inl ⟨by rfl, ?hyy24⟩) (by assumption) ?rest24
              case hyy24 => ((intro w hSw); (try dsimp only at hSw); go_simp; (try with_reducible rfl))
              try simp only [Act.put, List.setIfInBounds_toArray, List.set_cons_zero, List.set_cons_succ]
              refine wpAnyH_take (i := 19) (oi := { dst := some 4, op := Op.assign (Operand.tmp 25), type := 4, pos := "locks.go:44", after := #[{ on := 18, ground := Ground.data }, { on := 16, ground := Ground.chain }, { on := 0, ground := Ground.phase }, { on := 1, ground := Ground.phase }, { on := 2, ground := Ground.phase }, { on := 3, ground := Ground.phase }, { on := 4, ground := Ground.phase }, { on := 5, ground := Ground.phase }, { on := 6, ground := Ground.phase }, { on := 7, ground := Ground.phase }, { on := 8, ground := Ground.phase }, { on := 9, ground := Ground.phase }, { on := 10, ground := Ground.phase }, { on := 11, ground := Ground.phase }, { on := 12, ground := Ground.phase }, { on := 13, ground := Ground.phase }, { on := 14, ground := Ground.phase }, { on := 15, ground := Ground.phase }, { on := 16, ground := Ground.phase }, { on := 17, ground := Ground.phase }, { on := 18, ground := Ground.phase }], guard := none }) (v := ?vv25) rfl (by kernel_rfl) (by kernel_rfl) (by kernel_rfl) (fun _ _ _ h => h) (Or.inl ⟨by rfl, ?hyy25⟩) (by assumption) ?rest25
              case hyy25 => ((intro w hSw); (try dsimp only at hSw); go_simp; (try with_reducible rfl))
              try simp only [Act.put, List.setIfInBounds_toArray, List.set_cons_zero, List.set_cons_succ]
              refine wpAnyH_done (by kernel_rfl) ?_ _
              have HBL := Lib.hid (HB.out.trans (hc6.mono HB.out.size))
              go_wp2
              go_ret
              exact ⟨ret_bool HR.out.symm, HBL.out⟩
            exact AllReadyH.nil
          exact AllReadyH.nil
        exact AllReadyH.nil
      exact AllReadyH.nil
    | false =>
      have HR := Lib.hid (free_yes (t := q) c1 c2)
      rw [c1] at HY1
      rw [c2] at HY2
      clear c1 c2
      unfold lkV
      go_enter Try.func36, Try.ntmps36
      go_upto_region 2 with fail
      have k1 := Blk.new w 39 #[.string x.key, .int .i64 x.id.n, .int .i64 x.id.c, .int .i64 x.mode]
      have HB := Lib.hid (below_alloc w (.cells #[.string x.key, .int .i64 x.id.n, .int .i64 x.id.c, .int .i64 x.mode] 39))
      obtain ⟨w2, hw2⟩ : ∃ w2, w2 = (w.alloc (.cells #[.string x.key, .int .i64 x.id.n, .int .i64 x.id.c, .int .i64 x.mode] 39)) := ⟨_, rfl⟩
      obtain ⟨p1, hp1⟩ : ∃ p1, p1 = w.heap.size := ⟨_, rfl⟩
      rw [← hw2] at HB k1
      rw [← hp1] at k1
      rw [← hw2]
      rw [← hp1]
      clear hw2 hp1
      have HT2 := Lib.hid (HH.out.below HB.out)
      have HK1 := Lib.hid k1
      have hS : Hid (∀ w', Below w2.heap.size w2 w' → (w'.cell? ⟨p1, 0, none⟩ = some (.string x.key) ∧ w'.cell? ⟨p1, 1, none⟩ = some (.int .i64 x.id.n) ∧ w'.cell? ⟨p1, 2, none⟩ = some (.int .i64 x.id.c) ∧ w'.cell? ⟨p1, 3, none⟩ = some (.int .i64 x.mode) ∧ w'.cell? ⟨d, 1, none⟩ = some (.slice m.ah q.held.length m.ch) ∧ w'.cell? ⟨d, 2, none⟩ = some (.slice m.aw q.wait.length m.cw))) := Lib.hid (fun w' hb => ⟨(k1.below hb k1.lt).cell 0, (k1.below hb k1.lt).cell 1, (k1.below hb k1.lt).cell 2, (k1.below hb k1.lt).cell 3, (HT2.out.below hb).c1, (HT2.out.below hb).c2⟩)
      have hD : Below w2.heap.size w2 w2.drew := below_drewN (Below.refl _ _) 1
      clear k1
      refine wp_region_held_drew (S := fun w' => w'.cell? ⟨p1, 0, none⟩ = some (.string x.key) ∧ w'.cell? ⟨p1, 1, none⟩ = some (.int .i64 x.id.n) ∧ w'.cell? ⟨p1, 2, none⟩ = some (.int .i64 x.id.c) ∧ w'.cell? ⟨p1, 3, none⟩ = some (.int .i64 x.mode) ∧ w'.cell? ⟨d, 1, none⟩ = some (.slice m.ah q.held.length m.ch) ∧ w'.cell? ⟨d, 2, none⟩ = some (.slice m.aw q.wait.length m.cw)) (by kernel_rfl) (by with_reducible exact hS.out _ hD) (fun hHeld => ?_)
      refine wpAnyH_take (i := 0) (oi := { dst := some 7, op := Op.move (Operand.tmp 0), type := 24, pos := "locks.go:44", after := #[], guard := none }) (v := ?vv26) rfl (by kernel_rfl) (by kernel_rfl) (by kernel_rfl) (fun _ _ _ h => h) (Or.inl ⟨by rfl, ?hyy26⟩) (by assumption) ?rest26
      case hyy26 => ((intro w hSw); (try dsimp only at hSw); go_simp; (try with_reducible rfl))
      try simp only [Act.put, List.setIfInBounds_toArray, List.set_cons_zero, List.set_cons_succ]
      refine wpAnyH_take (i := 1) (oi := { dst := some 8, op := Op.nilCheck (Operand.tmp 7), type := 0, pos := "locks.go:44", after := #[{ on := 0, ground := Ground.data }], guard := none }) (v := ?vv27) rfl (by kernel_rfl) (by kernel_rfl) (by kernel_rfl) (fun _ _ _ h => h) (Or.inl ⟨by rfl, ?hyy27⟩) (by assumption) ?rest27
      case hyy27 => ((intro w hSw); (try dsimp only at hSw); go_simp; (try with_reducible rfl))
      try simp only [Act.put, List.setIfInBounds_toArray, List.set_cons_zero, List.set_cons_succ]
      refine wpAnyH_take (i := 2) (oi := { dst := some 9, op := Op.fieldAddr 59 (Operand.tmp 8) 1, type := 0, pos := "locks.go:44", after := #[{ on := 1, ground := Ground.data }], guard := none }) (v := ?vv28) rfl (by kernel_rfl) (by kernel_rfl) (by kernel_rfl) (fun _ _ _ h => h) (Or.inl ⟨by rfl, ?hyy28⟩) (by assumption) ?rest28
      case hyy28 => ((intro w hSw); (try dsimp only at hSw); go_simp; (try with_reducible rfl))
      try simp only [Act.put, List.setIfInBounds_toArray, List.set_cons_zero, List.set_cons_succ]
      refine wpAnyH_take (i := 3) (oi := { dst := some 10, op := Op.load 28 (Operand.tmp 9), type := 28, pos := "locks.go:44", after := #[{ on := 2, ground := Ground.data }], guard := none }) (v := ?vv29) rfl (by kernel_rfl) (by kernel_rfl) (by kernel_rfl) (fun _ _ _ h => h) (Or.inl ⟨by rfl, ?hyy29⟩) (by assumption) ?rest29
      case hyy29 => ((intro w hSw); (try dsimp only at hSw); go_simp; (try with_reducible rfl))
      try simp only [Act.put, List.setIfInBounds_toArray, List.set_cons_zero, List.set_cons_succ]
      refine wpAnyH_take (i := 4) (oi := { dst := some 11, op := Op.load 39 (Operand.tmp 3), type := 39, pos := "locks.go:44", after := #[], guard := none }) (v := ?vv30) rfl (by kernel_rfl) (by kernel_rfl) (by kernel_rfl) (fun _ _ _ h => h) (Or.inl ⟨by rfl, ?hyy30⟩) (by assumption) ?rest30
      case hyy30 => ((intro w hSw); (try dsimp only at hSw); go_simp; (try with_reducible rfl))
      try simp only [Act.put, List.setIfInBounds_toArray, List.set_cons_zero, List.set_cons_succ]
      refine wpAnyH_ready (rs := [5]) (by kernel_rfl) (by simp) ?_
      refine AllReadyH.cons (o := { dst := some 12, op := Op.call { callee := Callee.value (Operand.func 30), args := #[Operand.tmp 11, Operand.func 31], argTypes := #[39, 67] }, type := 67, pos := "locks.go:44", after := #[{ on := 4, ground := Ground.data }], guard := none }) rfl (fun K hK => ?_) ?_
      ·
        go_simp
        go_at_call 30
        refine (HA1.out _ _ _).mono ?_
        rintro e w3 ⟨g3, u3, rfl, ka3, kb3, hb3⟩
        have hc3 : Below w2.heap.size w2 w3 := hD.trans (hb3.mono hD.size)
        clear hb3
        go_wp2_with fail
        refine hK.out _ _ (by with_reducible exact hS.out _ hc3) (fun hHeld => ?_)
        clear hK K
        try simp only [Act.put, List.setIfInBounds_toArray, List.set_cons_zero, List.set_cons_succ]
        refine wpAnyH_ready (rs := [6]) (by kernel_rfl) (by simp) ?_
        refine AllReadyH.cons (o := { dst := some 13, op := Op.call { callee := Callee.value (Operand.func 32), args := #[Operand.tmp 10, Operand.tmp 12], argTypes := #[28, 67] }, type := 4, pos := "locks.go:44", after := #[{ on := 3, ground := Ground.data }, { on := 5, ground := Ground.data }, { on := 5, ground := Ground.chain }], guard := none }) rfl (fun K hK => ?_) ?_
        ·
          go_simp
          go_at_call 32
          refine (HY1.out _ _ _ (HB.out.trans (hc3.mono HB.out.size)) ka3 kb3).mono ?_
          rintro e w4 ⟨rfl, hb4⟩
          have hc4 : Below w2.heap.size w2 w4 := hc3.trans (hb4.mono hc3.size)
          clear hb4 ka3 kb3
          go_wp2_with fail
          refine hK.out _ _ (by with_reducible exact hS.out _ hc4) (fun hHeld => ?_)
          clear hK K
          try simp only [Act.put, List.setIfInBounds_toArray, List.set_cons_zero, List.set_cons_succ]
          refine wpAnyH_take (i := 7) (oi := { dst := some 14, op := Op.unOp UnOp.not 4 (Operand.tmp 13), type := 4, pos := "locks.go:44", after := #[{ on := 6, ground := Ground.data }], guard := none }) (v := ?vv31) rfl (by kernel_rfl) (by kernel_rfl) (by kernel_rfl) (fun _ _ _ h => h) (Or.inl ⟨by rfl, ?hyy31⟩) (by assumption) ?rest31
          case hyy31 => ((intro w hSw); (try dsimp only at hSw); go_simp; (try with_reducible rfl))
          try simp only [Act.put, List.setIfInBounds_toArray, List.set_cons_zero, List.set_cons_succ]
          refine wpAnyH_take (i := 8) (oi := { dst := some 15, op := Op.move (Operand.tmp 14), type := 4, pos := "locks.go:44", after := #[{ on := 7, ground := Ground.data }, { on := 6, ground := Ground.chain }], guard := none }) (v := ?vv32) rfl (by kernel_rfl) (by kernel_rfl) (by kernel_rfl) (fun _ _ _ h => h) (Or.inl ⟨by rfl, ?hyy32⟩) (by assumption) ?rest32
          case hyy32 => ((intro w hSw); (try dsimp only at hSw); go_simp; (try with_reducible rfl))
          try simp only [Act.put, List.setIfInBounds_toArray, List.set_cons_zero, List.set_cons_succ]
          refine wpAnyH_take (i := 9) (oi := { dst := some 16, op := Op.move (Operand.tmp 0), type := 24, pos := "locks.go:44", after := #[{ on := 8, ground := Ground.guard }], guard := some (8, true) }) (v := ?vv33) rfl (by kernel_rfl) (by kernel_rfl) (by kernel_rfl) (fun _ _ _ h => h) (Or.inl ⟨by rfl, ?hyy33⟩) (by assumption) ?rest33
          case hyy33 => ((intro w hSw); (try dsimp only at hSw); go_simp; (try with_reducible rfl))
          try simp only [Act.put, List.setIfInBounds_toArray, List.set_cons_zero, List.set_cons_succ]
          refine wpAnyH_take (i := 10) (oi := { dst := some 17, op := Op.nilCheck (Operand.tmp 16), type := 0, pos := "locks.go:44", after := #[{ on := 9, ground := Ground.data }, { on := 8, ground := Ground.guard }], guard := some (8, true) }) (v := ?vv34) rfl (by kernel_rfl) (by kernel_rfl) (by kernel_rfl) (fun _ _ _ h => h) (Or.inl ⟨by rfl, ?hyy34⟩) (by assumption) ?rest34
          case hyy34 => ((intro w hSw); (try dsimp only at hSw); go_simp; (try with_reducible rfl))
          try simp only [Act.put, List.setIfInBounds_toArray, List.set_cons_zero, List.set_cons_succ]
          refine wpAnyH_take (i := 11) (oi := { dst := some 18, op := Op.fieldAddr 59 (Operand.tmp 17) 2, type := 0, pos := "locks.go:44", after := #[{ on := 10, ground := Ground.data }, { on := 8, ground := Ground.guard }], guard := some (8, true) }) (v := ?vv35) rfl (by kernel_rfl) (by kernel_rfl) (by kernel_rfl) (fun _ _ _ h => h) (Or.inl ⟨by rfl, ?hyy35⟩) (by assumption) ?rest35
          case hyy35 => ((intro w hSw); (try dsimp only at hSw); go_simp; (try with_reducible rfl))
          try simp only [Act.put, List.setIfInBounds_toArray, List.set_cons_zero, List.set_cons_succ]
          refine wpAnyH_take (i := 12) (oi := { dst := some 19, op := Op.load 28 (Operand.tmp 18), type := 28, pos := "locks.go:44", after := #[{ on := 11, ground := Ground.data }, { on := 8, ground := Ground.guard }], guard := some (8, true) }) (v := ?vv36) rfl (by kernel_rfl) (by kernel_rfl) (by kernel_rfl) (fun _ _ _ h => h) (Or.inl ⟨by rfl, ?hyy36⟩) (by assumption) ?rest36
          case hyy36 => ((intro w hSw); (try dsimp only at hSw); go_simp; (try with_reducible rfl))
          try simp only [Act.put, List.setIfInBounds_toArray, List.set_cons_zero, List.set_cons_succ]
          refine wpAnyH_take (i := 13) (oi := { dst := some 20, op := Op.load 39 (Operand.tmp 3), type := 39, pos := "locks.go:44", after := #[{ on := 8, ground := Ground.guard }], guard := some (8, true) }) (v := ?vv37) rfl (by kernel_rfl) (by kernel_rfl) (by kernel_rfl) (fun _ _ _ h => h) (Or.inl ⟨by rfl, ?hyy37⟩) (by assumption) ?rest37
          case hyy37 => ((intro w hSw); (try dsimp only at hSw); go_simp; (try with_reducible rfl))
          try simp only [Act.put, List.setIfInBounds_toArray, List.set_cons_zero, List.set_cons_succ]
          refine wpAnyH_take (i := 14) (oi := { dst := some 21, op := Op.move (Operand.tmp 5), type := 67, pos := "locks.go:44", after := #[{ on := 8, ground := Ground.guard }], guard := some (8, true) }) (v := ?vv38) rfl (by kernel_rfl) (by kernel_rfl) (by kernel_rfl) (fun _ _ _ h => h) (Or.inl ⟨by rfl, ?hyy38⟩) (by assumption) ?rest38
          case hyy38 => ((intro w hSw); (try dsimp only at hSw); go_simp; (try with_reducible rfl))
          try simp only [Act.put, List.setIfInBounds_toArray, List.set_cons_zero, List.set_cons_succ]
          refine wpAnyH_ready (rs := [15]) (by kernel_rfl) (by simp) ?_
          refine AllReadyH.cons (o := { dst := some 22, op := Op.call { callee := Callee.value (Operand.func 30), args := #[Operand.tmp 20, Operand.tmp 21], argTypes := #[39, 67] }, type := 67, pos := "locks.go:44", after := #[{ on := 13, ground := Ground.data }, { on := 14, ground := Ground.data }, { on := 8, ground := Ground.chain }, { on := 8, ground := Ground.guard }], guard := some (8, true) }) rfl (fun K hK => ?_) ?_
          ·
            go_simp
            go_at_call 30
            refine (HA1.out _ _ _).mono ?_
            rintro e w5 ⟨g5, u5, rfl, ka5, kb5, hb5⟩
            have hc5 : Below w2.heap.size w2 w5 := hc4.trans (hb5.mono hc4.size)
            clear hb5
            go_wp2_with fail
            refine hK.out _ _ (by with_reducible exact hS.out _ hc5) (fun hHeld => ?_)
            clear hK K
            try simp only [Act.put, List.setIfInBounds_toArray, List.set_cons_zero, List.set_cons_succ]
            refine wpAnyH_ready (rs := [16]) (by kernel_rfl) (by simp) ?_
            refine AllReadyH.cons (o := { dst := some 23, op := Op.call { callee := Callee.value (Operand.func 32), args := #[Operand.tmp 19, Operand.tmp 22], argTypes := #[28, 67] }, type := 4, pos := "locks.go:44", after := #[{ on := 12, ground := Ground.data }, { on := 15, ground := Ground.data }, { on := 15, ground := Ground.chain }, { on := 8, ground := Ground.guard }], guard := some (8, true) }) rfl (fun K hK => ?_) ?_
            ·
              go_simp
              go_at_call 32
              refine (HY2.out _ _ _ _ (HB.out.trans (hc5.mono HB.out.size)) ka5 kb5 (HK1.out.below hc5 HK1.out.lt)).mono ?_
              rintro e w6 ⟨rfl, hb6⟩
              have hc6 : Below w2.heap.size w2 w6 := hc5.trans (hb6.mono hc5.size)
              clear hb6 ka5 kb5
              go_wp2_with fail
              refine hK.out _ _ (by with_reducible exact hS.out _ hc6) (fun hHeld => ?_)
              clear hK K
              try simp only [Act.put, List.setIfInBounds_toArray, List.set_cons_zero, List.set_cons_succ]
              refine wpAnyH_take (i := 17) (oi := { dst := some 24, op := Op.unOp UnOp.not 4 (Operand.tmp 23), type := 4, pos := "locks.go:44", after := #[{ on := 16, ground := Ground.data }, { on := 8, ground := Ground.guard }], guard := some (8, true) }) (v := ?vv39) rfl (by kernel_rfl) (by kernel_rfl) (by kernel_rfl) (fun _ _ _ h => h) (Or.inl ⟨by rfl, ?hyy39⟩) (by assumption) ?rest39
              case hyy39 => ((intro w hSw); (try dsimp only at hSw); go_simp; (try with_reducible rfl))
              try simp only [Act.put, List.setIfInBounds_toArray, List.set_cons_zero, List.set_cons_succ]
              refine wpAnyH_take (i := 18) (oi := { dst := some 25, op := Op.pick (Operand.tmp 15) (Operand.tmp 24) (Operand.const (Value.bool false)), type := 4, pos := "locks.go:44", after := #[{ on := 8, ground := Ground.data }, { on := 17, ground := Ground.data }], guard := none }) (v := ?vv40) rfl (by kernel_rfl) (by kernel_rfl) (by kernel_rfl) (fun _ _ _ h => h) (Or.inl ⟨by rfl, ?hyy40⟩) (by assumption) ?rest40
              case hyy40 => ((intro w hSw); (try dsimp only at hSw); go_simp; (try with_reducible rfl))
              try simp only [Act.put, List.setIfInBounds_toArray, List.set_cons_zero, List.set_cons_succ]
              refine wpAnyH_take (i := 19) (oi := { dst := some 4, op := Op.assign (Operand.tmp 25), type := 4, pos := "locks.go:44", after := #[{ on := 18, ground := Ground.data }, { on := 16, ground := Ground.chain }, { on := 0, ground := Ground.phase }, { on := 1, ground := Ground.phase }, { on := 2, ground := Ground.phase }, { on := 3, ground := Ground.phase }, { on := 4, ground := Ground.phase }, { on := 5, ground := Ground.phase }, { on := 6, ground := Ground.phase }, { on := 7, ground := Ground.phase }, { on := 8, ground := Ground.phase }, { on := 9, ground := Ground.phase }, { on := 10, ground := Ground.phase }, { on := 11, ground := Ground.phase }, { on := 12, ground := Ground.phase }, { on := 13, ground := Ground.phase }, { on := 14, ground := Ground.phase }, { on := 15, ground := Ground.phase }, { on := 16, ground := Ground.phase }, { on := 17, ground := Ground.phase }, { on := 18, ground := Ground.phase }], guard := none }) (v := ?vv41) rfl (by kernel_rfl) (by kernel_rfl) (by kernel_rfl) (fun _ _ _ h => h) (Or.inl ⟨by rfl, ?hyy41⟩) (by assumption) ?rest41
              case hyy41 => ((intro w hSw); (try dsimp only at hSw); go_simp; (try with_reducible rfl))
              try simp only [Act.put, List.setIfInBounds_toArray, List.set_cons_zero, List.set_cons_succ]
              refine wpAnyH_done (by kernel_rfl) ?_ _
              have HBL := Lib.hid (HB.out.trans (hc6.mono HB.out.size))
              go_wp2
              go_ret
              exact ⟨ret_bool HR.out.symm, HBL.out⟩
            exact AllReadyH.nil
          exact AllReadyH.nil
        exact AllReadyH.nil
      exact AllReadyH.nil
end Go.Proofs.Ytpidpdbjjdkhoaa
