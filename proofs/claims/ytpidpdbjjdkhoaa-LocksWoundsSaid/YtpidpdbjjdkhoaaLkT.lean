/- Locks: Ask. -/
import Derived.Test.YtpidpdbjjdkhoaaLkR
import Derived.Test.YtpidpdbjjdkhoaaLkS
namespace Go.Proofs.Ytpidpdbjjdkhoaa
open Go.RowKit
set_option linter.unusedSimpArgs false
set_option linter.unusedVariables false
attribute [local go_sem ↓] Go.wp_at_zero Go.wp_at_succ

def AskEnds (d : Nat) (q : Tb) (m : TbM) (x : Lk) (w : World) (e : Ending) (w' : World) : Prop :=
  ∃ A c, e = .returned (.tuple #[.int .i64 (askE q x), .slice A (askH q x).length c]) ∧ w'.ownsRow 0 34 2 (.slice A (askH q x).length c) (askH q x).length (rc idR (askH q x)) ∧ (∀ k ∈ ob A, w.heap.size ≤ k) ∧
    ∃ m', TbAt w' d (askT q x) m' ∧ Moves (fpT d m) (fpT d m') w w' ∧ ∀ k ∈ ob A, k ∉ fpT d m'
theorem ask_fail {d : Nat} {q : Tb} {m : TbM} {x : Lk} {w w' : World} {c : Int} (hr : refuse q x = some c) (h : TbAt w d q m) (hb : Below w.heap.size w w') : AskEnds d q m x w (.returned (.tuple #[.int .i64 c, .slice none 0 0])) w' := by
  obtain ⟨h1, h2, h3⟩ := ask_some hr
  unfold AskEnds
  rw [h1, h2, h3]
  exact ⟨none, 0, rfl, World.ownsRow_nil _ _ _ _, by simp [ob], m, h.below hb, Moves.of_below hb, by simp [ob]⟩
/-- ahead of the loop: nothing is changed yet -/
structure AskMid (d : Nat) (q : Tb) (m : TbM) (x : Lk) (p1 p2 : Nat) (w wx : World) : Prop where
  bel : Below w.heap.size w wx
  b1 : Blk wx p1 34 #[.int .i64 x.id.n, .int .i64 x.id.c]
  b2 : Blk wx p2 39 #[.string x.key, .int .i64 x.id.n, .int .i64 x.id.c, .int .i64 x.mode]
  none_ : refuse q x = none
theorem AskMid.more {d : Nat} {q : Tb} {m : TbM} {x : Lk} {p1 p2 : Nat} {w w1 w2 : World} (h : AskMid d q m x p1 p2 w w1) (hb : Below w1.heap.size w1 w2) : AskMid d q m x p1 p2 w w2 :=
  ⟨h.bel.trans (hb.mono h.bel.size), h.b1.below hb h.b1.lt, h.b2.below hb h.b2.lt, h.none_⟩
theorem full_1 {t : Tb} {x : Lk} (h : ¬ t.most ≤ (t.held.length : Int) + (t.wait.length : Int)) : fullB t x = false := by unfold fullB; rw [decide_eq_false h]; rfl
theorem full_2 {t : Tb} {x : Lk} (h : t.most ≤ (t.held.length : Int) + (t.wait.length : Int)) (h2 : modeI t x.id x.key = 0) : fullB t x = true := by unfold fullB; rw [decide_eq_true h, decide_eq_true h2]; rfl
theorem full_3 {t : Tb} {x : Lk} (h : t.most ≤ (t.held.length : Int) + (t.wait.length : Int)) (h2 : (t.held.any fun y => conf y x) = true) : fullB t x = true := by unfold fullB; rw [decide_eq_true h, h2]; simp
theorem full_4 {t : Tb} {x : Lk} (h : t.most ≤ (t.held.length : Int) + (t.wait.length : Int)) (h2 : (t.wait.any fun y => conf y x) = true) : fullB t x = true := by unfold fullB; rw [decide_eq_true h, h2]; simp
theorem full_5 {t : Tb} {x : Lk} (h1 : ¬ modeI t x.id x.key = 0) (h2 : (t.held.any fun y => conf y x) = false) (h3 : (t.wait.any fun y => conf y x) = false) : fullB t x = false := by unfold fullB; rw [decide_eq_false h1, h2, h3]; simp
def hurtT (q : Tb) (V : List Idn) : Tb := ⟨q.most, q.held, q.wait, q.prep, addAll q.hurt V⟩
/-- in the loop: the answer's row, the table, the boxes -/
structure AkSt (d : Nat) (q : Tb) (m : TbM) (x : Lk) (p1 p2 : Nat) (w : World) (V : List Idn) (A : Option Addr) (c : Nat) (m' : TbM) (wr : World) : Prop where
  own : wr.ownsRow 0 34 2 (.slice A V.length c) V.length (rc idR V)
  tb : TbAt wr d (hurtT q V) m'
  mv : Moves (fpT d m) (fpT d m') w wr
  fr : ∀ y ∈ ob A, w.heap.size ≤ y
  ap : ∀ y ∈ ob A, y ∉ fpT d m'
  b1 : Blk wr p1 34 #[.int .i64 x.id.n, .int .i64 x.id.c]
  b2 : Blk wr p2 39 #[.string x.key, .int .i64 x.id.n, .int .i64 x.id.c, .int .i64 x.mode]
  bp : (p1 ∉ fpT d m' ∧ p2 ∉ fpT d m') ∧ p1 ∉ ob A ∧ p2 ∉ ob A
  eqh : m'.ah = m.ah ∧ m'.ch = m.ch
theorem AkSt.more {d : Nat} {q : Tb} {m m' : TbM} {x : Lk} {p1 p2 : Nat} {w w1 w2 : World} {V : List Idn} {A : Option Addr} {c : Nat} (h : AkSt d q m x p1 p2 w V A c m' w1) (hb : Below w1.heap.size w1 w2) : AkSt d q m x p1 p2 w V A c m' w2 :=
  ⟨(Kept.of_below (S := []) hb).own h.own (by simp), h.tb.below hb, h.mv.trans (Moves.of_below hb), h.fr, h.ap, h.b1.below hb h.b1.lt, h.b2.below hb h.b2.lt, h.bp, h.eqh⟩
theorem AkSt.tb8 {d : Nat} {q : Tb} {m m' : TbM} {x : Lk} {p1 p2 : Nat} {w w1 w2 : World} {V : List Idn} {A A1 : Option Addr} {c : Nat} (h : AkSt d q m x p1 p2 w V A c m' w1) (hm : Moves (ob A) (ob A1) w1 w2) : TbAt w2 d (hurtT q V) m' :=
  h.tb.kept hm.kept fun k hk hA => h.ap k hA hk
theorem AkSt.grow {d : Nat} {q : Tb} {m m' m'' : TbM} {x : Lk} {p1 p2 : Nat} {w w7 w8 w9 : World} {V V' : List Idn} {A A1 : Option Addr} {c c1 : Nat} (h : AkSt d q m x p1 p2 w V A c m' w7)
    (hm1 : Moves (ob A) (ob A1) w7 w8) (ho1 : w8.ownsRow 0 34 2 (.slice A1 V'.length c1) V'.length (rc idR V')) (hT : TbAt w9 d (hurtT q V') m'') (hm2 : Moves (fpT d m') (fpT d m'') w8 w9) (he : m''.ah = m'.ah ∧ m''.ch = m'.ch) :
    AkSt d q m x p1 p2 w V' A1 c1 m'' w9 := by
  have hlt := h.tb.lt
  have hA1 : ∀ y ∈ ob A1, y ∉ fpT d m' := fun y hy hf => (hm1.foot y hy).elim (fun h1 => h.ap y h1 hf) (fun h1 => by have := hlt y hf; omega)
  have hs0 := h.mv.kept.size
  have hs1 := hm1.kept.size
  have b18 := hm1.kept.blk h.b1 h.bp.2.1
  have b28 := hm1.kept.blk h.b2 h.bp.2.2
  refine ⟨hm2.kept.own ho1 (fun g hg hf => hA1 g (ownBlock_mem.1 hg) hf), hT, ⟨(h.mv.kept.trans hm1.kept (fun y hy => .inr (h.fr y hy))).trans hm2.kept (fun y hy => h.mv.foot y hy), fun y hy => ?_⟩, fun y hy => ?_, fun y hy hf => ?_,
    hm2.kept.blk b18 h.bp.1.1, hm2.kept.blk b28 h.bp.1.2, ⟨⟨fun hf => ?_, fun hf => ?_⟩, fun hf => ?_, fun hf => ?_⟩, ⟨he.1.trans h.eqh.1, he.2.trans h.eqh.2⟩⟩
  · rcases hm2.foot y hy with h1 | h1
    · exact h.mv.foot y h1
    · exact .inr (by omega)
  · rcases hm1.foot y hy with h1 | h1
    · exact h.fr y h1
    · omega
  · rcases hm2.foot y hf with h1 | h1
    · exact hA1 y hy h1
    · have := own_lt ho1 y hy; omega
  · rcases hm2.foot _ hf with h1 | h1
    · exact h.bp.1.1 h1
    · have := b18.lt; omega
  · rcases hm2.foot _ hf with h1 | h1
    · exact h.bp.1.2 h1
    · have := b28.lt; omega
  · rcases hm1.foot _ hf with h1 | h1
    · exact h.bp.2.1 h1
    · have := h.b1.lt; omega
  · rcases hm1.foot _ hf with h1 | h1
    · exact h.bp.2.2 h1
    · have := h.b2.lt; omega
theorem AkSt.finish {d : Nat} {q t' : Tb} {m m' m'' : TbM} {x : Lk} {p1 p2 : Nat} {w w9 w11 : World} {V : List Idn} {A : Option Addr} {c : Nat} (h : AkSt d q m x p1 p2 w V A c m' w9) (hT : TbAt w11 d t' m'') (hm : Moves (fpT d m') (fpT d m'') w9 w11) :
    w11.ownsRow 0 34 2 (.slice A V.length c) V.length (rc idR V) ∧ (∀ k ∈ ob A, w.heap.size ≤ k) ∧ ∃ m', TbAt w11 d t' m' ∧ Moves (fpT d m) (fpT d m') w w11 ∧ ∀ k ∈ ob A, k ∉ fpT d m' :=
  ⟨hm.kept.own h.own (fun g hg hf => h.ap g (ownBlock_mem.1 hg) hf), h.fr, m'', hT, h.mv.trans hm, fun k hk hf => (hm.foot k hf).elim (fun h1 => h.ap k hk h1) (fun h1 => by have := own_lt h.own k hk; omega)⟩
def AkRel (d : Nat) (q : Tb) (m : TbM) (x : Lk) (p1 p2 : Nat) (w : World) (s i : Value) (wr : World) : Prop :=
  ∃ (k : Nat) (A : Option Addr) (c : Nat) (m' : TbM), i = .int .i64 k ∧ k ≤ q.held.length ∧ s = .slice A (vk q x k).length c ∧ AkSt d q m x p1 p2 w (vk q x k) A c m' wr
set_option maxHeartbeats 16000000 in
set_option maxRecDepth 100000 in
theorem ask_any {w : World} {d : Nat} {q : Tb} {m : TbM} (h : TbAt w d q m) (x : Lk) (hu : q.hurt.length ≤ 900000) (hsz : (askT q x).held.length + (askT q x).wait.length ≤ 1000) :
    Calls Try.prog 15 #[.pointer (some ⟨d, 0, none⟩), idV x.id, .string x.key, .int .i64 x.mode] w (AskEnds d q m x w) := by
  have HH := Lib.hid h
  have HU := Lib.hid hu
  have HSZ := Lib.hid hsz
  have HGA := Lib.hid (ask_good h.good x)
  clear h hu hsz
  unfold idV
  go_enter Try.func15, Try.ntmps15
  go_upto_region 2 with fail
  have k1 := (Blk.new w 34 #[.int .i64 x.id.n, .int .i64 x.id.c]).alloc (.cells #[.string x.key, .int .i64 x.id.n, .int .i64 x.id.c, .int .i64 x.mode] 39)
  have k2 := Blk.new (w.alloc (.cells #[.int .i64 x.id.n, .int .i64 x.id.c] 34)) 39 #[.string x.key, .int .i64 x.id.n, .int .i64 x.id.c, .int .i64 x.mode]
  simp only [World.size_alloc] at k2
  have HB := Lib.hid ((below_alloc w (.cells #[.int .i64 x.id.n, .int .i64 x.id.c] 34)).alloc (by simp) (.cells #[.string x.key, .int .i64 x.id.n, .int .i64 x.id.c, .int .i64 x.mode] 39))
  obtain ⟨w2, hw2⟩ : ∃ w2, w2 = ((w.alloc (.cells #[.int .i64 x.id.n, .int .i64 x.id.c] 34)).alloc (.cells #[.string x.key, .int .i64 x.id.n, .int .i64 x.id.c, .int .i64 x.mode] 39)) := ⟨_, rfl⟩
  obtain ⟨p1, hp1⟩ : ∃ p1, p1 = w.heap.size := ⟨_, rfl⟩
  obtain ⟨p2, hp2⟩ : ∃ p2, p2 = w.heap.size + 1 := ⟨_, rfl⟩
  rw [← hw2] at HB k1 k2
  rw [← hp1] at k1
  rw [← hp2] at k2
  rw [← hw2]
  rw [← hp2]
  rw [← hp1]
  have HPX : Hid (w.heap.size ≤ p1 ∧ w.heap.size ≤ p2 ∧ p1 ≠ p2) := Lib.hid (by omega)
  clear hw2 hp1 hp2
  have HK1 := Lib.hid k1
  have HK2 := Lib.hid k2
  have HT2 := Lib.hid (HH.out.below HB.out)
  have x10 : w2.cell? ⟨p1, 0, none⟩ = some (.int .i64 x.id.n) := k1.cell 0
  have x11 : w2.cell? ⟨p1, 1, none⟩ = some (.int .i64 x.id.c) := k1.cell 1
  have x20 : w2.cell? ⟨p2, 0, none⟩ = some (.string x.key) := k2.cell 0
  have x21 : w2.cell? ⟨p2, 1, none⟩ = some (.int .i64 x.id.n) := k2.cell 1
  have x22 : w2.cell? ⟨p2, 2, none⟩ = some (.int .i64 x.id.c) := k2.cell 2
  have x23 : w2.cell? ⟨p2, 3, none⟩ = some (.int .i64 x.mode) := k2.cell 3
  clear k1 k2
  have HC := Lib.hid (sound_any x w2)
  unfold lkV at HC
  go_wp2_with fail
  refine HC.out.mono ?_
  clear HC
  rintro e w3 ⟨rfl, hb3⟩
  have HB3 := Lib.hid (HB.out.trans (hb3.mono HB.out.size))
  have HK13 := Lib.hid (HK1.out.below hb3 HK1.out.lt)
  have HK23 := Lib.hid (HK2.out.below hb3 HK2.out.lt)
  have HT3 := Lib.hid (HH.out.below HB3.out)
  clear hb3 x10 x11 x20 x21 x22 x23 HK1 HK2 HT2 HB
  by_cases c1 : soundE x = 0
  rotate_left
  · have HR := Lib.hid (ref_1 (t := q) c1)
    obtain ⟨sv, hsv⟩ : ∃ sv, sv = soundE x := ⟨_, rfl⟩
    rw [← hsv] at c1 HR
    rw [← hsv]
    clear hsv
    have c1b : (sv != 0) = true := by simpa using c1
    have c1d : decide (sv ≠ 0) = true := by simpa using c1
    go_wp2
    go_ret2
    exact ask_fail (HR.out) HH.out HB3.out
  rw [c1]
  have C1 := Lib.hid c1
  clear c1
  have x10 : w3.cell? ⟨p1, 0, none⟩ = some (.int .i64 x.id.n) := HK13.out.cell 0
  have x11 : w3.cell? ⟨p1, 1, none⟩ = some (.int .i64 x.id.c) := HK13.out.cell 1
  have HC := Lib.hid (mode_any HT3.out x.id x.key)
  unfold idV at HC
  obtain ⟨mo, hmo⟩ : ∃ mo, mo = modeI q x.id x.key := ⟨_, rfl⟩
  rw [← hmo] at HC
  have HMO := Lib.hid hmo
  clear hmo
  go_wp2_with fail
  refine HC.out.mono ?_
  clear HC
  rintro e w4 ⟨rfl, hb4⟩
  have HB4 := Lib.hid (HB3.out.trans (hb4.mono HB3.out.size))
  have HK14 := Lib.hid (HK13.out.below hb4 HK13.out.lt)
  have HK24 := Lib.hid (HK23.out.below hb4 HK23.out.lt)
  have HT4 := Lib.hid (HH.out.below HB4.out)
  clear hb4 x10 x11 HK13 HK23 HT3 HB3
  have x10 : w4.cell? ⟨p1, 0, none⟩ = some (.int .i64 x.id.n) := HK14.out.cell 0
  have x11 : w4.cell? ⟨p1, 1, none⟩ = some (.int .i64 x.id.c) := HK14.out.cell 1
  have HC := Lib.hid (wants_any HT4.out x.id)
  unfold WantEnds lkV idV at HC
  obtain ⟨yw, hyw⟩ : ∃ yw, yw = (wantsL q x.id).getD zeroL := ⟨_, rfl⟩
  rw [← hyw] at HC
  have HYW := Lib.hid hyw
  clear hyw
  obtain ⟨iw, hiw⟩ : ∃ iw, iw = (wantsL q x.id).isSome := ⟨_, rfl⟩
  rw [← hiw] at HC
  have HIW := Lib.hid hiw
  clear hiw
  go_wp2_with fail
  refine HC.out.mono ?_
  clear HC
  rintro e w5 ⟨rfl, hb5⟩
  have HB5 := Lib.hid (HB4.out.trans (hb5.mono HB4.out.size))
  have HK15 := Lib.hid (HK14.out.below hb5 HK14.out.lt)
  have HK25 := Lib.hid (HK24.out.below hb5 HK24.out.lt)
  have HBA := Lib.hid (below_alloc w5 (.cells #[.string yw.key, .int .i64 yw.id.n, .int .i64 yw.id.c, .int .i64 yw.mode] 39))
  have HKA := Lib.hid (Blk.new w5 39 #[.string yw.key, .int .i64 yw.id.n, .int .i64 yw.id.c, .int .i64 yw.mode])
  clear hb5 x10 x11 HK14 HK24 HT4 HB4
  go_upto_region 7 with fail
  obtain ⟨w6, hw6⟩ : ∃ w6, w6 = w5.alloc (.cells #[.string yw.key, .int .i64 yw.id.n, .int .i64 yw.id.c, .int .i64 yw.mode] 39) := ⟨_, rfl⟩
  obtain ⟨p3, hp3⟩ : ∃ p3, p3 = w5.heap.size := ⟨_, rfl⟩
  rw [← hw6] at HBA HKA
  rw [← hp3] at HKA
  rw [← hw6]
  rw [← hp3]
  clear hw6 hp3
  have HB6 := Lib.hid (HB5.out.trans (HBA.out.mono HB5.out.size))
  have HK16 := Lib.hid (HK15.out.below HBA.out HK15.out.lt)
  have HK26 := Lib.hid (HK25.out.below HBA.out HK25.out.lt)
  have HT6 := Lib.hid (HH.out.below HB6.out)
  clear HK15 HK25 HB5 HBA
  have hD : Below w6.heap.size w6 w6.drew := below_drewN (Below.refl _ _) 1
  have hS : Hid (∀ w', Below w6.heap.size w6 w' → (w'.cell? ⟨p1, 0, none⟩ = some (.int .i64 x.id.n) ∧ w'.cell? ⟨p1, 1, none⟩ = some (.int .i64 x.id.c) ∧ w'.cell? ⟨d, 4, none⟩ = some (.slice m.au q.hurt.length m.cu))) := Lib.hid (fun w' hb => ⟨(HK16.out.below hb HK16.out.lt).cell 0, (HK16.out.below hb HK16.out.lt).cell 1, (HT6.out.below hb).c4⟩)
  have HCO := Lib.hid (contains_any m.au m.cu q.hurt x.id w6.drew (Reads.of_own (HT6.out.below hD).ou) (by have := HH.out.fm; omega))
  unfold idV at HCO
  refine wp_region_held_drew (S := fun w' => w'.cell? ⟨p1, 0, none⟩ = some (.int .i64 x.id.n) ∧ w'.cell? ⟨p1, 1, none⟩ = some (.int .i64 x.id.c) ∧ w'.cell? ⟨d, 4, none⟩ = some (.slice m.au q.hurt.length m.cu)) (by kernel_rfl) (by with_reducible exact hS.out _ hD) (fun hHeld => ?_)
  refine wpAnyH_take (i := 0) (oi := { dst := some 39, op := Op.move (Operand.tmp 0), type := 24, pos := "locks.go:101", after := #[], guard := none }) (v := ?vv135) rfl (by kernel_rfl) (by kernel_rfl) (by kernel_rfl) (fun _ _ _ h => h) (Or.inl ⟨by rfl, ?hyy135⟩) (by assumption) ?rest135
  case hyy135 => ((intro w hSw); (try dsimp only at hSw); go_simp; (try with_reducible rfl))
  try simp only [Act.put, List.setIfInBounds_toArray, List.set_cons_zero, List.set_cons_succ]
  refine wpAnyH_take (i := 1) (oi := { dst := some 40, op := Op.nilCheck (Operand.tmp 39), type := 0, pos := "locks.go:101", after := #[{ on := 0, ground := Ground.data }], guard := none }) (v := ?vv136) rfl (by kernel_rfl) (by kernel_rfl) (by kernel_rfl) (fun _ _ _ h => h) (Or.inl ⟨by rfl, ?hyy136⟩) (by assumption) ?rest136
  case hyy136 => ((intro w hSw); (try dsimp only at hSw); go_simp; (try with_reducible rfl))
  try simp only [Act.put, List.setIfInBounds_toArray, List.set_cons_zero, List.set_cons_succ]
  refine wpAnyH_take (i := 2) (oi := { dst := some 41, op := Op.fieldAddr 59 (Operand.tmp 40) 4, type := 0, pos := "locks.go:101", after := #[{ on := 1, ground := Ground.data }], guard := none }) (v := ?vv137) rfl (by kernel_rfl) (by kernel_rfl) (by kernel_rfl) (fun _ _ _ h => h) (Or.inl ⟨by rfl, ?hyy137⟩) (by assumption) ?rest137
  case hyy137 => ((intro w hSw); (try dsimp only at hSw); go_simp; (try with_reducible rfl))
  try simp only [Act.put, List.setIfInBounds_toArray, List.set_cons_zero, List.set_cons_succ]
  refine wpAnyH_take (i := 3) (oi := { dst := some 42, op := Op.load 26 (Operand.tmp 41), type := 26, pos := "locks.go:101", after := #[{ on := 2, ground := Ground.data }], guard := none }) (v := ?vv138) rfl (by kernel_rfl) (by kernel_rfl) (by kernel_rfl) (fun _ _ _ h => h) (Or.inl ⟨by rfl, ?hyy138⟩) (by assumption) ?rest138
  case hyy138 => ((intro w hSw); (try dsimp only at hSw); go_simp; (try with_reducible rfl))
  try simp only [Act.put, List.setIfInBounds_toArray, List.set_cons_zero, List.set_cons_succ]
  refine wpAnyH_take (i := 4) (oi := { dst := some 43, op := Op.load 34 (Operand.tmp 5), type := 34, pos := "locks.go:101", after := #[], guard := none }) (v := ?vv139) rfl (by kernel_rfl) (by kernel_rfl) (by kernel_rfl) (fun _ _ _ h => h) (Or.inl ⟨by rfl, ?hyy139⟩) (by assumption) ?rest139
  case hyy139 => ((intro w hSw); (try dsimp only at hSw); go_simp; (try with_reducible rfl))
  try simp only [Act.put, List.setIfInBounds_toArray, List.set_cons_zero, List.set_cons_succ]
  refine wpAnyH_ready (rs := [5]) (by kernel_rfl) (by simp) ?_
  refine AllReadyH.cons (o := { dst := some 44, op := Op.call { callee := Callee.value (Operand.func 29), args := #[Operand.tmp 42, Operand.tmp 43], argTypes := #[26, 34] }, type := 4, pos := "locks.go:101", after := #[{ on := 3, ground := Ground.data }, { on := 4, ground := Ground.data }], guard := none }) rfl (fun K hK => ?_) ?_
  ·
    go_simp
    go_at_call 29
    refine HCO.out.mono ?_
    rintro e w7 ⟨rfl, hbx⟩
    have hcx : Below w6.heap.size w6 w7 := hD.trans (hbx.mono hD.size)
    clear hbx
    go_wp2_with fail
    refine hK.out _ _ (by with_reducible exact hS.out _ hcx) (fun hHeld => ?_)
    clear hK K
    try simp only [Act.put, List.setIfInBounds_toArray, List.set_cons_zero, List.set_cons_succ]
    refine wpAnyH_take (i := 6) (oi := { dst := some 38, op := Op.assign (Operand.tmp 44), type := 4, pos := "locks.go:101", after := #[{ on := 5, ground := Ground.data }, { on := 5, ground := Ground.chain }], guard := none }) (v := ?vv140) rfl (by kernel_rfl) (by kernel_rfl) (by kernel_rfl) (fun _ _ _ h => h) (Or.inl ⟨by rfl, ?hyy140⟩) (by assumption) ?rest140
    case hyy140 => ((intro w hSw); (try dsimp only at hSw); go_simp; (try with_reducible rfl))
    try simp only [Act.put, List.setIfInBounds_toArray, List.set_cons_zero, List.set_cons_succ]
    refine wpAnyH_done (by kernel_rfl) ?_ _
    have HB7 := Lib.hid (HB6.out.trans (hcx.mono HB6.out.size))
    have HK17 := Lib.hid (HK16.out.below hcx HK16.out.lt)
    have HK27 := Lib.hid (HK26.out.below hcx HK26.out.lt)
    have HT7 := Lib.hid (HH.out.below HB7.out)
    clear hHeld hD hS HCO
    have HKA7 := Lib.hid (HKA.out.below hcx HKA.out.lt)
    clear hcx HB6 HK16 HK26 HT6
    cases c2 : hasI q.hurt x.id with
    | true =>
      have HR := Lib.hid (ref_2 (t := q) C1.out c2)
      clear c2
      go_wp2
      go_ret2
      exact ask_fail (HR.out) HH.out HB7.out
    | false =>
    have C2 := Lib.hid c2
    clear c2
    by_cases c3 : x.mode ≤ mo
    · have HR := Lib.hid (ref_3 (t := q) C1.out C2.out (by rw [← HMO.out]; exact c3))
      go_wp2
      go_ret2
      exact ask_fail (HR.out) HH.out HB7.out
    have C3 : Hid (modeI q x.id x.key < x.mode) := Lib.hid (by rw [← HMO.out]; omega)
    have c3d : decide (x.mode ≤ mo) = false := decide_eq_false c3
    clear c3
    cases hw : wantsL q x.id with
    | some y =>
      rw [hw] at HYW HIW
      have HW := Lib.hid hw
      clear hw
      obtain rfl : yw = y := HYW.out
      obtain rfl : iw = true := HIW.out
      clear HYW HIW
      have z0 : w7.cell? ⟨p3, 0, none⟩ = some (.string yw.key) := HKA7.out.cell 0
      have z3 : w7.cell? ⟨p3, 3, none⟩ = some (.int .i64 yw.mode) := HKA7.out.cell 3
      cases hk : (yw.key.toList == x.key.toList) with
      | true =>
        have HKY : Hid (yw.key = x.key) := Lib.hid (toList_inj (by simpa using hk))
        by_cases c4 : x.mode ≤ yw.mode
        · have HR := Lib.hid (ref_4 (t := q) C1.out C2.out (Int.not_le.2 C3.out) HW.out HKY.out c4)
          go_wp2
          go_ret2
          exact ask_fail (HR.out) HH.out HB7.out
        · have HR := Lib.hid (ref_5 (t := q) C1.out C2.out (Int.not_le.2 C3.out) HW.out (fun h => c4 h.2))
          have c4d : decide (x.mode ≤ yw.mode) = false := decide_eq_false c4
          go_wp2
          go_ret2
          exact ask_fail (HR.out) HH.out HB7.out
      | false =>
        have HR := Lib.hid (ref_5 (t := q) C1.out C2.out (Int.not_le.2 C3.out) HW.out (fun h => by rw [h.1] at hk; simp at hk))
        go_wp2
        go_ret2
        exact ask_fail (HR.out) HH.out HB7.out
    | none =>
    rw [hw] at HYW HIW
    have HW := Lib.hid hw
    clear hw
    obtain rfl : iw = false := HIW.out
    clear HYW HIW
    go_upto_region 15 with fail
    have hD : Below w7.heap.size w7 w7.drew := below_drewN (Below.refl _ _) 1
    have hS : Hid (∀ w', Below w7.heap.size w7 w' → (w'.cell? ⟨p1, 0, none⟩ = some (.int .i64 x.id.n) ∧ w'.cell? ⟨p1, 1, none⟩ = some (.int .i64 x.id.c) ∧ w'.cell? ⟨d, 3, none⟩ = some (.slice m.ap q.prep.length m.cp))) := Lib.hid (fun w' hb => ⟨(HK17.out.below hb HK17.out.lt).cell 0, (HK17.out.below hb HK17.out.lt).cell 1, (HT7.out.below hb).c3⟩)
    have HCO := Lib.hid (contains_any m.ap m.cp q.prep x.id w7.drew (Reads.of_own (HT7.out.below hD).op) (by have := HH.out.fm; omega))
    unfold idV at HCO
    refine wp_region_held_drew (S := fun w' => w'.cell? ⟨p1, 0, none⟩ = some (.int .i64 x.id.n) ∧ w'.cell? ⟨p1, 1, none⟩ = some (.int .i64 x.id.c) ∧ w'.cell? ⟨d, 3, none⟩ = some (.slice m.ap q.prep.length m.cp)) (by kernel_rfl) (by with_reducible exact hS.out _ hD) (fun hHeld => ?_)
    refine wpAnyH_take (i := 0) (oi := { dst := some 66, op := Op.move (Operand.tmp 0), type := 24, pos := "locks.go:109", after := #[], guard := none }) (v := ?vv129) rfl (by kernel_rfl) (by kernel_rfl) (by kernel_rfl) (fun _ _ _ h => h) (Or.inl ⟨by rfl, ?hyy129⟩) (by assumption) ?rest129
    case hyy129 => ((intro w hSw); (try dsimp only at hSw); go_simp; (try with_reducible rfl))
    try simp only [Act.put, List.setIfInBounds_toArray, List.set_cons_zero, List.set_cons_succ]
    refine wpAnyH_take (i := 1) (oi := { dst := some 67, op := Op.nilCheck (Operand.tmp 66), type := 0, pos := "locks.go:109", after := #[{ on := 0, ground := Ground.data }], guard := none }) (v := ?vv130) rfl (by kernel_rfl) (by kernel_rfl) (by kernel_rfl) (fun _ _ _ h => h) (Or.inl ⟨by rfl, ?hyy130⟩) (by assumption) ?rest130
    case hyy130 => ((intro w hSw); (try dsimp only at hSw); go_simp; (try with_reducible rfl))
    try simp only [Act.put, List.setIfInBounds_toArray, List.set_cons_zero, List.set_cons_succ]
    refine wpAnyH_take (i := 2) (oi := { dst := some 68, op := Op.fieldAddr 59 (Operand.tmp 67) 3, type := 0, pos := "locks.go:109", after := #[{ on := 1, ground := Ground.data }], guard := none }) (v := ?vv131) rfl (by kernel_rfl) (by kernel_rfl) (by kernel_rfl) (fun _ _ _ h => h) (Or.inl ⟨by rfl, ?hyy131⟩) (by assumption) ?rest131
    case hyy131 => ((intro w hSw); (try dsimp only at hSw); go_simp; (try with_reducible rfl))
    try simp only [Act.put, List.setIfInBounds_toArray, List.set_cons_zero, List.set_cons_succ]
    refine wpAnyH_take (i := 3) (oi := { dst := some 69, op := Op.load 26 (Operand.tmp 68), type := 26, pos := "locks.go:109", after := #[{ on := 2, ground := Ground.data }], guard := none }) (v := ?vv132) rfl (by kernel_rfl) (by kernel_rfl) (by kernel_rfl) (fun _ _ _ h => h) (Or.inl ⟨by rfl, ?hyy132⟩) (by assumption) ?rest132
    case hyy132 => ((intro w hSw); (try dsimp only at hSw); go_simp; (try with_reducible rfl))
    try simp only [Act.put, List.setIfInBounds_toArray, List.set_cons_zero, List.set_cons_succ]
    refine wpAnyH_take (i := 4) (oi := { dst := some 70, op := Op.load 34 (Operand.tmp 5), type := 34, pos := "locks.go:109", after := #[], guard := none }) (v := ?vv133) rfl (by kernel_rfl) (by kernel_rfl) (by kernel_rfl) (fun _ _ _ h => h) (Or.inl ⟨by rfl, ?hyy133⟩) (by assumption) ?rest133
    case hyy133 => ((intro w hSw); (try dsimp only at hSw); go_simp; (try with_reducible rfl))
    try simp only [Act.put, List.setIfInBounds_toArray, List.set_cons_zero, List.set_cons_succ]
    refine wpAnyH_ready (rs := [5]) (by kernel_rfl) (by simp) ?_
    refine AllReadyH.cons (o := { dst := some 71, op := Op.call { callee := Callee.value (Operand.func 29), args := #[Operand.tmp 69, Operand.tmp 70], argTypes := #[26, 34] }, type := 4, pos := "locks.go:109", after := #[{ on := 3, ground := Ground.data }, { on := 4, ground := Ground.data }], guard := none }) rfl (fun K hK => ?_) ?_
    ·
      go_simp
      go_at_call 29
      refine HCO.out.mono ?_
      rintro e w8 ⟨rfl, hbx⟩
      have hcx : Below w7.heap.size w7 w8 := hD.trans (hbx.mono hD.size)
      clear hbx
      go_wp2_with fail
      refine hK.out _ _ (by with_reducible exact hS.out _ hcx) (fun hHeld => ?_)
      clear hK K
      try simp only [Act.put, List.setIfInBounds_toArray, List.set_cons_zero, List.set_cons_succ]
      refine wpAnyH_take (i := 6) (oi := { dst := some 65, op := Op.assign (Operand.tmp 71), type := 4, pos := "locks.go:109", after := #[{ on := 5, ground := Ground.data }, { on := 5, ground := Ground.chain }], guard := none }) (v := ?vv134) rfl (by kernel_rfl) (by kernel_rfl) (by kernel_rfl) (fun _ _ _ h => h) (Or.inl ⟨by rfl, ?hyy134⟩) (by assumption) ?rest134
      case hyy134 => ((intro w hSw); (try dsimp only at hSw); go_simp; (try with_reducible rfl))
      try simp only [Act.put, List.setIfInBounds_toArray, List.set_cons_zero, List.set_cons_succ]
      refine wpAnyH_done (by kernel_rfl) ?_ _
      have HB8 := Lib.hid (HB7.out.trans (hcx.mono HB7.out.size))
      have HK18 := Lib.hid (HK17.out.below hcx HK17.out.lt)
      have HK28 := Lib.hid (HK27.out.below hcx HK27.out.lt)
      have HT8 := Lib.hid (HH.out.below HB8.out)
      clear hHeld hD hS HCO
      clear hcx HB7 HK17 HK27 HT7
      cases c5 : hasI q.prep x.id with
      | true =>
        have HR := Lib.hid (ref_6 (t := q) C1.out C2.out (Int.not_le.2 C3.out) HW.out c5)
        clear c5
        go_wp2
        go_ret2
        exact ask_fail (HR.out) HH.out HB8.out
      | false =>
      have HRF := Lib.hid (fun h => ref_7 (t := q) C1.out C2.out (Int.not_le.2 C3.out) HW.out c5 h)
      have HRN := Lib.hid (fun h => ref_8 (t := q) C1.out C2.out (Int.not_le.2 C3.out) HW.out c5 h)
      clear c5
      go_upto_region 17 with fail
      have hD : Below w8.heap.size w8 w8.drew := below_drewN (Below.refl _ _) 1
      have c6n := HH.out.fh
      have c6w : IntKind.i64.wrap ((q.held.length : Int) + (q.wait.length : Int)) = (q.held.length : Int) + (q.wait.length : Int) := by rw [IntKind.wrap_i64]; omega
      have hS : w8.drew.cell? ⟨d, 0, none⟩ = some (.int .i64 q.most) ∧ w8.drew.cell? ⟨d, 1, none⟩ = some (.slice m.ah q.held.length m.ch) ∧ w8.drew.cell? ⟨d, 2, none⟩ = some (.slice m.aw q.wait.length m.cw) := ⟨(HT8.out.below hD).c0, (HT8.out.below hD).c1, (HT8.out.below hD).c2⟩
      refine wp_region_held_drew (S := fun w' => w'.cell? ⟨d, 0, none⟩ = some (.int .i64 q.most) ∧ w'.cell? ⟨d, 1, none⟩ = some (.slice m.ah q.held.length m.ch) ∧ w'.cell? ⟨d, 2, none⟩ = some (.slice m.aw q.wait.length m.cw)) (by kernel_rfl) hS (fun hHeld => ?_)
      refine wpAnyH_take (i := 0) (oi := { dst := some 72, op := Op.move (Operand.tmp 0), type := 24, pos := "locks.go:112", after := #[], guard := none }) (v := ?vv113) rfl (by kernel_rfl) (by kernel_rfl) (by kernel_rfl) (fun _ _ _ h => h) (Or.inl ⟨by rfl, ?hyy113⟩) (by assumption) ?rest113
      case hyy113 => ((intro w hSw); (try dsimp only at hSw); go_simp; (try with_reducible rfl))
      try simp only [Act.put, List.setIfInBounds_toArray, List.set_cons_zero, List.set_cons_succ]
      refine wpAnyH_take (i := 1) (oi := { dst := some 73, op := Op.nilCheck (Operand.tmp 72), type := 0, pos := "locks.go:112", after := #[{ on := 0, ground := Ground.data }], guard := none }) (v := ?vv114) rfl (by kernel_rfl) (by kernel_rfl) (by kernel_rfl) (fun _ _ _ h => h) (Or.inl ⟨by rfl, ?hyy114⟩) (by assumption) ?rest114
      case hyy114 => ((intro w hSw); (try dsimp only at hSw); go_simp; (try with_reducible rfl))
      try simp only [Act.put, List.setIfInBounds_toArray, List.set_cons_zero, List.set_cons_succ]
      refine wpAnyH_take (i := 2) (oi := { dst := some 74, op := Op.fieldAddr 59 (Operand.tmp 73) 1, type := 0, pos := "locks.go:112", after := #[{ on := 1, ground := Ground.data }], guard := none }) (v := ?vv115) rfl (by kernel_rfl) (by kernel_rfl) (by kernel_rfl) (fun _ _ _ h => h) (Or.inl ⟨by rfl, ?hyy115⟩) (by assumption) ?rest115
      case hyy115 => ((intro w hSw); (try dsimp only at hSw); go_simp; (try with_reducible rfl))
      try simp only [Act.put, List.setIfInBounds_toArray, List.set_cons_zero, List.set_cons_succ]
      refine wpAnyH_take (i := 3) (oi := { dst := some 75, op := Op.load 28 (Operand.tmp 74), type := 28, pos := "locks.go:112", after := #[{ on := 2, ground := Ground.data }], guard := none }) (v := ?vv116) rfl (by kernel_rfl) (by kernel_rfl) (by kernel_rfl) (fun _ _ _ h => h) (Or.inl ⟨by rfl, ?hyy116⟩) (by assumption) ?rest116
      case hyy116 => ((intro w hSw); (try dsimp only at hSw); go_simp; (try with_reducible rfl))
      try simp only [Act.put, List.setIfInBounds_toArray, List.set_cons_zero, List.set_cons_succ]
      refine wpAnyH_take (i := 4) (oi := { dst := some 76, op := Op.call { callee := Callee.builtin Builtin.len, args := #[Operand.tmp 75], argTypes := #[28] }, type := 3, pos := "locks.go:112", after := #[{ on := 3, ground := Ground.data }], guard := none }) (v := ?vv117) rfl (by kernel_rfl) (by kernel_rfl) (by kernel_rfl) (fun _ _ _ h => h) (Or.inl ⟨by rfl, ?hyy117⟩) (by assumption) ?rest117
      case hyy117 => ((intro w hSw); (try dsimp only at hSw); go_simp; (try with_reducible rfl))
      try simp only [Act.put, List.setIfInBounds_toArray, List.set_cons_zero, List.set_cons_succ]
      refine wpAnyH_take (i := 5) (oi := { dst := some 77, op := Op.move (Operand.tmp 0), type := 24, pos := "locks.go:112", after := #[], guard := none }) (v := ?vv118) rfl (by kernel_rfl) (by kernel_rfl) (by kernel_rfl) (fun _ _ _ h => h) (Or.inl ⟨by rfl, ?hyy118⟩) (by assumption) ?rest118
      case hyy118 => ((intro w hSw); (try dsimp only at hSw); go_simp; (try with_reducible rfl))
      try simp only [Act.put, List.setIfInBounds_toArray, List.set_cons_zero, List.set_cons_succ]
      refine wpAnyH_take (i := 6) (oi := { dst := some 78, op := Op.nilCheck (Operand.tmp 77), type := 0, pos := "locks.go:112", after := #[{ on := 5, ground := Ground.data }], guard := none }) (v := ?vv119) rfl (by kernel_rfl) (by kernel_rfl) (by kernel_rfl) (fun _ _ _ h => h) (Or.inl ⟨by rfl, ?hyy119⟩) (by assumption) ?rest119
      case hyy119 => ((intro w hSw); (try dsimp only at hSw); go_simp; (try with_reducible rfl))
      try simp only [Act.put, List.setIfInBounds_toArray, List.set_cons_zero, List.set_cons_succ]
      refine wpAnyH_take (i := 7) (oi := { dst := some 79, op := Op.fieldAddr 59 (Operand.tmp 78) 2, type := 0, pos := "locks.go:112", after := #[{ on := 6, ground := Ground.data }], guard := none }) (v := ?vv120) rfl (by kernel_rfl) (by kernel_rfl) (by kernel_rfl) (fun _ _ _ h => h) (Or.inl ⟨by rfl, ?hyy120⟩) (by assumption) ?rest120
      case hyy120 => ((intro w hSw); (try dsimp only at hSw); go_simp; (try with_reducible rfl))
      try simp only [Act.put, List.setIfInBounds_toArray, List.set_cons_zero, List.set_cons_succ]
      refine wpAnyH_take (i := 8) (oi := { dst := some 80, op := Op.load 28 (Operand.tmp 79), type := 28, pos := "locks.go:112", after := #[{ on := 7, ground := Ground.data }], guard := none }) (v := ?vv121) rfl (by kernel_rfl) (by kernel_rfl) (by kernel_rfl) (fun _ _ _ h => h) (Or.inl ⟨by rfl, ?hyy121⟩) (by assumption) ?rest121
      case hyy121 => ((intro w hSw); (try dsimp only at hSw); go_simp; (try with_reducible rfl))
      try simp only [Act.put, List.setIfInBounds_toArray, List.set_cons_zero, List.set_cons_succ]
      refine wpAnyH_take (i := 9) (oi := { dst := some 81, op := Op.call { callee := Callee.builtin Builtin.len, args := #[Operand.tmp 80], argTypes := #[28] }, type := 3, pos := "locks.go:112", after := #[{ on := 8, ground := Ground.data }], guard := none }) (v := ?vv122) rfl (by kernel_rfl) (by kernel_rfl) (by kernel_rfl) (fun _ _ _ h => h) (Or.inl ⟨by rfl, ?hyy122⟩) (by assumption) ?rest122
      case hyy122 => ((intro w hSw); (try dsimp only at hSw); go_simp; (try with_reducible rfl))
      try simp only [Act.put, List.setIfInBounds_toArray, List.set_cons_zero, List.set_cons_succ]
      refine wpAnyH_take (i := 10) (oi := { dst := some 82, op := Op.binOp BinOp.add 3 (Operand.tmp 76) (Operand.tmp 81) 3, type := 3, pos := "locks.go:112", after := #[{ on := 4, ground := Ground.data }, { on := 9, ground := Ground.data }], guard := none }) (v := ?vv123) rfl (by kernel_rfl) (by kernel_rfl) (by kernel_rfl) (fun _ _ _ h => h) (Or.inl ⟨by rfl, ?hyy123⟩) (by assumption) ?rest123
      case hyy123 => ((intro w hSw); (try dsimp only at hSw); go_simp; (try with_reducible rfl))
      try simp only [Act.put, List.setIfInBounds_toArray, List.set_cons_zero, List.set_cons_succ]
      refine wpAnyH_take (i := 11) (oi := { dst := some 83, op := Op.move (Operand.tmp 0), type := 24, pos := "locks.go:112", after := #[], guard := none }) (v := ?vv124) rfl (by kernel_rfl) (by kernel_rfl) (by kernel_rfl) (fun _ _ _ h => h) (Or.inl ⟨by rfl, ?hyy124⟩) (by assumption) ?rest124
      case hyy124 => ((intro w hSw); (try dsimp only at hSw); go_simp; (try with_reducible rfl))
      try simp only [Act.put, List.setIfInBounds_toArray, List.set_cons_zero, List.set_cons_succ]
      refine wpAnyH_take (i := 12) (oi := { dst := some 84, op := Op.nilCheck (Operand.tmp 83), type := 0, pos := "locks.go:112", after := #[{ on := 11, ground := Ground.data }], guard := none }) (v := ?vv125) rfl (by kernel_rfl) (by kernel_rfl) (by kernel_rfl) (fun _ _ _ h => h) (Or.inl ⟨by rfl, ?hyy125⟩) (by assumption) ?rest125
      case hyy125 => ((intro w hSw); (try dsimp only at hSw); go_simp; (try with_reducible rfl))
      try simp only [Act.put, List.setIfInBounds_toArray, List.set_cons_zero, List.set_cons_succ]
      refine wpAnyH_take (i := 13) (oi := { dst := some 85, op := Op.fieldAddr 59 (Operand.tmp 84) 0, type := 0, pos := "locks.go:112", after := #[{ on := 12, ground := Ground.data }], guard := none }) (v := ?vv126) rfl (by kernel_rfl) (by kernel_rfl) (by kernel_rfl) (fun _ _ _ h => h) (Or.inl ⟨by rfl, ?hyy126⟩) (by assumption) ?rest126
      case hyy126 => ((intro w hSw); (try dsimp only at hSw); go_simp; (try with_reducible rfl))
      try simp only [Act.put, List.setIfInBounds_toArray, List.set_cons_zero, List.set_cons_succ]
      refine wpAnyH_take (i := 14) (oi := { dst := some 86, op := Op.load 3 (Operand.tmp 85), type := 3, pos := "locks.go:112", after := #[{ on := 13, ground := Ground.data }], guard := none }) (v := ?vv127) rfl (by kernel_rfl) (by kernel_rfl) (by kernel_rfl) (fun _ _ _ h => h) (Or.inl ⟨by rfl, ?hyy127⟩) (by assumption) ?rest127
      case hyy127 => ((intro w hSw); (try dsimp only at hSw); go_simp; (try with_reducible rfl))
      try simp only [Act.put, List.setIfInBounds_toArray, List.set_cons_zero, List.set_cons_succ]
      refine wpAnyH_take (i := 15) (oi := { dst := some 87, op := Op.binOp BinOp.geq 3 (Operand.tmp 82) (Operand.tmp 86) 3, type := 4, pos := "locks.go:112", after := #[{ on := 10, ground := Ground.data }, { on := 14, ground := Ground.data }], guard := none }) (v := ?vv128) rfl (by kernel_rfl) (by kernel_rfl) (by kernel_rfl) (fun _ _ _ h => h) (Or.inl ⟨by rfl, ?hyy128⟩) (by assumption) ?rest128
      case hyy128 => ((intro w hSw); (try dsimp only at hSw); go_simp; (try with_reducible rfl))
      try simp only [Act.put, List.setIfInBounds_toArray, List.set_cons_zero, List.set_cons_succ]
      refine wpAnyH_done (by kernel_rfl) ?_ _
      have HB9 := Lib.hid (HB8.out.trans (hD.mono HB8.out.size))
      have HK19 := Lib.hid (HK18.out.below hD HK18.out.lt)
      have HK29 := Lib.hid (HK28.out.below hD HK28.out.lt)
      obtain ⟨w9, hw9⟩ : ∃ w9, w9 = w8.drew := ⟨_, rfl⟩
      rw [← hw9] at HB9 HK19 HK29
      rw [← hw9]
      have HT9 := Lib.hid (HH.out.below HB9.out)
      clear hHeld hD hS hw9 HK18 HK28 HB8 HT8
      go_upto_if 87 with fail
      go_cut [15] (fun s15 wx => AskMid d q m x p1 p2 w wx)
      case first =>
        by_cases hf : q.most ≤ (q.held.length : Int) + (q.wait.length : Int)
        · have x20 : w9.cell? ⟨p2, 0, none⟩ = some (.string x.key) := HK29.out.cell 0
          have x21 : w9.cell? ⟨p2, 1, none⟩ = some (.int .i64 x.id.n) := HK29.out.cell 1
          have x22 : w9.cell? ⟨p2, 2, none⟩ = some (.int .i64 x.id.c) := HK29.out.cell 2
          have x23 : w9.cell? ⟨p2, 3, none⟩ = some (.int .i64 x.mode) := HK29.out.cell 3
          have HF := Lib.hid hf
          have HA1 := Lib.hid (ag_any x 31 #[] w9)
          unfold lkV AgEnds at HA1
          go_wp2_with fail
          refine HA1.out.mono ?_
          clear HA1
          rintro e w10 ⟨g1, g2, rfl, ka, kb, hb⟩
          have HB10 := Lib.hid (HB9.out.trans (hb.mono HB9.out.size))
          have HM10 := Lib.hid (fun h => (AskMid.mk HB9.out HK19.out HK29.out h : AskMid d q m x p1 p2 w w9).more hb)
          have HKA10 := Lib.hid ka
          have HKB10 := Lib.hid kb
          have HT10 := Lib.hid (HH.out.below HB10.out)
          clear hb ka kb x20 x21 x22 x23 HK19 HK29 HB9 HT9
          by_cases hm0 : mo = 0
          · have HR := Lib.hid (HRF.out (full_2 HF.out (by rw [← HMO.out]; exact hm0)))
            subst hm0
            go_wp2
            go_ret2
            exact ask_fail (HR.out) HH.out HB10.out
          · have HM0 : Hid (¬ modeI q x.id x.key = 0) := Lib.hid (by rw [← HMO.out]; exact hm0)
            have hm0b : (mo == 0) = false := by simpa using hm0
            have hm0d : decide (mo = 0) = false := decide_eq_false hm0
            clear hm0
            have y1 : w10.cell? ⟨d, 1, none⟩ = some (.slice m.ah q.held.length m.ch) := HT10.out.c1
            have HQ := Lib.hid (any1 x g1 g2 m.ah m.ch w10.heap.size q.held w10 (Reads.of_own HT10.out.oh) (Nat.le_refl _) (by have := HH.out.fh; omega) HKA10.out HKB10.out)
            go_wp2_with fail
            refine HQ.out.mono ?_
            clear HQ
            rintro e w11 ⟨rfl, hb⟩
            have HB11 := Lib.hid (HB10.out.trans (hb.mono HB10.out.size))
            have HM11 := Lib.hid (fun h => (HM10.out h).more hb)
            have HKA11 := Lib.hid (HKA10.out.below hb HKA10.out.lt)
            have HKB11 := Lib.hid (HKB10.out.below hb HKB10.out.lt)
            have HT11 := Lib.hid (HH.out.below HB11.out)
            clear hb y1 HT10 HB10 HM10 HKA10 HKB10
            cases c6 : (q.held.any fun y => conf y x) with
            | true =>
              have HR := Lib.hid (HRF.out (full_3 HF.out c6))
              clear c6
              go_wp2
              go_ret2
              exact ask_fail (HR.out) HH.out HB11.out
            | false =>
              have C6 := Lib.hid c6
              clear c6
              have y2 : w11.cell? ⟨d, 2, none⟩ = some (.slice m.aw q.wait.length m.cw) := HT11.out.c2
              have HQ := Lib.hid (any1 x g1 g2 m.aw m.cw w11.heap.size q.wait w11 (Reads.of_own HT11.out.ow) (Nat.le_refl _) (by have := HH.out.fh; omega) HKA11.out HKB11.out)
              go_wp2_with fail
              refine HQ.out.mono ?_
              clear HQ
              rintro e w12 ⟨rfl, hb⟩
              have HB12 := Lib.hid (HB11.out.trans (hb.mono HB11.out.size))
              have HM12 := Lib.hid (fun h => (HM11.out h).more hb)
              clear hb y2 HT11 HB11 HM11
              cases c7 : (q.wait.any fun y => conf y x) with
              | true =>
                have HR := Lib.hid (HRF.out (full_4 HF.out c7))
                clear c7
                go_wp2
                go_ret2
                exact ask_fail (HR.out) HH.out HB12.out
              | false =>
                have HX := Lib.hid (HM12.out (HRN.out (full_5 HM0.out C6.out c7)))
                clear c7
                go_wp2
                go_meet
                exact HX.out
        · have HX := Lib.hid (AskMid.mk HB9.out HK19.out HK29.out (HRN.out (full_1 hf)) : AskMid d q m x p1 p2 w w9)
          have hfn : (q.held.length : Int) + (q.wait.length : Int) < q.most := by omega
          clear hf
          go_wp2
          go_meet
          exact HX.out
      case rest =>
        have HM := Lib.hid hcut
        clear hcut HRF HRN HMO HW C1 C2 C3 HKA7 c3d HB9 HT9 HK19 HK29 c6w c6n
        have HTC := Lib.hid (HH.out.below HM.out.bel)
        have y1 : wc.cell? ⟨d, 1, none⟩ = some (.slice m.ah q.held.length m.ch) := HTC.out.c1
        have hn1000 := HH.out.fh
        go_wp2
        clear y1
        go_loopw [16, 113] (AkRel d q m x p1 p2 w) (fun _ i _ => q.held.length - (intOf i).toNat)
        case atStart =>
          refine ⟨0, none, 0, m, rfl, Nat.zero_le _, by rw [vk_0]; rfl, ?_⟩
          rw [vk_0]
          exact ⟨World.ownsRow_nil _ _ _ _, HTC.out, Moves.of_below HM.out.bel, by simp [ob], by simp [ob], HM.out.b1, HM.out.b2, ⟨⟨fun hf => by have := HH.out.lt _ hf; have := HPX.out.1; omega, fun hf => by have := HH.out.lt _ hf; have := HPX.out.2.1; omega⟩, by simp [ob], by simp [ob]⟩, rfl, rfl⟩
        case round =>
          obtain ⟨k, A, c, m', rfl, hk, rfl, hst⟩ := hrel
          have HA := Lib.hid hst
          clear hst
          by_cases hlt : k < q.held.length
          · have HG : Hid (q.held[k]? = some (gr lkR q.held k)) := Lib.hid (gr_get hlt)
            obtain ⟨g, off, hA, _, a0, a1, a2, a3⟩ := rdL (l := q.held) (Reads.of_own HA.out.tb.oh) hlt
            rw [HA.out.eqh.1] at hA
            rw [hA]
            obtain ⟨l, hl⟩ : ∃ l, l = gr lkR q.held k := ⟨_, rfl⟩
            rw [← hl] at a0 a1 a2 a3 HG
            have kL : (0 : Int) ≤ (k : Int) := by omega
            have kU : (k : Int) < (q.held.length : Int) := by omega
            have HSV := Lib.hid (srt_vk HH.out.good.sh x k)
            have HLV := Lib.hid (vk_len q x k)
            have HLTc := Lib.hid (fun (hc : conf l x = true) => vk_lt HH.out.good.sh HG.out hc)
            have HSMc := Lib.hid (fun (hc : conf l x = true) => hurt_same HH.out.good.sh HG.out hc)
            obtain ⟨V, hV⟩ : ∃ V, V = vk q x k := ⟨_, rfl⟩
            rw [← hV] at HA HSV HLV HLTc HSMc
            rw [← hV]
            have HVK := Lib.hid hV
            have HVON := Lib.hid (vk_on (x := x) HG.out)
            rw [← hV] at HVON
            clear hV hl
            have HLU := Lib.hid (show (addAll q.hurt V).length ≤ 999999 from by have := addAll_len V q.hurt; have := HU.out; have := HLV.out; have := HH.out.fh; omega)
            have HBA := Lib.hid (below_alloc wr (.cells #[.string l.key, .int .i64 l.id.n, .int .i64 l.id.c, .int .i64 l.mode] 39))
            have HKA := Lib.hid (Blk.new wr 39 #[.string l.key, .int .i64 l.id.n, .int .i64 l.id.c, .int .i64 l.mode])
            go_upto_region 25 with fail
            have HP8 := Lib.hid (show w.heap.size ≤ wr.heap.size ∧ wr.heap.size ∉ ob A ∧ wr.heap.size ∉ fpT d m' from ⟨HA.out.mv.kept.size, fun hm => by have := own_lt HA.out.own _ hm; omega, fun hm => by have := HA.out.tb.lt _ hm; omega⟩)
            obtain ⟨w6, hw6⟩ : ∃ w6, w6 = wr.alloc (.cells #[.string l.key, .int .i64 l.id.n, .int .i64 l.id.c, .int .i64 l.mode] 39) := ⟨_, rfl⟩
            obtain ⟨p8, hp8⟩ : ∃ p8, p8 = wr.heap.size := ⟨_, rfl⟩
            rw [← hw6] at HBA HKA
            rw [← hp8] at HKA HP8
            rw [← hw6]
            rw [← hp8]
            clear hw6 hp8 a0 a1 a2 a3 hA
            have HA6 := Lib.hid (HA.out.more HBA.out)
            have HK86 := HKA
            have HP86 := HP8
            clear HA HBA HKA HP8
            have hS : Hid (∀ w', Below w6.heap.size w6 w' → (w'.cell? ⟨p8, 0, none⟩ = some (.string l.key) ∧ w'.cell? ⟨p8, 1, none⟩ = some (.int .i64 l.id.n) ∧ w'.cell? ⟨p8, 2, none⟩ = some (.int .i64 l.id.c) ∧ w'.cell? ⟨p8, 3, none⟩ = some (.int .i64 l.mode) ∧ w'.cell? ⟨p2, 0, none⟩ = some (.string x.key) ∧ w'.cell? ⟨p2, 1, none⟩ = some (.int .i64 x.id.n) ∧ w'.cell? ⟨p2, 2, none⟩ = some (.int .i64 x.id.c) ∧ w'.cell? ⟨p2, 3, none⟩ = some (.int .i64 x.mode) ∧ w'.cell? ⟨p1, 0, none⟩ = some (.int .i64 x.id.n) ∧ w'.cell? ⟨p1, 1, none⟩ = some (.int .i64 x.id.c) ∧ w'.cell? ⟨d, 3, none⟩ = some (.slice m'.ap q.prep.length m'.cp) ∧ w'.cell? ⟨d, 4, none⟩ = some (.slice m'.au (addAll q.hurt V).length m'.cu))) := Lib.hid (fun w' hb => ⟨(HK86.out.below hb HK86.out.lt).cell 0, (HK86.out.below hb HK86.out.lt).cell 1, (HK86.out.below hb HK86.out.lt).cell 2, (HK86.out.below hb HK86.out.lt).cell 3, (HA6.out.b2.below hb HA6.out.b2.lt).cell 0, (HA6.out.b2.below hb HA6.out.b2.lt).cell 1, (HA6.out.b2.below hb HA6.out.b2.lt).cell 2, (HA6.out.b2.below hb HA6.out.b2.lt).cell 3, (HA6.out.b1.below hb HA6.out.b1.lt).cell 0, (HA6.out.b1.below hb HA6.out.b1.lt).cell 1, (HA6.out.tb.below hb).c3, (HA6.out.tb.below hb).c4⟩)
            have hc10 : Below w6.heap.size w6 w6.drew := below_drewN (Below.refl _ _) 1
            have HCF := Lib.hid (fun W => conflict_any l x W)
            have HOL := Lib.hid (fun W => older_any x.id l.id W)
            have HP3 := Lib.hid (fun W (hb : Below w6.heap.size w6 W) => contains_any m'.ap m'.cp q.prep l.id W (Reads.of_own (HA6.out.tb.below hb).op) (by have := HH.out.fm; omega))
            have HP4 := Lib.hid (fun W (hb : Below w6.heap.size w6 W) => contains_any m'.au m'.cu (addAll q.hurt V) l.id W (Reads.of_own (HA6.out.tb.below hb).ou) (by have := HLU.out; omega))
            unfold BoolIs lkV at HCF
            unfold BoolIs idV at HOL HP3 HP4
            cases c1 : conf l x with
            | false =>
              have HV := Lib.hid (vic_1 (t := q) c1)
              refine wp_region_held_drew (S := fun w' => w'.cell? ⟨p8, 0, none⟩ = some (.string l.key) ∧ w'.cell? ⟨p8, 1, none⟩ = some (.int .i64 l.id.n) ∧ w'.cell? ⟨p8, 2, none⟩ = some (.int .i64 l.id.c) ∧ w'.cell? ⟨p8, 3, none⟩ = some (.int .i64 l.mode) ∧ w'.cell? ⟨p2, 0, none⟩ = some (.string x.key) ∧ w'.cell? ⟨p2, 1, none⟩ = some (.int .i64 x.id.n) ∧ w'.cell? ⟨p2, 2, none⟩ = some (.int .i64 x.id.c) ∧ w'.cell? ⟨p2, 3, none⟩ = some (.int .i64 x.mode) ∧ w'.cell? ⟨p1, 0, none⟩ = some (.int .i64 x.id.n) ∧ w'.cell? ⟨p1, 1, none⟩ = some (.int .i64 x.id.c) ∧ w'.cell? ⟨d, 3, none⟩ = some (.slice m'.ap q.prep.length m'.cp) ∧ w'.cell? ⟨d, 4, none⟩ = some (.slice m'.au (addAll q.hurt V).length m'.cu)) (by kernel_rfl) (by with_reducible exact hS.out _ hc10) (fun hHeld => ?_)
              refine wpAnyH_take (i := 0) (oi := { dst := some 117, op := Op.load 39 (Operand.tmp 18), type := 39, pos := "locks.go:120", after := #[], guard := none }) (v := ?vv17) rfl (by kernel_rfl) (by kernel_rfl) (by kernel_rfl) (fun _ _ _ h => h) (Or.inl ⟨by rfl, ?hyy17⟩) (by assumption) ?rest17
              case hyy17 => ((intro w hSw); (try dsimp only at hSw); go_simp; (try with_reducible rfl))
              try simp only [Act.put, List.setIfInBounds_toArray, List.set_cons_zero, List.set_cons_succ]
              refine wpAnyH_take (i := 1) (oi := { dst := some 118, op := Op.load 39 (Operand.tmp 10), type := 39, pos := "locks.go:120", after := #[], guard := none }) (v := ?vv18) rfl (by kernel_rfl) (by kernel_rfl) (by kernel_rfl) (fun _ _ _ h => h) (Or.inl ⟨by rfl, ?hyy18⟩) (by assumption) ?rest18
              case hyy18 => ((intro w hSw); (try dsimp only at hSw); go_simp; (try with_reducible rfl))
              try simp only [Act.put, List.setIfInBounds_toArray, List.set_cons_zero, List.set_cons_succ]
              refine wpAnyH_ready (rs := [2]) (by kernel_rfl) (by simp) ?_
              refine AllReadyH.cons (o := { dst := some 119, op := Op.call { callee := Callee.value (Operand.func 33), args := #[Operand.tmp 117, Operand.tmp 118], argTypes := #[39, 39] }, type := 4, pos := "locks.go:120", after := #[{ on := 0, ground := Ground.data }, { on := 1, ground := Ground.data }], guard := none }) rfl (fun K hK => ?_) ?_
              ·
                go_simp
                go_at_call 33
                refine (HCF.out _).mono ?_
                rintro e w11 ⟨he, hbx⟩
                have hc11 : Below w6.heap.size w6 w11 := hc10.trans (hbx.mono hc10.size)
                rw [c1] at he
                subst he
                clear hbx
                go_wp2_with fail
                refine hK.out _ _ (by with_reducible exact hS.out _ hc11) (fun hHeld => ?_)
                clear hK K
                try simp only [Act.put, List.setIfInBounds_toArray, List.set_cons_zero, List.set_cons_succ]
                refine wpAnyH_take (i := 3) (oi := { dst := some 120, op := Op.move (Operand.tmp 119), type := 4, pos := "locks.go:120", after := #[{ on := 2, ground := Ground.data }, { on := 2, ground := Ground.chain }], guard := none }) (v := ?vv19) rfl (by kernel_rfl) (by kernel_rfl) (by kernel_rfl) (fun _ _ _ h => h) (Or.inl ⟨by rfl, ?hyy19⟩) (by assumption) ?rest19
                case hyy19 => ((intro w hSw); (try dsimp only at hSw); go_simp; (try with_reducible rfl))
                try simp only [Act.put, List.setIfInBounds_toArray, List.set_cons_zero, List.set_cons_succ]
                refine wpAnyH_take (i := 4) (oi := { dst := some 121, op := Op.load 34 (Operand.tmp 5), type := 34, pos := "locks.go:120", after := #[{ on := 3, ground := Ground.guard }], guard := some (3, true) }) (v := undef) rfl (by kernel_rfl) (by kernel_rfl) (by kernel_rfl) (fun _ _ _ h => h) (Or.inr ⟨by rfl, rfl⟩) (by assumption) ?_
                try simp only [Act.put, List.setIfInBounds_toArray, List.set_cons_zero, List.set_cons_succ]
                refine wpAnyH_take (i := 5) (oi := { dst := some 122, op := Op.fieldAddr 39 (Operand.tmp 18) 1, type := 0, pos := "locks.go:120", after := #[{ on := 3, ground := Ground.guard }], guard := some (3, true) }) (v := undef) rfl (by kernel_rfl) (by kernel_rfl) (by kernel_rfl) (fun _ _ _ h => h) (Or.inr ⟨by rfl, rfl⟩) (by assumption) ?_
                try simp only [Act.put, List.setIfInBounds_toArray, List.set_cons_zero, List.set_cons_succ]
                refine wpAnyH_take (i := 6) (oi := { dst := some 123, op := Op.load 34 (Operand.tmp 122), type := 34, pos := "locks.go:120", after := #[{ on := 5, ground := Ground.data }, { on := 3, ground := Ground.guard }], guard := some (3, true) }) (v := undef) rfl (by kernel_rfl) (by kernel_rfl) (by kernel_rfl) (fun _ _ _ h => h) (Or.inr ⟨by rfl, rfl⟩) (by assumption) ?_
                try simp only [Act.put, List.setIfInBounds_toArray, List.set_cons_zero, List.set_cons_succ]
                refine wpAnyH_take (i := 7) (oi := { dst := some 124, op := Op.call { callee := Callee.value (Operand.func 34), args := #[Operand.tmp 121, Operand.tmp 123], argTypes := #[34, 34] }, type := 4, pos := "locks.go:120", after := #[{ on := 4, ground := Ground.data }, { on := 6, ground := Ground.data }, { on := 3, ground := Ground.chain }, { on := 3, ground := Ground.guard }], guard := some (3, true) }) (v := undef) rfl (by kernel_rfl) (by kernel_rfl) (by kernel_rfl) (fun _ _ _ h => h) (Or.inr ⟨by rfl, rfl⟩) (by assumption) ?_
                try simp only [Act.put, List.setIfInBounds_toArray, List.set_cons_zero, List.set_cons_succ]
                refine wpAnyH_take (i := 8) (oi := { dst := some 125, op := Op.pick (Operand.tmp 120) (Operand.tmp 124) (Operand.const (Value.bool false)), type := 4, pos := "locks.go:120", after := #[{ on := 3, ground := Ground.data }, { on := 7, ground := Ground.data }], guard := none }) (v := ?vv20) rfl (by kernel_rfl) (by kernel_rfl) (by kernel_rfl) (fun _ _ _ h => h) (Or.inl ⟨by rfl, ?hyy20⟩) (by assumption) ?rest20
                case hyy20 => ((intro w hSw); (try dsimp only at hSw); go_simp; (try with_reducible rfl))
                try simp only [Act.put, List.setIfInBounds_toArray, List.set_cons_zero, List.set_cons_succ]
                refine wpAnyH_take (i := 9) (oi := { dst := some 126, op := Op.move (Operand.tmp 125), type := 4, pos := "locks.go:120", after := #[{ on := 8, ground := Ground.data }, { on := 7, ground := Ground.chain }], guard := none }) (v := ?vv21) rfl (by kernel_rfl) (by kernel_rfl) (by kernel_rfl) (fun _ _ _ h => h) (Or.inl ⟨by rfl, ?hyy21⟩) (by assumption) ?rest21
                case hyy21 => ((intro w hSw); (try dsimp only at hSw); go_simp; (try with_reducible rfl))
                try simp only [Act.put, List.setIfInBounds_toArray, List.set_cons_zero, List.set_cons_succ]
                refine wpAnyH_take (i := 10) (oi := { dst := some 127, op := Op.move (Operand.tmp 0), type := 24, pos := "locks.go:120", after := #[{ on := 9, ground := Ground.guard }], guard := some (9, true) }) (v := undef) rfl (by kernel_rfl) (by kernel_rfl) (by kernel_rfl) (fun _ _ _ h => h) (Or.inr ⟨by rfl, rfl⟩) (by assumption) ?_
                try simp only [Act.put, List.setIfInBounds_toArray, List.set_cons_zero, List.set_cons_succ]
                refine wpAnyH_take (i := 11) (oi := { dst := some 128, op := Op.nilCheck (Operand.tmp 127), type := 0, pos := "locks.go:120", after := #[{ on := 10, ground := Ground.data }, { on := 9, ground := Ground.guard }], guard := some (9, true) }) (v := undef) rfl (by kernel_rfl) (by kernel_rfl) (by kernel_rfl) (fun _ _ _ h => h) (Or.inr ⟨by rfl, rfl⟩) (by assumption) ?_
                try simp only [Act.put, List.setIfInBounds_toArray, List.set_cons_zero, List.set_cons_succ]
                refine wpAnyH_take (i := 12) (oi := { dst := some 129, op := Op.fieldAddr 59 (Operand.tmp 128) 3, type := 0, pos := "locks.go:120", after := #[{ on := 11, ground := Ground.data }, { on := 9, ground := Ground.guard }], guard := some (9, true) }) (v := undef) rfl (by kernel_rfl) (by kernel_rfl) (by kernel_rfl) (fun _ _ _ h => h) (Or.inr ⟨by rfl, rfl⟩) (by assumption) ?_
                try simp only [Act.put, List.setIfInBounds_toArray, List.set_cons_zero, List.set_cons_succ]
                refine wpAnyH_take (i := 13) (oi := { dst := some 130, op := Op.load 26 (Operand.tmp 129), type := 26, pos := "locks.go:120", after := #[{ on := 12, ground := Ground.data }, { on := 9, ground := Ground.guard }], guard := some (9, true) }) (v := undef) rfl (by kernel_rfl) (by kernel_rfl) (by kernel_rfl) (fun _ _ _ h => h) (Or.inr ⟨by rfl, rfl⟩) (by assumption) ?_
                try simp only [Act.put, List.setIfInBounds_toArray, List.set_cons_zero, List.set_cons_succ]
                refine wpAnyH_take (i := 14) (oi := { dst := some 131, op := Op.fieldAddr 39 (Operand.tmp 18) 1, type := 0, pos := "locks.go:120", after := #[{ on := 9, ground := Ground.guard }], guard := some (9, true) }) (v := undef) rfl (by kernel_rfl) (by kernel_rfl) (by kernel_rfl) (fun _ _ _ h => h) (Or.inr ⟨by rfl, rfl⟩) (by assumption) ?_
                try simp only [Act.put, List.setIfInBounds_toArray, List.set_cons_zero, List.set_cons_succ]
                refine wpAnyH_take (i := 15) (oi := { dst := some 132, op := Op.load 34 (Operand.tmp 131), type := 34, pos := "locks.go:120", after := #[{ on := 14, ground := Ground.data }, { on := 9, ground := Ground.guard }], guard := some (9, true) }) (v := undef) rfl (by kernel_rfl) (by kernel_rfl) (by kernel_rfl) (fun _ _ _ h => h) (Or.inr ⟨by rfl, rfl⟩) (by assumption) ?_
                try simp only [Act.put, List.setIfInBounds_toArray, List.set_cons_zero, List.set_cons_succ]
                refine wpAnyH_take (i := 16) (oi := { dst := some 133, op := Op.call { callee := Callee.value (Operand.func 29), args := #[Operand.tmp 130, Operand.tmp 132], argTypes := #[26, 34] }, type := 4, pos := "locks.go:120", after := #[{ on := 13, ground := Ground.data }, { on := 15, ground := Ground.data }, { on := 9, ground := Ground.chain }, { on := 9, ground := Ground.guard }], guard := some (9, true) }) (v := undef) rfl (by kernel_rfl) (by kernel_rfl) (by kernel_rfl) (fun _ _ _ h => h) (Or.inr ⟨by rfl, rfl⟩) (by assumption) ?_
                try simp only [Act.put, List.setIfInBounds_toArray, List.set_cons_zero, List.set_cons_succ]
                refine wpAnyH_take (i := 17) (oi := { dst := some 134, op := Op.unOp UnOp.not 4 (Operand.tmp 133), type := 4, pos := "locks.go:120", after := #[{ on := 16, ground := Ground.data }, { on := 9, ground := Ground.guard }], guard := some (9, true) }) (v := undef) rfl (by kernel_rfl) (by kernel_rfl) (by kernel_rfl) (fun _ _ _ h => h) (Or.inr ⟨by rfl, rfl⟩) (by assumption) ?_
                try simp only [Act.put, List.setIfInBounds_toArray, List.set_cons_zero, List.set_cons_succ]
                refine wpAnyH_take (i := 18) (oi := { dst := some 135, op := Op.pick (Operand.tmp 126) (Operand.tmp 134) (Operand.const (Value.bool false)), type := 4, pos := "locks.go:120", after := #[{ on := 9, ground := Ground.data }, { on := 17, ground := Ground.data }], guard := none }) (v := ?vv22) rfl (by kernel_rfl) (by kernel_rfl) (by kernel_rfl) (fun _ _ _ h => h) (Or.inl ⟨by rfl, ?hyy22⟩) (by assumption) ?rest22
                case hyy22 => ((intro w hSw); (try dsimp only at hSw); go_simp; (try with_reducible rfl))
                try simp only [Act.put, List.setIfInBounds_toArray, List.set_cons_zero, List.set_cons_succ]
                refine wpAnyH_take (i := 19) (oi := { dst := some 136, op := Op.move (Operand.tmp 135), type := 4, pos := "locks.go:120", after := #[{ on := 18, ground := Ground.data }, { on := 16, ground := Ground.chain }], guard := none }) (v := ?vv23) rfl (by kernel_rfl) (by kernel_rfl) (by kernel_rfl) (fun _ _ _ h => h) (Or.inl ⟨by rfl, ?hyy23⟩) (by assumption) ?rest23
                case hyy23 => ((intro w hSw); (try dsimp only at hSw); go_simp; (try with_reducible rfl))
                try simp only [Act.put, List.setIfInBounds_toArray, List.set_cons_zero, List.set_cons_succ]
                refine wpAnyH_take (i := 20) (oi := { dst := some 137, op := Op.move (Operand.tmp 0), type := 24, pos := "locks.go:120", after := #[{ on := 19, ground := Ground.guard }], guard := some (19, true) }) (v := undef) rfl (by kernel_rfl) (by kernel_rfl) (by kernel_rfl) (fun _ _ _ h => h) (Or.inr ⟨by rfl, rfl⟩) (by assumption) ?_
                try simp only [Act.put, List.setIfInBounds_toArray, List.set_cons_zero, List.set_cons_succ]
                refine wpAnyH_take (i := 21) (oi := { dst := some 138, op := Op.nilCheck (Operand.tmp 137), type := 0, pos := "locks.go:120", after := #[{ on := 20, ground := Ground.data }, { on := 19, ground := Ground.guard }], guard := some (19, true) }) (v := undef) rfl (by kernel_rfl) (by kernel_rfl) (by kernel_rfl) (fun _ _ _ h => h) (Or.inr ⟨by rfl, rfl⟩) (by assumption) ?_
                try simp only [Act.put, List.setIfInBounds_toArray, List.set_cons_zero, List.set_cons_succ]
                refine wpAnyH_take (i := 22) (oi := { dst := some 139, op := Op.fieldAddr 59 (Operand.tmp 138) 4, type := 0, pos := "locks.go:120", after := #[{ on := 21, ground := Ground.data }, { on := 19, ground := Ground.guard }], guard := some (19, true) }) (v := undef) rfl (by kernel_rfl) (by kernel_rfl) (by kernel_rfl) (fun _ _ _ h => h) (Or.inr ⟨by rfl, rfl⟩) (by assumption) ?_
                try simp only [Act.put, List.setIfInBounds_toArray, List.set_cons_zero, List.set_cons_succ]
                refine wpAnyH_take (i := 23) (oi := { dst := some 140, op := Op.load 26 (Operand.tmp 139), type := 26, pos := "locks.go:120", after := #[{ on := 22, ground := Ground.data }, { on := 19, ground := Ground.guard }], guard := some (19, true) }) (v := undef) rfl (by kernel_rfl) (by kernel_rfl) (by kernel_rfl) (fun _ _ _ h => h) (Or.inr ⟨by rfl, rfl⟩) (by assumption) ?_
                try simp only [Act.put, List.setIfInBounds_toArray, List.set_cons_zero, List.set_cons_succ]
                refine wpAnyH_take (i := 24) (oi := { dst := some 141, op := Op.fieldAddr 39 (Operand.tmp 18) 1, type := 0, pos := "locks.go:120", after := #[{ on := 19, ground := Ground.guard }], guard := some (19, true) }) (v := undef) rfl (by kernel_rfl) (by kernel_rfl) (by kernel_rfl) (fun _ _ _ h => h) (Or.inr ⟨by rfl, rfl⟩) (by assumption) ?_
                try simp only [Act.put, List.setIfInBounds_toArray, List.set_cons_zero, List.set_cons_succ]
                refine wpAnyH_take (i := 25) (oi := { dst := some 142, op := Op.load 34 (Operand.tmp 141), type := 34, pos := "locks.go:120", after := #[{ on := 24, ground := Ground.data }, { on := 19, ground := Ground.guard }], guard := some (19, true) }) (v := undef) rfl (by kernel_rfl) (by kernel_rfl) (by kernel_rfl) (fun _ _ _ h => h) (Or.inr ⟨by rfl, rfl⟩) (by assumption) ?_
                try simp only [Act.put, List.setIfInBounds_toArray, List.set_cons_zero, List.set_cons_succ]
                refine wpAnyH_take (i := 26) (oi := { dst := some 143, op := Op.call { callee := Callee.value (Operand.func 29), args := #[Operand.tmp 140, Operand.tmp 142], argTypes := #[26, 34] }, type := 4, pos := "locks.go:120", after := #[{ on := 23, ground := Ground.data }, { on := 25, ground := Ground.data }, { on := 19, ground := Ground.chain }, { on := 19, ground := Ground.guard }], guard := some (19, true) }) (v := undef) rfl (by kernel_rfl) (by kernel_rfl) (by kernel_rfl) (fun _ _ _ h => h) (Or.inr ⟨by rfl, rfl⟩) (by assumption) ?_
                try simp only [Act.put, List.setIfInBounds_toArray, List.set_cons_zero, List.set_cons_succ]
                refine wpAnyH_take (i := 27) (oi := { dst := some 144, op := Op.unOp UnOp.not 4 (Operand.tmp 143), type := 4, pos := "locks.go:120", after := #[{ on := 26, ground := Ground.data }, { on := 19, ground := Ground.guard }], guard := some (19, true) }) (v := undef) rfl (by kernel_rfl) (by kernel_rfl) (by kernel_rfl) (fun _ _ _ h => h) (Or.inr ⟨by rfl, rfl⟩) (by assumption) ?_
                try simp only [Act.put, List.setIfInBounds_toArray, List.set_cons_zero, List.set_cons_succ]
                refine wpAnyH_take (i := 28) (oi := { dst := some 145, op := Op.pick (Operand.tmp 136) (Operand.tmp 144) (Operand.const (Value.bool false)), type := 4, pos := "locks.go:120", after := #[{ on := 19, ground := Ground.data }, { on := 27, ground := Ground.data }], guard := none }) (v := ?vv24) rfl (by kernel_rfl) (by kernel_rfl) (by kernel_rfl) (fun _ _ _ h => h) (Or.inl ⟨by rfl, ?hyy24⟩) (by assumption) ?rest24
                case hyy24 => ((intro w hSw); (try dsimp only at hSw); go_simp; (try with_reducible rfl))
                try simp only [Act.put, List.setIfInBounds_toArray, List.set_cons_zero, List.set_cons_succ]
                refine wpAnyH_done (by kernel_rfl) ?_ _
                have HX := Lib.hid (HA6.out.more hc11)
                have HVE := Lib.hid (show vk q x (k + 1) = V from by rw [HVON.out, HV.out]; simp)
                clear hHeld hc10 hS HCF HOL HP3 HP4 hc11
                go_wp2
                go_roundw
                case rel =>
                  refine ⟨k + 1, A, c, m', by go_num, by omega, ?_, ?_⟩
                  · rw [HVE.out]
                  · rw [HVE.out]; exact HX.out
                case measure => simp [intOf]; omega
              exact AllReadyH.nil
            | true =>
            have HLT := Lib.hid (HLTc.out c1)
            have HSM := Lib.hid (HSMc.out c1)
            cases c2 : ol x.id l.id with
            | false =>
              have HV := Lib.hid (vic_2 (t := q) c2)
              refine wp_region_held_drew (S := fun w' => w'.cell? ⟨p8, 0, none⟩ = some (.string l.key) ∧ w'.cell? ⟨p8, 1, none⟩ = some (.int .i64 l.id.n) ∧ w'.cell? ⟨p8, 2, none⟩ = some (.int .i64 l.id.c) ∧ w'.cell? ⟨p8, 3, none⟩ = some (.int .i64 l.mode) ∧ w'.cell? ⟨p2, 0, none⟩ = some (.string x.key) ∧ w'.cell? ⟨p2, 1, none⟩ = some (.int .i64 x.id.n) ∧ w'.cell? ⟨p2, 2, none⟩ = some (.int .i64 x.id.c) ∧ w'.cell? ⟨p2, 3, none⟩ = some (.int .i64 x.mode) ∧ w'.cell? ⟨p1, 0, none⟩ = some (.int .i64 x.id.n) ∧ w'.cell? ⟨p1, 1, none⟩ = some (.int .i64 x.id.c) ∧ w'.cell? ⟨d, 3, none⟩ = some (.slice m'.ap q.prep.length m'.cp) ∧ w'.cell? ⟨d, 4, none⟩ = some (.slice m'.au (addAll q.hurt V).length m'.cu)) (by kernel_rfl) (by with_reducible exact hS.out _ hc10) (fun hHeld => ?_)
              refine wpAnyH_take (i := 0) (oi := { dst := some 117, op := Op.load 39 (Operand.tmp 18), type := 39, pos := "locks.go:120", after := #[], guard := none }) (v := ?vv25) rfl (by kernel_rfl) (by kernel_rfl) (by kernel_rfl) (fun _ _ _ h => h) (Or.inl ⟨by rfl, ?hyy25⟩) (by assumption) ?rest25
              case hyy25 => ((intro w hSw); (try dsimp only at hSw); go_simp; (try with_reducible rfl))
              try simp only [Act.put, List.setIfInBounds_toArray, List.set_cons_zero, List.set_cons_succ]
              refine wpAnyH_take (i := 1) (oi := { dst := some 118, op := Op.load 39 (Operand.tmp 10), type := 39, pos := "locks.go:120", after := #[], guard := none }) (v := ?vv26) rfl (by kernel_rfl) (by kernel_rfl) (by kernel_rfl) (fun _ _ _ h => h) (Or.inl ⟨by rfl, ?hyy26⟩) (by assumption) ?rest26
              case hyy26 => ((intro w hSw); (try dsimp only at hSw); go_simp; (try with_reducible rfl))
              try simp only [Act.put, List.setIfInBounds_toArray, List.set_cons_zero, List.set_cons_succ]
              refine wpAnyH_ready (rs := [2]) (by kernel_rfl) (by simp) ?_
              refine AllReadyH.cons (o := { dst := some 119, op := Op.call { callee := Callee.value (Operand.func 33), args := #[Operand.tmp 117, Operand.tmp 118], argTypes := #[39, 39] }, type := 4, pos := "locks.go:120", after := #[{ on := 0, ground := Ground.data }, { on := 1, ground := Ground.data }], guard := none }) rfl (fun K hK => ?_) ?_
              ·
                go_simp
                go_at_call 33
                refine (HCF.out _).mono ?_
                rintro e w11 ⟨he, hbx⟩
                have hc11 : Below w6.heap.size w6 w11 := hc10.trans (hbx.mono hc10.size)
                rw [c1] at he
                subst he
                clear hbx
                go_wp2_with fail
                refine hK.out _ _ (by with_reducible exact hS.out _ hc11) (fun hHeld => ?_)
                clear hK K
                try simp only [Act.put, List.setIfInBounds_toArray, List.set_cons_zero, List.set_cons_succ]
                refine wpAnyH_take (i := 3) (oi := { dst := some 120, op := Op.move (Operand.tmp 119), type := 4, pos := "locks.go:120", after := #[{ on := 2, ground := Ground.data }, { on := 2, ground := Ground.chain }], guard := none }) (v := ?vv27) rfl (by kernel_rfl) (by kernel_rfl) (by kernel_rfl) (fun _ _ _ h => h) (Or.inl ⟨by rfl, ?hyy27⟩) (by assumption) ?rest27
                case hyy27 => ((intro w hSw); (try dsimp only at hSw); go_simp; (try with_reducible rfl))
                try simp only [Act.put, List.setIfInBounds_toArray, List.set_cons_zero, List.set_cons_succ]
                refine wpAnyH_take (i := 4) (oi := { dst := some 121, op := Op.load 34 (Operand.tmp 5), type := 34, pos := "locks.go:120", after := #[{ on := 3, ground := Ground.guard }], guard := some (3, true) }) (v := ?vv28) rfl (by kernel_rfl) (by kernel_rfl) (by kernel_rfl) (fun _ _ _ h => h) (Or.inl ⟨by rfl, ?hyy28⟩) (by assumption) ?rest28
                case hyy28 => ((intro w hSw); (try dsimp only at hSw); go_simp; (try with_reducible rfl))
                try simp only [Act.put, List.setIfInBounds_toArray, List.set_cons_zero, List.set_cons_succ]
                refine wpAnyH_take (i := 5) (oi := { dst := some 122, op := Op.fieldAddr 39 (Operand.tmp 18) 1, type := 0, pos := "locks.go:120", after := #[{ on := 3, ground := Ground.guard }], guard := some (3, true) }) (v := ?vv29) rfl (by kernel_rfl) (by kernel_rfl) (by kernel_rfl) (fun _ _ _ h => h) (Or.inl ⟨by rfl, ?hyy29⟩) (by assumption) ?rest29
                case hyy29 => ((intro w hSw); (try dsimp only at hSw); go_simp; (try with_reducible rfl))
                try simp only [Act.put, List.setIfInBounds_toArray, List.set_cons_zero, List.set_cons_succ]
                refine wpAnyH_take (i := 6) (oi := { dst := some 123, op := Op.load 34 (Operand.tmp 122), type := 34, pos := "locks.go:120", after := #[{ on := 5, ground := Ground.data }, { on := 3, ground := Ground.guard }], guard := some (3, true) }) (v := ?vv30) rfl (by kernel_rfl) (by kernel_rfl) (by kernel_rfl) (fun _ _ _ h => h) (Or.inl ⟨by rfl, ?hyy30⟩) (by assumption) ?rest30
                case hyy30 => ((intro w hSw); (try dsimp only at hSw); go_simp; (try with_reducible rfl))
                try simp only [Act.put, List.setIfInBounds_toArray, List.set_cons_zero, List.set_cons_succ]
                refine wpAnyH_ready (rs := [7]) (by kernel_rfl) (by simp) ?_
                refine AllReadyH.cons (o := { dst := some 124, op := Op.call { callee := Callee.value (Operand.func 34), args := #[Operand.tmp 121, Operand.tmp 123], argTypes := #[34, 34] }, type := 4, pos := "locks.go:120", after := #[{ on := 4, ground := Ground.data }, { on := 6, ground := Ground.data }, { on := 3, ground := Ground.chain }, { on := 3, ground := Ground.guard }], guard := some (3, true) }) rfl (fun K hK => ?_) ?_
                ·
                  go_simp
                  go_at_call 34
                  refine (HOL.out _).mono ?_
                  rintro e w12 ⟨he, hbx⟩
                  have hc12 : Below w6.heap.size w6 w12 := hc11.trans (hbx.mono hc11.size)
                  rw [c2] at he
                  subst he
                  clear hbx
                  go_wp2_with fail
                  refine hK.out _ _ (by with_reducible exact hS.out _ hc12) (fun hHeld => ?_)
                  clear hK K
                  try simp only [Act.put, List.setIfInBounds_toArray, List.set_cons_zero, List.set_cons_succ]
                  refine wpAnyH_take (i := 8) (oi := { dst := some 125, op := Op.pick (Operand.tmp 120) (Operand.tmp 124) (Operand.const (Value.bool false)), type := 4, pos := "locks.go:120", after := #[{ on := 3, ground := Ground.data }, { on := 7, ground := Ground.data }], guard := none }) (v := ?vv31) rfl (by kernel_rfl) (by kernel_rfl) (by kernel_rfl) (fun _ _ _ h => h) (Or.inl ⟨by rfl, ?hyy31⟩) (by assumption) ?rest31
                  case hyy31 => ((intro w hSw); (try dsimp only at hSw); go_simp; (try with_reducible rfl))
                  try simp only [Act.put, List.setIfInBounds_toArray, List.set_cons_zero, List.set_cons_succ]
                  refine wpAnyH_take (i := 9) (oi := { dst := some 126, op := Op.move (Operand.tmp 125), type := 4, pos := "locks.go:120", after := #[{ on := 8, ground := Ground.data }, { on := 7, ground := Ground.chain }], guard := none }) (v := ?vv32) rfl (by kernel_rfl) (by kernel_rfl) (by kernel_rfl) (fun _ _ _ h => h) (Or.inl ⟨by rfl, ?hyy32⟩) (by assumption) ?rest32
                  case hyy32 => ((intro w hSw); (try dsimp only at hSw); go_simp; (try with_reducible rfl))
                  try simp only [Act.put, List.setIfInBounds_toArray, List.set_cons_zero, List.set_cons_succ]
                  refine wpAnyH_take (i := 10) (oi := { dst := some 127, op := Op.move (Operand.tmp 0), type := 24, pos := "locks.go:120", after := #[{ on := 9, ground := Ground.guard }], guard := some (9, true) }) (v := undef) rfl (by kernel_rfl) (by kernel_rfl) (by kernel_rfl) (fun _ _ _ h => h) (Or.inr ⟨by rfl, rfl⟩) (by assumption) ?_
                  try simp only [Act.put, List.setIfInBounds_toArray, List.set_cons_zero, List.set_cons_succ]
                  refine wpAnyH_take (i := 11) (oi := { dst := some 128, op := Op.nilCheck (Operand.tmp 127), type := 0, pos := "locks.go:120", after := #[{ on := 10, ground := Ground.data }, { on := 9, ground := Ground.guard }], guard := some (9, true) }) (v := undef) rfl (by kernel_rfl) (by kernel_rfl) (by kernel_rfl) (fun _ _ _ h => h) (Or.inr ⟨by rfl, rfl⟩) (by assumption) ?_
                  try simp only [Act.put, List.setIfInBounds_toArray, List.set_cons_zero, List.set_cons_succ]
                  refine wpAnyH_take (i := 12) (oi := { dst := some 129, op := Op.fieldAddr 59 (Operand.tmp 128) 3, type := 0, pos := "locks.go:120", after := #[{ on := 11, ground := Ground.data }, { on := 9, ground := Ground.guard }], guard := some (9, true) }) (v := undef) rfl (by kernel_rfl) (by kernel_rfl) (by kernel_rfl) (fun _ _ _ h => h) (Or.inr ⟨by rfl, rfl⟩) (by assumption) ?_
                  try simp only [Act.put, List.setIfInBounds_toArray, List.set_cons_zero, List.set_cons_succ]
                  refine wpAnyH_take (i := 13) (oi := { dst := some 130, op := Op.load 26 (Operand.tmp 129), type := 26, pos := "locks.go:120", after := #[{ on := 12, ground := Ground.data }, { on := 9, ground := Ground.guard }], guard := some (9, true) }) (v := undef) rfl (by kernel_rfl) (by kernel_rfl) (by kernel_rfl) (fun _ _ _ h => h) (Or.inr ⟨by rfl, rfl⟩) (by assumption) ?_
                  try simp only [Act.put, List.setIfInBounds_toArray, List.set_cons_zero, List.set_cons_succ]
                  refine wpAnyH_take (i := 14) (oi := { dst := some 131, op := Op.fieldAddr 39 (Operand.tmp 18) 1, type := 0, pos := "locks.go:120", after := #[{ on := 9, ground := Ground.guard }], guard := some (9, true) }) (v := undef) rfl (by kernel_rfl) (by kernel_rfl) (by kernel_rfl) (fun _ _ _ h => h) (Or.inr ⟨by rfl, rfl⟩) (by assumption) ?_
                  try simp only [Act.put, List.setIfInBounds_toArray, List.set_cons_zero, List.set_cons_succ]
                  refine wpAnyH_take (i := 15) (oi := { dst := some 132, op := Op.load 34 (Operand.tmp 131), type := 34, pos := "locks.go:120", after := #[{ on := 14, ground := Ground.data }, { on := 9, ground := Ground.guard }], guard := some (9, true) }) (v := undef) rfl (by kernel_rfl) (by kernel_rfl) (by kernel_rfl) (fun _ _ _ h => h) (Or.inr ⟨by rfl, rfl⟩) (by assumption) ?_
                  try simp only [Act.put, List.setIfInBounds_toArray, List.set_cons_zero, List.set_cons_succ]
                  refine wpAnyH_take (i := 16) (oi := { dst := some 133, op := Op.call { callee := Callee.value (Operand.func 29), args := #[Operand.tmp 130, Operand.tmp 132], argTypes := #[26, 34] }, type := 4, pos := "locks.go:120", after := #[{ on := 13, ground := Ground.data }, { on := 15, ground := Ground.data }, { on := 9, ground := Ground.chain }, { on := 9, ground := Ground.guard }], guard := some (9, true) }) (v := undef) rfl (by kernel_rfl) (by kernel_rfl) (by kernel_rfl) (fun _ _ _ h => h) (Or.inr ⟨by rfl, rfl⟩) (by assumption) ?_
                  try simp only [Act.put, List.setIfInBounds_toArray, List.set_cons_zero, List.set_cons_succ]
                  refine wpAnyH_take (i := 17) (oi := { dst := some 134, op := Op.unOp UnOp.not 4 (Operand.tmp 133), type := 4, pos := "locks.go:120", after := #[{ on := 16, ground := Ground.data }, { on := 9, ground := Ground.guard }], guard := some (9, true) }) (v := undef) rfl (by kernel_rfl) (by kernel_rfl) (by kernel_rfl) (fun _ _ _ h => h) (Or.inr ⟨by rfl, rfl⟩) (by assumption) ?_
                  try simp only [Act.put, List.setIfInBounds_toArray, List.set_cons_zero, List.set_cons_succ]
                  refine wpAnyH_take (i := 18) (oi := { dst := some 135, op := Op.pick (Operand.tmp 126) (Operand.tmp 134) (Operand.const (Value.bool false)), type := 4, pos := "locks.go:120", after := #[{ on := 9, ground := Ground.data }, { on := 17, ground := Ground.data }], guard := none }) (v := ?vv33) rfl (by kernel_rfl) (by kernel_rfl) (by kernel_rfl) (fun _ _ _ h => h) (Or.inl ⟨by rfl, ?hyy33⟩) (by assumption) ?rest33
                  case hyy33 => ((intro w hSw); (try dsimp only at hSw); go_simp; (try with_reducible rfl))
                  try simp only [Act.put, List.setIfInBounds_toArray, List.set_cons_zero, List.set_cons_succ]
                  refine wpAnyH_take (i := 19) (oi := { dst := some 136, op := Op.move (Operand.tmp 135), type := 4, pos := "locks.go:120", after := #[{ on := 18, ground := Ground.data }, { on := 16, ground := Ground.chain }], guard := none }) (v := ?vv34) rfl (by kernel_rfl) (by kernel_rfl) (by kernel_rfl) (fun _ _ _ h => h) (Or.inl ⟨by rfl, ?hyy34⟩) (by assumption) ?rest34
                  case hyy34 => ((intro w hSw); (try dsimp only at hSw); go_simp; (try with_reducible rfl))
                  try simp only [Act.put, List.setIfInBounds_toArray, List.set_cons_zero, List.set_cons_succ]
                  refine wpAnyH_take (i := 20) (oi := { dst := some 137, op := Op.move (Operand.tmp 0), type := 24, pos := "locks.go:120", after := #[{ on := 19, ground := Ground.guard }], guard := some (19, true) }) (v := undef) rfl (by kernel_rfl) (by kernel_rfl) (by kernel_rfl) (fun _ _ _ h => h) (Or.inr ⟨by rfl, rfl⟩) (by assumption) ?_
                  try simp only [Act.put, List.setIfInBounds_toArray, List.set_cons_zero, List.set_cons_succ]
                  refine wpAnyH_take (i := 21) (oi := { dst := some 138, op := Op.nilCheck (Operand.tmp 137), type := 0, pos := "locks.go:120", after := #[{ on := 20, ground := Ground.data }, { on := 19, ground := Ground.guard }], guard := some (19, true) }) (v := undef) rfl (by kernel_rfl) (by kernel_rfl) (by kernel_rfl) (fun _ _ _ h => h) (Or.inr ⟨by rfl, rfl⟩) (by assumption) ?_
                  try simp only [Act.put, List.setIfInBounds_toArray, List.set_cons_zero, List.set_cons_succ]
                  refine wpAnyH_take (i := 22) (oi := { dst := some 139, op := Op.fieldAddr 59 (Operand.tmp 138) 4, type := 0, pos := "locks.go:120", after := #[{ on := 21, ground := Ground.data }, { on := 19, ground := Ground.guard }], guard := some (19, true) }) (v := undef) rfl (by kernel_rfl) (by kernel_rfl) (by kernel_rfl) (fun _ _ _ h => h) (Or.inr ⟨by rfl, rfl⟩) (by assumption) ?_
                  try simp only [Act.put, List.setIfInBounds_toArray, List.set_cons_zero, List.set_cons_succ]
                  refine wpAnyH_take (i := 23) (oi := { dst := some 140, op := Op.load 26 (Operand.tmp 139), type := 26, pos := "locks.go:120", after := #[{ on := 22, ground := Ground.data }, { on := 19, ground := Ground.guard }], guard := some (19, true) }) (v := undef) rfl (by kernel_rfl) (by kernel_rfl) (by kernel_rfl) (fun _ _ _ h => h) (Or.inr ⟨by rfl, rfl⟩) (by assumption) ?_
                  try simp only [Act.put, List.setIfInBounds_toArray, List.set_cons_zero, List.set_cons_succ]
                  refine wpAnyH_take (i := 24) (oi := { dst := some 141, op := Op.fieldAddr 39 (Operand.tmp 18) 1, type := 0, pos := "locks.go:120", after := #[{ on := 19, ground := Ground.guard }], guard := some (19, true) }) (v := undef) rfl (by kernel_rfl) (by kernel_rfl) (by kernel_rfl) (fun _ _ _ h => h) (Or.inr ⟨by rfl, rfl⟩) (by assumption) ?_
                  try simp only [Act.put, List.setIfInBounds_toArray, List.set_cons_zero, List.set_cons_succ]
                  refine wpAnyH_take (i := 25) (oi := { dst := some 142, op := Op.load 34 (Operand.tmp 141), type := 34, pos := "locks.go:120", after := #[{ on := 24, ground := Ground.data }, { on := 19, ground := Ground.guard }], guard := some (19, true) }) (v := undef) rfl (by kernel_rfl) (by kernel_rfl) (by kernel_rfl) (fun _ _ _ h => h) (Or.inr ⟨by rfl, rfl⟩) (by assumption) ?_
                  try simp only [Act.put, List.setIfInBounds_toArray, List.set_cons_zero, List.set_cons_succ]
                  refine wpAnyH_take (i := 26) (oi := { dst := some 143, op := Op.call { callee := Callee.value (Operand.func 29), args := #[Operand.tmp 140, Operand.tmp 142], argTypes := #[26, 34] }, type := 4, pos := "locks.go:120", after := #[{ on := 23, ground := Ground.data }, { on := 25, ground := Ground.data }, { on := 19, ground := Ground.chain }, { on := 19, ground := Ground.guard }], guard := some (19, true) }) (v := undef) rfl (by kernel_rfl) (by kernel_rfl) (by kernel_rfl) (fun _ _ _ h => h) (Or.inr ⟨by rfl, rfl⟩) (by assumption) ?_
                  try simp only [Act.put, List.setIfInBounds_toArray, List.set_cons_zero, List.set_cons_succ]
                  refine wpAnyH_take (i := 27) (oi := { dst := some 144, op := Op.unOp UnOp.not 4 (Operand.tmp 143), type := 4, pos := "locks.go:120", after := #[{ on := 26, ground := Ground.data }, { on := 19, ground := Ground.guard }], guard := some (19, true) }) (v := undef) rfl (by kernel_rfl) (by kernel_rfl) (by kernel_rfl) (fun _ _ _ h => h) (Or.inr ⟨by rfl, rfl⟩) (by assumption) ?_
                  try simp only [Act.put, List.setIfInBounds_toArray, List.set_cons_zero, List.set_cons_succ]
                  refine wpAnyH_take (i := 28) (oi := { dst := some 145, op := Op.pick (Operand.tmp 136) (Operand.tmp 144) (Operand.const (Value.bool false)), type := 4, pos := "locks.go:120", after := #[{ on := 19, ground := Ground.data }, { on := 27, ground := Ground.data }], guard := none }) (v := ?vv35) rfl (by kernel_rfl) (by kernel_rfl) (by kernel_rfl) (fun _ _ _ h => h) (Or.inl ⟨by rfl, ?hyy35⟩) (by assumption) ?rest35
                  case hyy35 => ((intro w hSw); (try dsimp only at hSw); go_simp; (try with_reducible rfl))
                  try simp only [Act.put, List.setIfInBounds_toArray, List.set_cons_zero, List.set_cons_succ]
                  refine wpAnyH_done (by kernel_rfl) ?_ _
                  have HX := Lib.hid (HA6.out.more hc12)
                  have HVE := Lib.hid (show vk q x (k + 1) = V from by rw [HVON.out, HV.out]; simp)
                  clear hHeld hc10 hS HCF HOL HP3 HP4 hc11 hc12
                  go_wp2
                  go_roundw
                  case rel =>
                    refine ⟨k + 1, A, c, m', by go_num, by omega, ?_, ?_⟩
                    · rw [HVE.out]
                    · rw [HVE.out]; exact HX.out
                  case measure => simp [intOf]; omega
                exact AllReadyH.nil
              exact AllReadyH.nil
            | true =>
            cases c3 : hasI q.prep l.id with
            | true =>
              have HV := Lib.hid (vic_3 (t := q) (x := x) c3)
              refine wp_region_held_drew (S := fun w' => w'.cell? ⟨p8, 0, none⟩ = some (.string l.key) ∧ w'.cell? ⟨p8, 1, none⟩ = some (.int .i64 l.id.n) ∧ w'.cell? ⟨p8, 2, none⟩ = some (.int .i64 l.id.c) ∧ w'.cell? ⟨p8, 3, none⟩ = some (.int .i64 l.mode) ∧ w'.cell? ⟨p2, 0, none⟩ = some (.string x.key) ∧ w'.cell? ⟨p2, 1, none⟩ = some (.int .i64 x.id.n) ∧ w'.cell? ⟨p2, 2, none⟩ = some (.int .i64 x.id.c) ∧ w'.cell? ⟨p2, 3, none⟩ = some (.int .i64 x.mode) ∧ w'.cell? ⟨p1, 0, none⟩ = some (.int .i64 x.id.n) ∧ w'.cell? ⟨p1, 1, none⟩ = some (.int .i64 x.id.c) ∧ w'.cell? ⟨d, 3, none⟩ = some (.slice m'.ap q.prep.length m'.cp) ∧ w'.cell? ⟨d, 4, none⟩ = some (.slice m'.au (addAll q.hurt V).length m'.cu)) (by kernel_rfl) (by with_reducible exact hS.out _ hc10) (fun hHeld => ?_)
              refine wpAnyH_take (i := 0) (oi := { dst := some 117, op := Op.load 39 (Operand.tmp 18), type := 39, pos := "locks.go:120", after := #[], guard := none }) (v := ?vv36) rfl (by kernel_rfl) (by kernel_rfl) (by kernel_rfl) (fun _ _ _ h => h) (Or.inl ⟨by rfl, ?hyy36⟩) (by assumption) ?rest36
              case hyy36 => ((intro w hSw); (try dsimp only at hSw); go_simp; (try with_reducible rfl))
              try simp only [Act.put, List.setIfInBounds_toArray, List.set_cons_zero, List.set_cons_succ]
              refine wpAnyH_take (i := 1) (oi := { dst := some 118, op := Op.load 39 (Operand.tmp 10), type := 39, pos := "locks.go:120", after := #[], guard := none }) (v := ?vv37) rfl (by kernel_rfl) (by kernel_rfl) (by kernel_rfl) (fun _ _ _ h => h) (Or.inl ⟨by rfl, ?hyy37⟩) (by assumption) ?rest37
              case hyy37 => ((intro w hSw); (try dsimp only at hSw); go_simp; (try with_reducible rfl))
              try simp only [Act.put, List.setIfInBounds_toArray, List.set_cons_zero, List.set_cons_succ]
              refine wpAnyH_ready (rs := [2]) (by kernel_rfl) (by simp) ?_
              refine AllReadyH.cons (o := { dst := some 119, op := Op.call { callee := Callee.value (Operand.func 33), args := #[Operand.tmp 117, Operand.tmp 118], argTypes := #[39, 39] }, type := 4, pos := "locks.go:120", after := #[{ on := 0, ground := Ground.data }, { on := 1, ground := Ground.data }], guard := none }) rfl (fun K hK => ?_) ?_
              ·
                go_simp
                go_at_call 33
                refine (HCF.out _).mono ?_
                rintro e w11 ⟨he, hbx⟩
                have hc11 : Below w6.heap.size w6 w11 := hc10.trans (hbx.mono hc10.size)
                rw [c1] at he
                subst he
                clear hbx
                go_wp2_with fail
                refine hK.out _ _ (by with_reducible exact hS.out _ hc11) (fun hHeld => ?_)
                clear hK K
                try simp only [Act.put, List.setIfInBounds_toArray, List.set_cons_zero, List.set_cons_succ]
                refine wpAnyH_take (i := 3) (oi := { dst := some 120, op := Op.move (Operand.tmp 119), type := 4, pos := "locks.go:120", after := #[{ on := 2, ground := Ground.data }, { on := 2, ground := Ground.chain }], guard := none }) (v := ?vv38) rfl (by kernel_rfl) (by kernel_rfl) (by kernel_rfl) (fun _ _ _ h => h) (Or.inl ⟨by rfl, ?hyy38⟩) (by assumption) ?rest38
                case hyy38 => ((intro w hSw); (try dsimp only at hSw); go_simp; (try with_reducible rfl))
                try simp only [Act.put, List.setIfInBounds_toArray, List.set_cons_zero, List.set_cons_succ]
                refine wpAnyH_take (i := 4) (oi := { dst := some 121, op := Op.load 34 (Operand.tmp 5), type := 34, pos := "locks.go:120", after := #[{ on := 3, ground := Ground.guard }], guard := some (3, true) }) (v := ?vv39) rfl (by kernel_rfl) (by kernel_rfl) (by kernel_rfl) (fun _ _ _ h => h) (Or.inl ⟨by rfl, ?hyy39⟩) (by assumption) ?rest39
                case hyy39 => ((intro w hSw); (try dsimp only at hSw); go_simp; (try with_reducible rfl))
                try simp only [Act.put, List.setIfInBounds_toArray, List.set_cons_zero, List.set_cons_succ]
                refine wpAnyH_take (i := 5) (oi := { dst := some 122, op := Op.fieldAddr 39 (Operand.tmp 18) 1, type := 0, pos := "locks.go:120", after := #[{ on := 3, ground := Ground.guard }], guard := some (3, true) }) (v := ?vv40) rfl (by kernel_rfl) (by kernel_rfl) (by kernel_rfl) (fun _ _ _ h => h) (Or.inl ⟨by rfl, ?hyy40⟩) (by assumption) ?rest40
                case hyy40 => ((intro w hSw); (try dsimp only at hSw); go_simp; (try with_reducible rfl))
                try simp only [Act.put, List.setIfInBounds_toArray, List.set_cons_zero, List.set_cons_succ]
                refine wpAnyH_take (i := 6) (oi := { dst := some 123, op := Op.load 34 (Operand.tmp 122), type := 34, pos := "locks.go:120", after := #[{ on := 5, ground := Ground.data }, { on := 3, ground := Ground.guard }], guard := some (3, true) }) (v := ?vv41) rfl (by kernel_rfl) (by kernel_rfl) (by kernel_rfl) (fun _ _ _ h => h) (Or.inl ⟨by rfl, ?hyy41⟩) (by assumption) ?rest41
                case hyy41 => ((intro w hSw); (try dsimp only at hSw); go_simp; (try with_reducible rfl))
                try simp only [Act.put, List.setIfInBounds_toArray, List.set_cons_zero, List.set_cons_succ]
                refine wpAnyH_ready (rs := [7]) (by kernel_rfl) (by simp) ?_
                refine AllReadyH.cons (o := { dst := some 124, op := Op.call { callee := Callee.value (Operand.func 34), args := #[Operand.tmp 121, Operand.tmp 123], argTypes := #[34, 34] }, type := 4, pos := "locks.go:120", after := #[{ on := 4, ground := Ground.data }, { on := 6, ground := Ground.data }, { on := 3, ground := Ground.chain }, { on := 3, ground := Ground.guard }], guard := some (3, true) }) rfl (fun K hK => ?_) ?_
                ·
                  go_simp
                  go_at_call 34
                  refine (HOL.out _).mono ?_
                  rintro e w12 ⟨he, hbx⟩
                  have hc12 : Below w6.heap.size w6 w12 := hc11.trans (hbx.mono hc11.size)
                  rw [c2] at he
                  subst he
                  clear hbx
                  go_wp2_with fail
                  refine hK.out _ _ (by with_reducible exact hS.out _ hc12) (fun hHeld => ?_)
                  clear hK K
                  try simp only [Act.put, List.setIfInBounds_toArray, List.set_cons_zero, List.set_cons_succ]
                  refine wpAnyH_take (i := 8) (oi := { dst := some 125, op := Op.pick (Operand.tmp 120) (Operand.tmp 124) (Operand.const (Value.bool false)), type := 4, pos := "locks.go:120", after := #[{ on := 3, ground := Ground.data }, { on := 7, ground := Ground.data }], guard := none }) (v := ?vv42) rfl (by kernel_rfl) (by kernel_rfl) (by kernel_rfl) (fun _ _ _ h => h) (Or.inl ⟨by rfl, ?hyy42⟩) (by assumption) ?rest42
                  case hyy42 => ((intro w hSw); (try dsimp only at hSw); go_simp; (try with_reducible rfl))
                  try simp only [Act.put, List.setIfInBounds_toArray, List.set_cons_zero, List.set_cons_succ]
                  refine wpAnyH_take (i := 9) (oi := { dst := some 126, op := Op.move (Operand.tmp 125), type := 4, pos := "locks.go:120", after := #[{ on := 8, ground := Ground.data }, { on := 7, ground := Ground.chain }], guard := none }) (v := ?vv43) rfl (by kernel_rfl) (by kernel_rfl) (by kernel_rfl) (fun _ _ _ h => h) (Or.inl ⟨by rfl, ?hyy43⟩) (by assumption) ?rest43
                  case hyy43 => ((intro w hSw); (try dsimp only at hSw); go_simp; (try with_reducible rfl))
                  try simp only [Act.put, List.setIfInBounds_toArray, List.set_cons_zero, List.set_cons_succ]
                  refine wpAnyH_take (i := 10) (oi := { dst := some 127, op := Op.move (Operand.tmp 0), type := 24, pos := "locks.go:120", after := #[{ on := 9, ground := Ground.guard }], guard := some (9, true) }) (v := ?vv44) rfl (by kernel_rfl) (by kernel_rfl) (by kernel_rfl) (fun _ _ _ h => h) (Or.inl ⟨by rfl, ?hyy44⟩) (by assumption) ?rest44
                  case hyy44 => ((intro w hSw); (try dsimp only at hSw); go_simp; (try with_reducible rfl))
                  try simp only [Act.put, List.setIfInBounds_toArray, List.set_cons_zero, List.set_cons_succ]
                  refine wpAnyH_take (i := 11) (oi := { dst := some 128, op := Op.nilCheck (Operand.tmp 127), type := 0, pos := "locks.go:120", after := #[{ on := 10, ground := Ground.data }, { on := 9, ground := Ground.guard }], guard := some (9, true) }) (v := ?vv45) rfl (by kernel_rfl) (by kernel_rfl) (by kernel_rfl) (fun _ _ _ h => h) (Or.inl ⟨by rfl, ?hyy45⟩) (by assumption) ?rest45
                  case hyy45 => ((intro w hSw); (try dsimp only at hSw); go_simp; (try with_reducible rfl))
                  try simp only [Act.put, List.setIfInBounds_toArray, List.set_cons_zero, List.set_cons_succ]
                  refine wpAnyH_take (i := 12) (oi := { dst := some 129, op := Op.fieldAddr 59 (Operand.tmp 128) 3, type := 0, pos := "locks.go:120", after := #[{ on := 11, ground := Ground.data }, { on := 9, ground := Ground.guard }], guard := some (9, true) }) (v := ?vv46) rfl (by kernel_rfl) (by kernel_rfl) (by kernel_rfl) (fun _ _ _ h => h) (Or.inl ⟨by rfl, ?hyy46⟩) (by assumption) ?rest46
                  case hyy46 => ((intro w hSw); (try dsimp only at hSw); go_simp; (try with_reducible rfl))
                  try simp only [Act.put, List.setIfInBounds_toArray, List.set_cons_zero, List.set_cons_succ]
                  refine wpAnyH_take (i := 13) (oi := { dst := some 130, op := Op.load 26 (Operand.tmp 129), type := 26, pos := "locks.go:120", after := #[{ on := 12, ground := Ground.data }, { on := 9, ground := Ground.guard }], guard := some (9, true) }) (v := ?vv47) rfl (by kernel_rfl) (by kernel_rfl) (by kernel_rfl) (fun _ _ _ h => h) (Or.inl ⟨by rfl, ?hyy47⟩) (by assumption) ?rest47
                  case hyy47 => ((intro w hSw); (try dsimp only at hSw); go_simp; (try with_reducible rfl))
                  try simp only [Act.put, List.setIfInBounds_toArray, List.set_cons_zero, List.set_cons_succ]
                  refine wpAnyH_take (i := 14) (oi := { dst := some 131, op := Op.fieldAddr 39 (Operand.tmp 18) 1, type := 0, pos := "locks.go:120", after := #[{ on := 9, ground := Ground.guard }], guard := some (9, true) }) (v := ?vv48) rfl (by kernel_rfl) (by kernel_rfl) (by kernel_rfl) (fun _ _ _ h => h) (Or.inl ⟨by rfl, ?hyy48⟩) (by assumption) ?rest48
                  case hyy48 => ((intro w hSw); (try dsimp only at hSw); go_simp; (try with_reducible rfl))
                  try simp only [Act.put, List.setIfInBounds_toArray, List.set_cons_zero, List.set_cons_succ]
                  refine wpAnyH_take (i := 15) (oi := { dst := some 132, op := Op.load 34 (Operand.tmp 131), type := 34, pos := "locks.go:120", after := #[{ on := 14, ground := Ground.data }, { on := 9, ground := Ground.guard }], guard := some (9, true) }) (v := ?vv49) rfl (by kernel_rfl) (by kernel_rfl) (by kernel_rfl) (fun _ _ _ h => h) (Or.inl ⟨by rfl, ?hyy49⟩) (by assumption) ?rest49
                  case hyy49 => ((intro w hSw); (try dsimp only at hSw); go_simp; (try with_reducible rfl))
                  try simp only [Act.put, List.setIfInBounds_toArray, List.set_cons_zero, List.set_cons_succ]
                  refine wpAnyH_ready (rs := [16]) (by kernel_rfl) (by simp) ?_
                  refine AllReadyH.cons (o := { dst := some 133, op := Op.call { callee := Callee.value (Operand.func 29), args := #[Operand.tmp 130, Operand.tmp 132], argTypes := #[26, 34] }, type := 4, pos := "locks.go:120", after := #[{ on := 13, ground := Ground.data }, { on := 15, ground := Ground.data }, { on := 9, ground := Ground.chain }, { on := 9, ground := Ground.guard }], guard := some (9, true) }) rfl (fun K hK => ?_) ?_
                  ·
                    go_simp
                    go_at_call 29
                    refine (HP3.out _ hc12).mono ?_
                    rintro e w13 ⟨he, hbx⟩
                    have hc13 : Below w6.heap.size w6 w13 := hc12.trans (hbx.mono hc12.size)
                    rw [c3] at he
                    subst he
                    clear hbx
                    go_wp2_with fail
                    refine hK.out _ _ (by with_reducible exact hS.out _ hc13) (fun hHeld => ?_)
                    clear hK K
                    try simp only [Act.put, List.setIfInBounds_toArray, List.set_cons_zero, List.set_cons_succ]
                    refine wpAnyH_take (i := 17) (oi := { dst := some 134, op := Op.unOp UnOp.not 4 (Operand.tmp 133), type := 4, pos := "locks.go:120", after := #[{ on := 16, ground := Ground.data }, { on := 9, ground := Ground.guard }], guard := some (9, true) }) (v := ?vv50) rfl (by kernel_rfl) (by kernel_rfl) (by kernel_rfl) (fun _ _ _ h => h) (Or.inl ⟨by rfl, ?hyy50⟩) (by assumption) ?rest50
                    case hyy50 => ((intro w hSw); (try dsimp only at hSw); go_simp; (try with_reducible rfl))
                    try simp only [Act.put, List.setIfInBounds_toArray, List.set_cons_zero, List.set_cons_succ]
                    refine wpAnyH_take (i := 18) (oi := { dst := some 135, op := Op.pick (Operand.tmp 126) (Operand.tmp 134) (Operand.const (Value.bool false)), type := 4, pos := "locks.go:120", after := #[{ on := 9, ground := Ground.data }, { on := 17, ground := Ground.data }], guard := none }) (v := ?vv51) rfl (by kernel_rfl) (by kernel_rfl) (by kernel_rfl) (fun _ _ _ h => h) (Or.inl ⟨by rfl, ?hyy51⟩) (by assumption) ?rest51
                    case hyy51 => ((intro w hSw); (try dsimp only at hSw); go_simp; (try with_reducible rfl))
                    try simp only [Act.put, List.setIfInBounds_toArray, List.set_cons_zero, List.set_cons_succ]
                    refine wpAnyH_take (i := 19) (oi := { dst := some 136, op := Op.move (Operand.tmp 135), type := 4, pos := "locks.go:120", after := #[{ on := 18, ground := Ground.data }, { on := 16, ground := Ground.chain }], guard := none }) (v := ?vv52) rfl (by kernel_rfl) (by kernel_rfl) (by kernel_rfl) (fun _ _ _ h => h) (Or.inl ⟨by rfl, ?hyy52⟩) (by assumption) ?rest52
                    case hyy52 => ((intro w hSw); (try dsimp only at hSw); go_simp; (try with_reducible rfl))
                    try simp only [Act.put, List.setIfInBounds_toArray, List.set_cons_zero, List.set_cons_succ]
                    refine wpAnyH_take (i := 20) (oi := { dst := some 137, op := Op.move (Operand.tmp 0), type := 24, pos := "locks.go:120", after := #[{ on := 19, ground := Ground.guard }], guard := some (19, true) }) (v := undef) rfl (by kernel_rfl) (by kernel_rfl) (by kernel_rfl) (fun _ _ _ h => h) (Or.inr ⟨by rfl, rfl⟩) (by assumption) ?_
                    try simp only [Act.put, List.setIfInBounds_toArray, List.set_cons_zero, List.set_cons_succ]
                    refine wpAnyH_take (i := 21) (oi := { dst := some 138, op := Op.nilCheck (Operand.tmp 137), type := 0, pos := "locks.go:120", after := #[{ on := 20, ground := Ground.data }, { on := 19, ground := Ground.guard }], guard := some (19, true) }) (v := undef) rfl (by kernel_rfl) (by kernel_rfl) (by kernel_rfl) (fun _ _ _ h => h) (Or.inr ⟨by rfl, rfl⟩) (by assumption) ?_
                    try simp only [Act.put, List.setIfInBounds_toArray, List.set_cons_zero, List.set_cons_succ]
                    refine wpAnyH_take (i := 22) (oi := { dst := some 139, op := Op.fieldAddr 59 (Operand.tmp 138) 4, type := 0, pos := "locks.go:120", after := #[{ on := 21, ground := Ground.data }, { on := 19, ground := Ground.guard }], guard := some (19, true) }) (v := undef) rfl (by kernel_rfl) (by kernel_rfl) (by kernel_rfl) (fun _ _ _ h => h) (Or.inr ⟨by rfl, rfl⟩) (by assumption) ?_
                    try simp only [Act.put, List.setIfInBounds_toArray, List.set_cons_zero, List.set_cons_succ]
                    refine wpAnyH_take (i := 23) (oi := { dst := some 140, op := Op.load 26 (Operand.tmp 139), type := 26, pos := "locks.go:120", after := #[{ on := 22, ground := Ground.data }, { on := 19, ground := Ground.guard }], guard := some (19, true) }) (v := undef) rfl (by kernel_rfl) (by kernel_rfl) (by kernel_rfl) (fun _ _ _ h => h) (Or.inr ⟨by rfl, rfl⟩) (by assumption) ?_
                    try simp only [Act.put, List.setIfInBounds_toArray, List.set_cons_zero, List.set_cons_succ]
                    refine wpAnyH_take (i := 24) (oi := { dst := some 141, op := Op.fieldAddr 39 (Operand.tmp 18) 1, type := 0, pos := "locks.go:120", after := #[{ on := 19, ground := Ground.guard }], guard := some (19, true) }) (v := undef) rfl (by kernel_rfl) (by kernel_rfl) (by kernel_rfl) (fun _ _ _ h => h) (Or.inr ⟨by rfl, rfl⟩) (by assumption) ?_
                    try simp only [Act.put, List.setIfInBounds_toArray, List.set_cons_zero, List.set_cons_succ]
                    refine wpAnyH_take (i := 25) (oi := { dst := some 142, op := Op.load 34 (Operand.tmp 141), type := 34, pos := "locks.go:120", after := #[{ on := 24, ground := Ground.data }, { on := 19, ground := Ground.guard }], guard := some (19, true) }) (v := undef) rfl (by kernel_rfl) (by kernel_rfl) (by kernel_rfl) (fun _ _ _ h => h) (Or.inr ⟨by rfl, rfl⟩) (by assumption) ?_
                    try simp only [Act.put, List.setIfInBounds_toArray, List.set_cons_zero, List.set_cons_succ]
                    refine wpAnyH_take (i := 26) (oi := { dst := some 143, op := Op.call { callee := Callee.value (Operand.func 29), args := #[Operand.tmp 140, Operand.tmp 142], argTypes := #[26, 34] }, type := 4, pos := "locks.go:120", after := #[{ on := 23, ground := Ground.data }, { on := 25, ground := Ground.data }, { on := 19, ground := Ground.chain }, { on := 19, ground := Ground.guard }], guard := some (19, true) }) (v := undef) rfl (by kernel_rfl) (by kernel_rfl) (by kernel_rfl) (fun _ _ _ h => h) (Or.inr ⟨by rfl, rfl⟩) (by assumption) ?_
                    try simp only [Act.put, List.setIfInBounds_toArray, List.set_cons_zero, List.set_cons_succ]
                    refine wpAnyH_take (i := 27) (oi := { dst := some 144, op := Op.unOp UnOp.not 4 (Operand.tmp 143), type := 4, pos := "locks.go:120", after := #[{ on := 26, ground := Ground.data }, { on := 19, ground := Ground.guard }], guard := some (19, true) }) (v := undef) rfl (by kernel_rfl) (by kernel_rfl) (by kernel_rfl) (fun _ _ _ h => h) (Or.inr ⟨by rfl, rfl⟩) (by assumption) ?_
                    try simp only [Act.put, List.setIfInBounds_toArray, List.set_cons_zero, List.set_cons_succ]
                    refine wpAnyH_take (i := 28) (oi := { dst := some 145, op := Op.pick (Operand.tmp 136) (Operand.tmp 144) (Operand.const (Value.bool false)), type := 4, pos := "locks.go:120", after := #[{ on := 19, ground := Ground.data }, { on := 27, ground := Ground.data }], guard := none }) (v := ?vv53) rfl (by kernel_rfl) (by kernel_rfl) (by kernel_rfl) (fun _ _ _ h => h) (Or.inl ⟨by rfl, ?hyy53⟩) (by assumption) ?rest53
                    case hyy53 => ((intro w hSw); (try dsimp only at hSw); go_simp; (try with_reducible rfl))
                    try simp only [Act.put, List.setIfInBounds_toArray, List.set_cons_zero, List.set_cons_succ]
                    refine wpAnyH_done (by kernel_rfl) ?_ _
                    have HX := Lib.hid (HA6.out.more hc13)
                    have HVE := Lib.hid (show vk q x (k + 1) = V from by rw [HVON.out, HV.out]; simp)
                    clear hHeld hc10 hS HCF HOL HP3 HP4 hc11 hc12 hc13
                    go_wp2
                    go_roundw
                    case rel =>
                      refine ⟨k + 1, A, c, m', by go_num, by omega, ?_, ?_⟩
                      · rw [HVE.out]
                      · rw [HVE.out]; exact HX.out
                    case measure => simp [intOf]; omega
                  exact AllReadyH.nil
                exact AllReadyH.nil
              exact AllReadyH.nil
            | false =>
            cases c4 : hasI (addAll q.hurt V) l.id with
            | true =>
              have HV := Lib.hid (vic_4 (t := q) (x := x) (by rw [← HSM.out]; exact c4))
              refine wp_region_held_drew (S := fun w' => w'.cell? ⟨p8, 0, none⟩ = some (.string l.key) ∧ w'.cell? ⟨p8, 1, none⟩ = some (.int .i64 l.id.n) ∧ w'.cell? ⟨p8, 2, none⟩ = some (.int .i64 l.id.c) ∧ w'.cell? ⟨p8, 3, none⟩ = some (.int .i64 l.mode) ∧ w'.cell? ⟨p2, 0, none⟩ = some (.string x.key) ∧ w'.cell? ⟨p2, 1, none⟩ = some (.int .i64 x.id.n) ∧ w'.cell? ⟨p2, 2, none⟩ = some (.int .i64 x.id.c) ∧ w'.cell? ⟨p2, 3, none⟩ = some (.int .i64 x.mode) ∧ w'.cell? ⟨p1, 0, none⟩ = some (.int .i64 x.id.n) ∧ w'.cell? ⟨p1, 1, none⟩ = some (.int .i64 x.id.c) ∧ w'.cell? ⟨d, 3, none⟩ = some (.slice m'.ap q.prep.length m'.cp) ∧ w'.cell? ⟨d, 4, none⟩ = some (.slice m'.au (addAll q.hurt V).length m'.cu)) (by kernel_rfl) (by with_reducible exact hS.out _ hc10) (fun hHeld => ?_)
              refine wpAnyH_take (i := 0) (oi := { dst := some 117, op := Op.load 39 (Operand.tmp 18), type := 39, pos := "locks.go:120", after := #[], guard := none }) (v := ?vv54) rfl (by kernel_rfl) (by kernel_rfl) (by kernel_rfl) (fun _ _ _ h => h) (Or.inl ⟨by rfl, ?hyy54⟩) (by assumption) ?rest54
              case hyy54 => ((intro w hSw); (try dsimp only at hSw); go_simp; (try with_reducible rfl))
              try simp only [Act.put, List.setIfInBounds_toArray, List.set_cons_zero, List.set_cons_succ]
              refine wpAnyH_take (i := 1) (oi := { dst := some 118, op := Op.load 39 (Operand.tmp 10), type := 39, pos := "locks.go:120", after := #[], guard := none }) (v := ?vv55) rfl (by kernel_rfl) (by kernel_rfl) (by kernel_rfl) (fun _ _ _ h => h) (Or.inl ⟨by rfl, ?hyy55⟩) (by assumption) ?rest55
              case hyy55 => ((intro w hSw); (try dsimp only at hSw); go_simp; (try with_reducible rfl))
              try simp only [Act.put, List.setIfInBounds_toArray, List.set_cons_zero, List.set_cons_succ]
              refine wpAnyH_ready (rs := [2]) (by kernel_rfl) (by simp) ?_
              refine AllReadyH.cons (o := { dst := some 119, op := Op.call { callee := Callee.value (Operand.func 33), args := #[Operand.tmp 117, Operand.tmp 118], argTypes := #[39, 39] }, type := 4, pos := "locks.go:120", after := #[{ on := 0, ground := Ground.data }, { on := 1, ground := Ground.data }], guard := none }) rfl (fun K hK => ?_) ?_
              ·
                go_simp
                go_at_call 33
                refine (HCF.out _).mono ?_
                rintro e w11 ⟨he, hbx⟩
                have hc11 : Below w6.heap.size w6 w11 := hc10.trans (hbx.mono hc10.size)
                rw [c1] at he
                subst he
                clear hbx
                go_wp2_with fail
                refine hK.out _ _ (by with_reducible exact hS.out _ hc11) (fun hHeld => ?_)
                clear hK K
                try simp only [Act.put, List.setIfInBounds_toArray, List.set_cons_zero, List.set_cons_succ]
                refine wpAnyH_take (i := 3) (oi := { dst := some 120, op := Op.move (Operand.tmp 119), type := 4, pos := "locks.go:120", after := #[{ on := 2, ground := Ground.data }, { on := 2, ground := Ground.chain }], guard := none }) (v := ?vv56) rfl (by kernel_rfl) (by kernel_rfl) (by kernel_rfl) (fun _ _ _ h => h) (Or.inl ⟨by rfl, ?hyy56⟩) (by assumption) ?rest56
                case hyy56 => ((intro w hSw); (try dsimp only at hSw); go_simp; (try with_reducible rfl))
                try simp only [Act.put, List.setIfInBounds_toArray, List.set_cons_zero, List.set_cons_succ]
                refine wpAnyH_take (i := 4) (oi := { dst := some 121, op := Op.load 34 (Operand.tmp 5), type := 34, pos := "locks.go:120", after := #[{ on := 3, ground := Ground.guard }], guard := some (3, true) }) (v := ?vv57) rfl (by kernel_rfl) (by kernel_rfl) (by kernel_rfl) (fun _ _ _ h => h) (Or.inl ⟨by rfl, ?hyy57⟩) (by assumption) ?rest57
                case hyy57 => ((intro w hSw); (try dsimp only at hSw); go_simp; (try with_reducible rfl))
                try simp only [Act.put, List.setIfInBounds_toArray, List.set_cons_zero, List.set_cons_succ]
                refine wpAnyH_take (i := 5) (oi := { dst := some 122, op := Op.fieldAddr 39 (Operand.tmp 18) 1, type := 0, pos := "locks.go:120", after := #[{ on := 3, ground := Ground.guard }], guard := some (3, true) }) (v := ?vv58) rfl (by kernel_rfl) (by kernel_rfl) (by kernel_rfl) (fun _ _ _ h => h) (Or.inl ⟨by rfl, ?hyy58⟩) (by assumption) ?rest58
                case hyy58 => ((intro w hSw); (try dsimp only at hSw); go_simp; (try with_reducible rfl))
                try simp only [Act.put, List.setIfInBounds_toArray, List.set_cons_zero, List.set_cons_succ]
                refine wpAnyH_take (i := 6) (oi := { dst := some 123, op := Op.load 34 (Operand.tmp 122), type := 34, pos := "locks.go:120", after := #[{ on := 5, ground := Ground.data }, { on := 3, ground := Ground.guard }], guard := some (3, true) }) (v := ?vv59) rfl (by kernel_rfl) (by kernel_rfl) (by kernel_rfl) (fun _ _ _ h => h) (Or.inl ⟨by rfl, ?hyy59⟩) (by assumption) ?rest59
                case hyy59 => ((intro w hSw); (try dsimp only at hSw); go_simp; (try with_reducible rfl))
                try simp only [Act.put, List.setIfInBounds_toArray, List.set_cons_zero, List.set_cons_succ]
                refine wpAnyH_ready (rs := [7]) (by kernel_rfl) (by simp) ?_
                refine AllReadyH.cons (o := { dst := some 124, op := Op.call { callee := Callee.value (Operand.func 34), args := #[Operand.tmp 121, Operand.tmp 123], argTypes := #[34, 34] }, type := 4, pos := "locks.go:120", after := #[{ on := 4, ground := Ground.data }, { on := 6, ground := Ground.data }, { on := 3, ground := Ground.chain }, { on := 3, ground := Ground.guard }], guard := some (3, true) }) rfl (fun K hK => ?_) ?_
                ·
                  go_simp
                  go_at_call 34
                  refine (HOL.out _).mono ?_
                  rintro e w12 ⟨he, hbx⟩
                  have hc12 : Below w6.heap.size w6 w12 := hc11.trans (hbx.mono hc11.size)
                  rw [c2] at he
                  subst he
                  clear hbx
                  go_wp2_with fail
                  refine hK.out _ _ (by with_reducible exact hS.out _ hc12) (fun hHeld => ?_)
                  clear hK K
                  try simp only [Act.put, List.setIfInBounds_toArray, List.set_cons_zero, List.set_cons_succ]
                  refine wpAnyH_take (i := 8) (oi := { dst := some 125, op := Op.pick (Operand.tmp 120) (Operand.tmp 124) (Operand.const (Value.bool false)), type := 4, pos := "locks.go:120", after := #[{ on := 3, ground := Ground.data }, { on := 7, ground := Ground.data }], guard := none }) (v := ?vv60) rfl (by kernel_rfl) (by kernel_rfl) (by kernel_rfl) (fun _ _ _ h => h) (Or.inl ⟨by rfl, ?hyy60⟩) (by assumption) ?rest60
                  case hyy60 => ((intro w hSw); (try dsimp only at hSw); go_simp; (try with_reducible rfl))
                  try simp only [Act.put, List.setIfInBounds_toArray, List.set_cons_zero, List.set_cons_succ]
                  refine wpAnyH_take (i := 9) (oi := { dst := some 126, op := Op.move (Operand.tmp 125), type := 4, pos := "locks.go:120", after := #[{ on := 8, ground := Ground.data }, { on := 7, ground := Ground.chain }], guard := none }) (v := ?vv61) rfl (by kernel_rfl) (by kernel_rfl) (by kernel_rfl) (fun _ _ _ h => h) (Or.inl ⟨by rfl, ?hyy61⟩) (by assumption) ?rest61
                  case hyy61 => ((intro w hSw); (try dsimp only at hSw); go_simp; (try with_reducible rfl))
                  try simp only [Act.put, List.setIfInBounds_toArray, List.set_cons_zero, List.set_cons_succ]
                  refine wpAnyH_take (i := 10) (oi := { dst := some 127, op := Op.move (Operand.tmp 0), type := 24, pos := "locks.go:120", after := #[{ on := 9, ground := Ground.guard }], guard := some (9, true) }) (v := ?vv62) rfl (by kernel_rfl) (by kernel_rfl) (by kernel_rfl) (fun _ _ _ h => h) (Or.inl ⟨by rfl, ?hyy62⟩) (by assumption) ?rest62
                  case hyy62 => ((intro w hSw); (try dsimp only at hSw); go_simp; (try with_reducible rfl))
                  try simp only [Act.put, List.setIfInBounds_toArray, List.set_cons_zero, List.set_cons_succ]
                  refine wpAnyH_take (i := 11) (oi := { dst := some 128, op := Op.nilCheck (Operand.tmp 127), type := 0, pos := "locks.go:120", after := #[{ on := 10, ground := Ground.data }, { on := 9, ground := Ground.guard }], guard := some (9, true) }) (v := ?vv63) rfl (by kernel_rfl) (by kernel_rfl) (by kernel_rfl) (fun _ _ _ h => h) (Or.inl ⟨by rfl, ?hyy63⟩) (by assumption) ?rest63
                  case hyy63 => ((intro w hSw); (try dsimp only at hSw); go_simp; (try with_reducible rfl))
                  try simp only [Act.put, List.setIfInBounds_toArray, List.set_cons_zero, List.set_cons_succ]
                  refine wpAnyH_take (i := 12) (oi := { dst := some 129, op := Op.fieldAddr 59 (Operand.tmp 128) 3, type := 0, pos := "locks.go:120", after := #[{ on := 11, ground := Ground.data }, { on := 9, ground := Ground.guard }], guard := some (9, true) }) (v := ?vv64) rfl (by kernel_rfl) (by kernel_rfl) (by kernel_rfl) (fun _ _ _ h => h) (Or.inl ⟨by rfl, ?hyy64⟩) (by assumption) ?rest64
                  case hyy64 => ((intro w hSw); (try dsimp only at hSw); go_simp; (try with_reducible rfl))
                  try simp only [Act.put, List.setIfInBounds_toArray, List.set_cons_zero, List.set_cons_succ]
                  refine wpAnyH_take (i := 13) (oi := { dst := some 130, op := Op.load 26 (Operand.tmp 129), type := 26, pos := "locks.go:120", after := #[{ on := 12, ground := Ground.data }, { on := 9, ground := Ground.guard }], guard := some (9, true) }) (v := ?vv65) rfl (by kernel_rfl) (by kernel_rfl) (by kernel_rfl) (fun _ _ _ h => h) (Or.inl ⟨by rfl, ?hyy65⟩) (by assumption) ?rest65
                  case hyy65 => ((intro w hSw); (try dsimp only at hSw); go_simp; (try with_reducible rfl))
                  try simp only [Act.put, List.setIfInBounds_toArray, List.set_cons_zero, List.set_cons_succ]
                  refine wpAnyH_take (i := 14) (oi := { dst := some 131, op := Op.fieldAddr 39 (Operand.tmp 18) 1, type := 0, pos := "locks.go:120", after := #[{ on := 9, ground := Ground.guard }], guard := some (9, true) }) (v := ?vv66) rfl (by kernel_rfl) (by kernel_rfl) (by kernel_rfl) (fun _ _ _ h => h) (Or.inl ⟨by rfl, ?hyy66⟩) (by assumption) ?rest66
                  case hyy66 => ((intro w hSw); (try dsimp only at hSw); go_simp; (try with_reducible rfl))
                  try simp only [Act.put, List.setIfInBounds_toArray, List.set_cons_zero, List.set_cons_succ]
                  refine wpAnyH_take (i := 15) (oi := { dst := some 132, op := Op.load 34 (Operand.tmp 131), type := 34, pos := "locks.go:120", after := #[{ on := 14, ground := Ground.data }, { on := 9, ground := Ground.guard }], guard := some (9, true) }) (v := ?vv67) rfl (by kernel_rfl) (by kernel_rfl) (by kernel_rfl) (fun _ _ _ h => h) (Or.inl ⟨by rfl, ?hyy67⟩) (by assumption) ?rest67
                  case hyy67 => ((intro w hSw); (try dsimp only at hSw); go_simp; (try with_reducible rfl))
                  try simp only [Act.put, List.setIfInBounds_toArray, List.set_cons_zero, List.set_cons_succ]
                  refine wpAnyH_ready (rs := [16]) (by kernel_rfl) (by simp) ?_
                  refine AllReadyH.cons (o := { dst := some 133, op := Op.call { callee := Callee.value (Operand.func 29), args := #[Operand.tmp 130, Operand.tmp 132], argTypes := #[26, 34] }, type := 4, pos := "locks.go:120", after := #[{ on := 13, ground := Ground.data }, { on := 15, ground := Ground.data }, { on := 9, ground := Ground.chain }, { on := 9, ground := Ground.guard }], guard := some (9, true) }) rfl (fun K hK => ?_) ?_
                  ·
                    go_simp
                    go_at_call 29
                    refine (HP3.out _ hc12).mono ?_
                    rintro e w13 ⟨he, hbx⟩
                    have hc13 : Below w6.heap.size w6 w13 := hc12.trans (hbx.mono hc12.size)
                    rw [c3] at he
                    subst he
                    clear hbx
                    go_wp2_with fail
                    refine hK.out _ _ (by with_reducible exact hS.out _ hc13) (fun hHeld => ?_)
                    clear hK K
                    try simp only [Act.put, List.setIfInBounds_toArray, List.set_cons_zero, List.set_cons_succ]
                    refine wpAnyH_take (i := 17) (oi := { dst := some 134, op := Op.unOp UnOp.not 4 (Operand.tmp 133), type := 4, pos := "locks.go:120", after := #[{ on := 16, ground := Ground.data }, { on := 9, ground := Ground.guard }], guard := some (9, true) }) (v := ?vv68) rfl (by kernel_rfl) (by kernel_rfl) (by kernel_rfl) (fun _ _ _ h => h) (Or.inl ⟨by rfl, ?hyy68⟩) (by assumption) ?rest68
                    case hyy68 => ((intro w hSw); (try dsimp only at hSw); go_simp; (try with_reducible rfl))
                    try simp only [Act.put, List.setIfInBounds_toArray, List.set_cons_zero, List.set_cons_succ]
                    refine wpAnyH_take (i := 18) (oi := { dst := some 135, op := Op.pick (Operand.tmp 126) (Operand.tmp 134) (Operand.const (Value.bool false)), type := 4, pos := "locks.go:120", after := #[{ on := 9, ground := Ground.data }, { on := 17, ground := Ground.data }], guard := none }) (v := ?vv69) rfl (by kernel_rfl) (by kernel_rfl) (by kernel_rfl) (fun _ _ _ h => h) (Or.inl ⟨by rfl, ?hyy69⟩) (by assumption) ?rest69
                    case hyy69 => ((intro w hSw); (try dsimp only at hSw); go_simp; (try with_reducible rfl))
                    try simp only [Act.put, List.setIfInBounds_toArray, List.set_cons_zero, List.set_cons_succ]
                    refine wpAnyH_take (i := 19) (oi := { dst := some 136, op := Op.move (Operand.tmp 135), type := 4, pos := "locks.go:120", after := #[{ on := 18, ground := Ground.data }, { on := 16, ground := Ground.chain }], guard := none }) (v := ?vv70) rfl (by kernel_rfl) (by kernel_rfl) (by kernel_rfl) (fun _ _ _ h => h) (Or.inl ⟨by rfl, ?hyy70⟩) (by assumption) ?rest70
                    case hyy70 => ((intro w hSw); (try dsimp only at hSw); go_simp; (try with_reducible rfl))
                    try simp only [Act.put, List.setIfInBounds_toArray, List.set_cons_zero, List.set_cons_succ]
                    refine wpAnyH_take (i := 20) (oi := { dst := some 137, op := Op.move (Operand.tmp 0), type := 24, pos := "locks.go:120", after := #[{ on := 19, ground := Ground.guard }], guard := some (19, true) }) (v := ?vv71) rfl (by kernel_rfl) (by kernel_rfl) (by kernel_rfl) (fun _ _ _ h => h) (Or.inl ⟨by rfl, ?hyy71⟩) (by assumption) ?rest71
                    case hyy71 => ((intro w hSw); (try dsimp only at hSw); go_simp; (try with_reducible rfl))
                    try simp only [Act.put, List.setIfInBounds_toArray, List.set_cons_zero, List.set_cons_succ]
                    refine wpAnyH_take (i := 21) (oi := { dst := some 138, op := Op.nilCheck (Operand.tmp 137), type := 0, pos := "locks.go:120", after := #[{ on := 20, ground := Ground.data }, { on := 19, ground := Ground.guard }], guard := some (19, true) }) (v := ?vv72) rfl (by kernel_rfl) (by kernel_rfl) (by kernel_rfl) (fun _ _ _ h => h) (Or.inl ⟨by rfl, ?hyy72⟩) (by assumption) ?rest72
                    case hyy72 => ((intro w hSw); (try dsimp only at hSw); go_simp; (try with_reducible rfl))
                    try simp only [Act.put, List.setIfInBounds_toArray, List.set_cons_zero, List.set_cons_succ]
                    refine wpAnyH_take (i := 22) (oi := { dst := some 139, op := Op.fieldAddr 59 (Operand.tmp 138) 4, type := 0, pos := "locks.go:120", after := #[{ on := 21, ground := Ground.data }, { on := 19, ground := Ground.guard }], guard := some (19, true) }) (v := ?vv73) rfl (by kernel_rfl) (by kernel_rfl) (by kernel_rfl) (fun _ _ _ h => h) (Or.inl ⟨by rfl, ?hyy73⟩) (by assumption) ?rest73
                    case hyy73 => ((intro w hSw); (try dsimp only at hSw); go_simp; (try with_reducible rfl))
                    try simp only [Act.put, List.setIfInBounds_toArray, List.set_cons_zero, List.set_cons_succ]
                    refine wpAnyH_take (i := 23) (oi := { dst := some 140, op := Op.load 26 (Operand.tmp 139), type := 26, pos := "locks.go:120", after := #[{ on := 22, ground := Ground.data }, { on := 19, ground := Ground.guard }], guard := some (19, true) }) (v := ?vv74) rfl (by kernel_rfl) (by kernel_rfl) (by kernel_rfl) (fun _ _ _ h => h) (Or.inl ⟨by rfl, ?hyy74⟩) (by assumption) ?rest74
                    case hyy74 => ((intro w hSw); (try dsimp only at hSw); go_simp; (try with_reducible rfl))
                    try simp only [Act.put, List.setIfInBounds_toArray, List.set_cons_zero, List.set_cons_succ]
                    refine wpAnyH_take (i := 24) (oi := { dst := some 141, op := Op.fieldAddr 39 (Operand.tmp 18) 1, type := 0, pos := "locks.go:120", after := #[{ on := 19, ground := Ground.guard }], guard := some (19, true) }) (v := ?vv75) rfl (by kernel_rfl) (by kernel_rfl) (by kernel_rfl) (fun _ _ _ h => h) (Or.inl ⟨by rfl, ?hyy75⟩) (by assumption) ?rest75
                    case hyy75 => ((intro w hSw); (try dsimp only at hSw); go_simp; (try with_reducible rfl))
                    try simp only [Act.put, List.setIfInBounds_toArray, List.set_cons_zero, List.set_cons_succ]
                    refine wpAnyH_take (i := 25) (oi := { dst := some 142, op := Op.load 34 (Operand.tmp 141), type := 34, pos := "locks.go:120", after := #[{ on := 24, ground := Ground.data }, { on := 19, ground := Ground.guard }], guard := some (19, true) }) (v := ?vv76) rfl (by kernel_rfl) (by kernel_rfl) (by kernel_rfl) (fun _ _ _ h => h) (Or.inl ⟨by rfl, ?hyy76⟩) (by assumption) ?rest76
                    case hyy76 => ((intro w hSw); (try dsimp only at hSw); go_simp; (try with_reducible rfl))
                    try simp only [Act.put, List.setIfInBounds_toArray, List.set_cons_zero, List.set_cons_succ]
                    refine wpAnyH_ready (rs := [26]) (by kernel_rfl) (by simp) ?_
                    refine AllReadyH.cons (o := { dst := some 143, op := Op.call { callee := Callee.value (Operand.func 29), args := #[Operand.tmp 140, Operand.tmp 142], argTypes := #[26, 34] }, type := 4, pos := "locks.go:120", after := #[{ on := 23, ground := Ground.data }, { on := 25, ground := Ground.data }, { on := 19, ground := Ground.chain }, { on := 19, ground := Ground.guard }], guard := some (19, true) }) rfl (fun K hK => ?_) ?_
                    ·
                      go_simp
                      go_at_call 29
                      refine (HP4.out _ hc13).mono ?_
                      rintro e w14 ⟨he, hbx⟩
                      have hc14 : Below w6.heap.size w6 w14 := hc13.trans (hbx.mono hc13.size)
                      rw [c4] at he
                      subst he
                      clear hbx
                      go_wp2_with fail
                      refine hK.out _ _ (by with_reducible exact hS.out _ hc14) (fun hHeld => ?_)
                      clear hK K
                      try simp only [Act.put, List.setIfInBounds_toArray, List.set_cons_zero, List.set_cons_succ]
                      refine wpAnyH_take (i := 27) (oi := { dst := some 144, op := Op.unOp UnOp.not 4 (Operand.tmp 143), type := 4, pos := "locks.go:120", after := #[{ on := 26, ground := Ground.data }, { on := 19, ground := Ground.guard }], guard := some (19, true) }) (v := ?vv77) rfl (by kernel_rfl) (by kernel_rfl) (by kernel_rfl) (fun _ _ _ h => h) (Or.inl ⟨by rfl, ?hyy77⟩) (by assumption) ?rest77
                      case hyy77 => ((intro w hSw); (try dsimp only at hSw); go_simp; (try with_reducible rfl))
                      try simp only [Act.put, List.setIfInBounds_toArray, List.set_cons_zero, List.set_cons_succ]
                      refine wpAnyH_take (i := 28) (oi := { dst := some 145, op := Op.pick (Operand.tmp 136) (Operand.tmp 144) (Operand.const (Value.bool false)), type := 4, pos := "locks.go:120", after := #[{ on := 19, ground := Ground.data }, { on := 27, ground := Ground.data }], guard := none }) (v := ?vv78) rfl (by kernel_rfl) (by kernel_rfl) (by kernel_rfl) (fun _ _ _ h => h) (Or.inl ⟨by rfl, ?hyy78⟩) (by assumption) ?rest78
                      case hyy78 => ((intro w hSw); (try dsimp only at hSw); go_simp; (try with_reducible rfl))
                      try simp only [Act.put, List.setIfInBounds_toArray, List.set_cons_zero, List.set_cons_succ]
                      refine wpAnyH_done (by kernel_rfl) ?_ _
                      have HX := Lib.hid (HA6.out.more hc14)
                      have HVE := Lib.hid (show vk q x (k + 1) = V from by rw [HVON.out, HV.out]; simp)
                      clear hHeld hc10 hS HCF HOL HP3 HP4 hc11 hc12 hc13 hc14
                      go_wp2
                      go_roundw
                      case rel =>
                        refine ⟨k + 1, A, c, m', by go_num, by omega, ?_, ?_⟩
                        · rw [HVE.out]
                        · rw [HVE.out]; exact HX.out
                      case measure => simp [intOf]; omega
                    exact AllReadyH.nil
                  exact AllReadyH.nil
                exact AllReadyH.nil
              exact AllReadyH.nil
            | false =>
              have HV := Lib.hid (vic_5 c1 c2 c3 (by rw [← HSM.out]; exact c4))
              refine wp_region_held_drew (S := fun w' => w'.cell? ⟨p8, 0, none⟩ = some (.string l.key) ∧ w'.cell? ⟨p8, 1, none⟩ = some (.int .i64 l.id.n) ∧ w'.cell? ⟨p8, 2, none⟩ = some (.int .i64 l.id.c) ∧ w'.cell? ⟨p8, 3, none⟩ = some (.int .i64 l.mode) ∧ w'.cell? ⟨p2, 0, none⟩ = some (.string x.key) ∧ w'.cell? ⟨p2, 1, none⟩ = some (.int .i64 x.id.n) ∧ w'.cell? ⟨p2, 2, none⟩ = some (.int .i64 x.id.c) ∧ w'.cell? ⟨p2, 3, none⟩ = some (.int .i64 x.mode) ∧ w'.cell? ⟨p1, 0, none⟩ = some (.int .i64 x.id.n) ∧ w'.cell? ⟨p1, 1, none⟩ = some (.int .i64 x.id.c) ∧ w'.cell? ⟨d, 3, none⟩ = some (.slice m'.ap q.prep.length m'.cp) ∧ w'.cell? ⟨d, 4, none⟩ = some (.slice m'.au (addAll q.hurt V).length m'.cu)) (by kernel_rfl) (by with_reducible exact hS.out _ hc10) (fun hHeld => ?_)
              refine wpAnyH_take (i := 0) (oi := { dst := some 117, op := Op.load 39 (Operand.tmp 18), type := 39, pos := "locks.go:120", after := #[], guard := none }) (v := ?vv88) rfl (by kernel_rfl) (by kernel_rfl) (by kernel_rfl) (fun _ _ _ h => h) (Or.inl ⟨by rfl, ?hyy88⟩) (by assumption) ?rest88
              case hyy88 => ((intro w hSw); (try dsimp only at hSw); go_simp; (try with_reducible rfl))
              try simp only [Act.put, List.setIfInBounds_toArray, List.set_cons_zero, List.set_cons_succ]
              refine wpAnyH_take (i := 1) (oi := { dst := some 118, op := Op.load 39 (Operand.tmp 10), type := 39, pos := "locks.go:120", after := #[], guard := none }) (v := ?vv89) rfl (by kernel_rfl) (by kernel_rfl) (by kernel_rfl) (fun _ _ _ h => h) (Or.inl ⟨by rfl, ?hyy89⟩) (by assumption) ?rest89
              case hyy89 => ((intro w hSw); (try dsimp only at hSw); go_simp; (try with_reducible rfl))
              try simp only [Act.put, List.setIfInBounds_toArray, List.set_cons_zero, List.set_cons_succ]
              refine wpAnyH_ready (rs := [2]) (by kernel_rfl) (by simp) ?_
              refine AllReadyH.cons (o := { dst := some 119, op := Op.call { callee := Callee.value (Operand.func 33), args := #[Operand.tmp 117, Operand.tmp 118], argTypes := #[39, 39] }, type := 4, pos := "locks.go:120", after := #[{ on := 0, ground := Ground.data }, { on := 1, ground := Ground.data }], guard := none }) rfl (fun K hK => ?_) ?_
              ·
                go_simp
                go_at_call 33
                refine (HCF.out _).mono ?_
                rintro e w11 ⟨he, hbx⟩
                have hc11 : Below w6.heap.size w6 w11 := hc10.trans (hbx.mono hc10.size)
                rw [c1] at he
                subst he
                clear hbx
                go_wp2_with fail
                refine hK.out _ _ (by with_reducible exact hS.out _ hc11) (fun hHeld => ?_)
                clear hK K
                try simp only [Act.put, List.setIfInBounds_toArray, List.set_cons_zero, List.set_cons_succ]
                refine wpAnyH_take (i := 3) (oi := { dst := some 120, op := Op.move (Operand.tmp 119), type := 4, pos := "locks.go:120", after := #[{ on := 2, ground := Ground.data }, { on := 2, ground := Ground.chain }], guard := none }) (v := ?vv90) rfl (by kernel_rfl) (by kernel_rfl) (by kernel_rfl) (fun _ _ _ h => h) (Or.inl ⟨by rfl, ?hyy90⟩) (by assumption) ?rest90
                case hyy90 => ((intro w hSw); (try dsimp only at hSw); go_simp; (try with_reducible rfl))
                try simp only [Act.put, List.setIfInBounds_toArray, List.set_cons_zero, List.set_cons_succ]
                refine wpAnyH_take (i := 4) (oi := { dst := some 121, op := Op.load 34 (Operand.tmp 5), type := 34, pos := "locks.go:120", after := #[{ on := 3, ground := Ground.guard }], guard := some (3, true) }) (v := ?vv91) rfl (by kernel_rfl) (by kernel_rfl) (by kernel_rfl) (fun _ _ _ h => h) (Or.inl ⟨by rfl, ?hyy91⟩) (by assumption) ?rest91
                case hyy91 => ((intro w hSw); (try dsimp only at hSw); go_simp; (try with_reducible rfl))
                try simp only [Act.put, List.setIfInBounds_toArray, List.set_cons_zero, List.set_cons_succ]
                refine wpAnyH_take (i := 5) (oi := { dst := some 122, op := Op.fieldAddr 39 (Operand.tmp 18) 1, type := 0, pos := "locks.go:120", after := #[{ on := 3, ground := Ground.guard }], guard := some (3, true) }) (v := ?vv92) rfl (by kernel_rfl) (by kernel_rfl) (by kernel_rfl) (fun _ _ _ h => h) (Or.inl ⟨by rfl, ?hyy92⟩) (by assumption) ?rest92
                case hyy92 => ((intro w hSw); (try dsimp only at hSw); go_simp; (try with_reducible rfl))
                try simp only [Act.put, List.setIfInBounds_toArray, List.set_cons_zero, List.set_cons_succ]
                refine wpAnyH_take (i := 6) (oi := { dst := some 123, op := Op.load 34 (Operand.tmp 122), type := 34, pos := "locks.go:120", after := #[{ on := 5, ground := Ground.data }, { on := 3, ground := Ground.guard }], guard := some (3, true) }) (v := ?vv93) rfl (by kernel_rfl) (by kernel_rfl) (by kernel_rfl) (fun _ _ _ h => h) (Or.inl ⟨by rfl, ?hyy93⟩) (by assumption) ?rest93
                case hyy93 => ((intro w hSw); (try dsimp only at hSw); go_simp; (try with_reducible rfl))
                try simp only [Act.put, List.setIfInBounds_toArray, List.set_cons_zero, List.set_cons_succ]
                refine wpAnyH_ready (rs := [7]) (by kernel_rfl) (by simp) ?_
                refine AllReadyH.cons (o := { dst := some 124, op := Op.call { callee := Callee.value (Operand.func 34), args := #[Operand.tmp 121, Operand.tmp 123], argTypes := #[34, 34] }, type := 4, pos := "locks.go:120", after := #[{ on := 4, ground := Ground.data }, { on := 6, ground := Ground.data }, { on := 3, ground := Ground.chain }, { on := 3, ground := Ground.guard }], guard := some (3, true) }) rfl (fun K hK => ?_) ?_
                ·
                  go_simp
                  go_at_call 34
                  refine (HOL.out _).mono ?_
                  rintro e w12 ⟨he, hbx⟩
                  have hc12 : Below w6.heap.size w6 w12 := hc11.trans (hbx.mono hc11.size)
                  rw [c2] at he
                  subst he
                  clear hbx
                  go_wp2_with fail
                  refine hK.out _ _ (by with_reducible exact hS.out _ hc12) (fun hHeld => ?_)
                  clear hK K
                  try simp only [Act.put, List.setIfInBounds_toArray, List.set_cons_zero, List.set_cons_succ]
                  refine wpAnyH_take (i := 8) (oi := { dst := some 125, op := Op.pick (Operand.tmp 120) (Operand.tmp 124) (Operand.const (Value.bool false)), type := 4, pos := "locks.go:120", after := #[{ on := 3, ground := Ground.data }, { on := 7, ground := Ground.data }], guard := none }) (v := ?vv94) rfl (by kernel_rfl) (by kernel_rfl) (by kernel_rfl) (fun _ _ _ h => h) (Or.inl ⟨by rfl, ?hyy94⟩) (by assumption) ?rest94
                  case hyy94 => ((intro w hSw); (try dsimp only at hSw); go_simp; (try with_reducible rfl))
                  try simp only [Act.put, List.setIfInBounds_toArray, List.set_cons_zero, List.set_cons_succ]
                  refine wpAnyH_take (i := 9) (oi := { dst := some 126, op := Op.move (Operand.tmp 125), type := 4, pos := "locks.go:120", after := #[{ on := 8, ground := Ground.data }, { on := 7, ground := Ground.chain }], guard := none }) (v := ?vv95) rfl (by kernel_rfl) (by kernel_rfl) (by kernel_rfl) (fun _ _ _ h => h) (Or.inl ⟨by rfl, ?hyy95⟩) (by assumption) ?rest95
                  case hyy95 => ((intro w hSw); (try dsimp only at hSw); go_simp; (try with_reducible rfl))
                  try simp only [Act.put, List.setIfInBounds_toArray, List.set_cons_zero, List.set_cons_succ]
                  refine wpAnyH_take (i := 10) (oi := { dst := some 127, op := Op.move (Operand.tmp 0), type := 24, pos := "locks.go:120", after := #[{ on := 9, ground := Ground.guard }], guard := some (9, true) }) (v := ?vv96) rfl (by kernel_rfl) (by kernel_rfl) (by kernel_rfl) (fun _ _ _ h => h) (Or.inl ⟨by rfl, ?hyy96⟩) (by assumption) ?rest96
                  case hyy96 => ((intro w hSw); (try dsimp only at hSw); go_simp; (try with_reducible rfl))
                  try simp only [Act.put, List.setIfInBounds_toArray, List.set_cons_zero, List.set_cons_succ]
                  refine wpAnyH_take (i := 11) (oi := { dst := some 128, op := Op.nilCheck (Operand.tmp 127), type := 0, pos := "locks.go:120", after := #[{ on := 10, ground := Ground.data }, { on := 9, ground := Ground.guard }], guard := some (9, true) }) (v := ?vv97) rfl (by kernel_rfl) (by kernel_rfl) (by kernel_rfl) (fun _ _ _ h => h) (Or.inl ⟨by rfl, ?hyy97⟩) (by assumption) ?rest97
                  case hyy97 => ((intro w hSw); (try dsimp only at hSw); go_simp; (try with_reducible rfl))
                  try simp only [Act.put, List.setIfInBounds_toArray, List.set_cons_zero, List.set_cons_succ]
                  refine wpAnyH_take (i := 12) (oi := { dst := some 129, op := Op.fieldAddr 59 (Operand.tmp 128) 3, type := 0, pos := "locks.go:120", after := #[{ on := 11, ground := Ground.data }, { on := 9, ground := Ground.guard }], guard := some (9, true) }) (v := ?vv98) rfl (by kernel_rfl) (by kernel_rfl) (by kernel_rfl) (fun _ _ _ h => h) (Or.inl ⟨by rfl, ?hyy98⟩) (by assumption) ?rest98
                  case hyy98 => ((intro w hSw); (try dsimp only at hSw); go_simp; (try with_reducible rfl))
                  try simp only [Act.put, List.setIfInBounds_toArray, List.set_cons_zero, List.set_cons_succ]
                  refine wpAnyH_take (i := 13) (oi := { dst := some 130, op := Op.load 26 (Operand.tmp 129), type := 26, pos := "locks.go:120", after := #[{ on := 12, ground := Ground.data }, { on := 9, ground := Ground.guard }], guard := some (9, true) }) (v := ?vv99) rfl (by kernel_rfl) (by kernel_rfl) (by kernel_rfl) (fun _ _ _ h => h) (Or.inl ⟨by rfl, ?hyy99⟩) (by assumption) ?rest99
                  case hyy99 => ((intro w hSw); (try dsimp only at hSw); go_simp; (try with_reducible rfl))
                  try simp only [Act.put, List.setIfInBounds_toArray, List.set_cons_zero, List.set_cons_succ]
                  refine wpAnyH_take (i := 14) (oi := { dst := some 131, op := Op.fieldAddr 39 (Operand.tmp 18) 1, type := 0, pos := "locks.go:120", after := #[{ on := 9, ground := Ground.guard }], guard := some (9, true) }) (v := ?vv100) rfl (by kernel_rfl) (by kernel_rfl) (by kernel_rfl) (fun _ _ _ h => h) (Or.inl ⟨by rfl, ?hyy100⟩) (by assumption) ?rest100
                  case hyy100 => ((intro w hSw); (try dsimp only at hSw); go_simp; (try with_reducible rfl))
                  try simp only [Act.put, List.setIfInBounds_toArray, List.set_cons_zero, List.set_cons_succ]
                  refine wpAnyH_take (i := 15) (oi := { dst := some 132, op := Op.load 34 (Operand.tmp 131), type := 34, pos := "locks.go:120", after := #[{ on := 14, ground := Ground.data }, { on := 9, ground := Ground.guard }], guard := some (9, true) }) (v := ?vv101) rfl (by kernel_rfl) (by kernel_rfl) (by kernel_rfl) (fun _ _ _ h => h) (Or.inl ⟨by rfl, ?hyy101⟩) (by assumption) ?rest101
                  case hyy101 => ((intro w hSw); (try dsimp only at hSw); go_simp; (try with_reducible rfl))
                  try simp only [Act.put, List.setIfInBounds_toArray, List.set_cons_zero, List.set_cons_succ]
                  refine wpAnyH_ready (rs := [16]) (by kernel_rfl) (by simp) ?_
                  refine AllReadyH.cons (o := { dst := some 133, op := Op.call { callee := Callee.value (Operand.func 29), args := #[Operand.tmp 130, Operand.tmp 132], argTypes := #[26, 34] }, type := 4, pos := "locks.go:120", after := #[{ on := 13, ground := Ground.data }, { on := 15, ground := Ground.data }, { on := 9, ground := Ground.chain }, { on := 9, ground := Ground.guard }], guard := some (9, true) }) rfl (fun K hK => ?_) ?_
                  ·
                    go_simp
                    go_at_call 29
                    refine (HP3.out _ hc12).mono ?_
                    rintro e w13 ⟨he, hbx⟩
                    have hc13 : Below w6.heap.size w6 w13 := hc12.trans (hbx.mono hc12.size)
                    rw [c3] at he
                    subst he
                    clear hbx
                    go_wp2_with fail
                    refine hK.out _ _ (by with_reducible exact hS.out _ hc13) (fun hHeld => ?_)
                    clear hK K
                    try simp only [Act.put, List.setIfInBounds_toArray, List.set_cons_zero, List.set_cons_succ]
                    refine wpAnyH_take (i := 17) (oi := { dst := some 134, op := Op.unOp UnOp.not 4 (Operand.tmp 133), type := 4, pos := "locks.go:120", after := #[{ on := 16, ground := Ground.data }, { on := 9, ground := Ground.guard }], guard := some (9, true) }) (v := ?vv102) rfl (by kernel_rfl) (by kernel_rfl) (by kernel_rfl) (fun _ _ _ h => h) (Or.inl ⟨by rfl, ?hyy102⟩) (by assumption) ?rest102
                    case hyy102 => ((intro w hSw); (try dsimp only at hSw); go_simp; (try with_reducible rfl))
                    try simp only [Act.put, List.setIfInBounds_toArray, List.set_cons_zero, List.set_cons_succ]
                    refine wpAnyH_take (i := 18) (oi := { dst := some 135, op := Op.pick (Operand.tmp 126) (Operand.tmp 134) (Operand.const (Value.bool false)), type := 4, pos := "locks.go:120", after := #[{ on := 9, ground := Ground.data }, { on := 17, ground := Ground.data }], guard := none }) (v := ?vv103) rfl (by kernel_rfl) (by kernel_rfl) (by kernel_rfl) (fun _ _ _ h => h) (Or.inl ⟨by rfl, ?hyy103⟩) (by assumption) ?rest103
                    case hyy103 => ((intro w hSw); (try dsimp only at hSw); go_simp; (try with_reducible rfl))
                    try simp only [Act.put, List.setIfInBounds_toArray, List.set_cons_zero, List.set_cons_succ]
                    refine wpAnyH_take (i := 19) (oi := { dst := some 136, op := Op.move (Operand.tmp 135), type := 4, pos := "locks.go:120", after := #[{ on := 18, ground := Ground.data }, { on := 16, ground := Ground.chain }], guard := none }) (v := ?vv104) rfl (by kernel_rfl) (by kernel_rfl) (by kernel_rfl) (fun _ _ _ h => h) (Or.inl ⟨by rfl, ?hyy104⟩) (by assumption) ?rest104
                    case hyy104 => ((intro w hSw); (try dsimp only at hSw); go_simp; (try with_reducible rfl))
                    try simp only [Act.put, List.setIfInBounds_toArray, List.set_cons_zero, List.set_cons_succ]
                    refine wpAnyH_take (i := 20) (oi := { dst := some 137, op := Op.move (Operand.tmp 0), type := 24, pos := "locks.go:120", after := #[{ on := 19, ground := Ground.guard }], guard := some (19, true) }) (v := ?vv105) rfl (by kernel_rfl) (by kernel_rfl) (by kernel_rfl) (fun _ _ _ h => h) (Or.inl ⟨by rfl, ?hyy105⟩) (by assumption) ?rest105
                    case hyy105 => ((intro w hSw); (try dsimp only at hSw); go_simp; (try with_reducible rfl))
                    try simp only [Act.put, List.setIfInBounds_toArray, List.set_cons_zero, List.set_cons_succ]
                    refine wpAnyH_take (i := 21) (oi := { dst := some 138, op := Op.nilCheck (Operand.tmp 137), type := 0, pos := "locks.go:120", after := #[{ on := 20, ground := Ground.data }, { on := 19, ground := Ground.guard }], guard := some (19, true) }) (v := ?vv106) rfl (by kernel_rfl) (by kernel_rfl) (by kernel_rfl) (fun _ _ _ h => h) (Or.inl ⟨by rfl, ?hyy106⟩) (by assumption) ?rest106
                    case hyy106 => ((intro w hSw); (try dsimp only at hSw); go_simp; (try with_reducible rfl))
                    try simp only [Act.put, List.setIfInBounds_toArray, List.set_cons_zero, List.set_cons_succ]
                    refine wpAnyH_take (i := 22) (oi := { dst := some 139, op := Op.fieldAddr 59 (Operand.tmp 138) 4, type := 0, pos := "locks.go:120", after := #[{ on := 21, ground := Ground.data }, { on := 19, ground := Ground.guard }], guard := some (19, true) }) (v := ?vv107) rfl (by kernel_rfl) (by kernel_rfl) (by kernel_rfl) (fun _ _ _ h => h) (Or.inl ⟨by rfl, ?hyy107⟩) (by assumption) ?rest107
                    case hyy107 => ((intro w hSw); (try dsimp only at hSw); go_simp; (try with_reducible rfl))
                    try simp only [Act.put, List.setIfInBounds_toArray, List.set_cons_zero, List.set_cons_succ]
                    refine wpAnyH_take (i := 23) (oi := { dst := some 140, op := Op.load 26 (Operand.tmp 139), type := 26, pos := "locks.go:120", after := #[{ on := 22, ground := Ground.data }, { on := 19, ground := Ground.guard }], guard := some (19, true) }) (v := ?vv108) rfl (by kernel_rfl) (by kernel_rfl) (by kernel_rfl) (fun _ _ _ h => h) (Or.inl ⟨by rfl, ?hyy108⟩) (by assumption) ?rest108
                    case hyy108 => ((intro w hSw); (try dsimp only at hSw); go_simp; (try with_reducible rfl))
                    try simp only [Act.put, List.setIfInBounds_toArray, List.set_cons_zero, List.set_cons_succ]
                    refine wpAnyH_take (i := 24) (oi := { dst := some 141, op := Op.fieldAddr 39 (Operand.tmp 18) 1, type := 0, pos := "locks.go:120", after := #[{ on := 19, ground := Ground.guard }], guard := some (19, true) }) (v := ?vv109) rfl (by kernel_rfl) (by kernel_rfl) (by kernel_rfl) (fun _ _ _ h => h) (Or.inl ⟨by rfl, ?hyy109⟩) (by assumption) ?rest109
                    case hyy109 => ((intro w hSw); (try dsimp only at hSw); go_simp; (try with_reducible rfl))
                    try simp only [Act.put, List.setIfInBounds_toArray, List.set_cons_zero, List.set_cons_succ]
                    refine wpAnyH_take (i := 25) (oi := { dst := some 142, op := Op.load 34 (Operand.tmp 141), type := 34, pos := "locks.go:120", after := #[{ on := 24, ground := Ground.data }, { on := 19, ground := Ground.guard }], guard := some (19, true) }) (v := ?vv110) rfl (by kernel_rfl) (by kernel_rfl) (by kernel_rfl) (fun _ _ _ h => h) (Or.inl ⟨by rfl, ?hyy110⟩) (by assumption) ?rest110
                    case hyy110 => ((intro w hSw); (try dsimp only at hSw); go_simp; (try with_reducible rfl))
                    try simp only [Act.put, List.setIfInBounds_toArray, List.set_cons_zero, List.set_cons_succ]
                    refine wpAnyH_ready (rs := [26]) (by kernel_rfl) (by simp) ?_
                    refine AllReadyH.cons (o := { dst := some 143, op := Op.call { callee := Callee.value (Operand.func 29), args := #[Operand.tmp 140, Operand.tmp 142], argTypes := #[26, 34] }, type := 4, pos := "locks.go:120", after := #[{ on := 23, ground := Ground.data }, { on := 25, ground := Ground.data }, { on := 19, ground := Ground.chain }, { on := 19, ground := Ground.guard }], guard := some (19, true) }) rfl (fun K hK => ?_) ?_
                    ·
                      go_simp
                      go_at_call 29
                      refine (HP4.out _ hc13).mono ?_
                      rintro e w14 ⟨he, hbx⟩
                      have hc14 : Below w6.heap.size w6 w14 := hc13.trans (hbx.mono hc13.size)
                      rw [c4] at he
                      subst he
                      clear hbx
                      go_wp2_with fail
                      refine hK.out _ _ (by with_reducible exact hS.out _ hc14) (fun hHeld => ?_)
                      clear hK K
                      try simp only [Act.put, List.setIfInBounds_toArray, List.set_cons_zero, List.set_cons_succ]
                      refine wpAnyH_take (i := 27) (oi := { dst := some 144, op := Op.unOp UnOp.not 4 (Operand.tmp 143), type := 4, pos := "locks.go:120", after := #[{ on := 26, ground := Ground.data }, { on := 19, ground := Ground.guard }], guard := some (19, true) }) (v := ?vv111) rfl (by kernel_rfl) (by kernel_rfl) (by kernel_rfl) (fun _ _ _ h => h) (Or.inl ⟨by rfl, ?hyy111⟩) (by assumption) ?rest111
                      case hyy111 => ((intro w hSw); (try dsimp only at hSw); go_simp; (try with_reducible rfl))
                      try simp only [Act.put, List.setIfInBounds_toArray, List.set_cons_zero, List.set_cons_succ]
                      refine wpAnyH_take (i := 28) (oi := { dst := some 145, op := Op.pick (Operand.tmp 136) (Operand.tmp 144) (Operand.const (Value.bool false)), type := 4, pos := "locks.go:120", after := #[{ on := 19, ground := Ground.data }, { on := 27, ground := Ground.data }], guard := none }) (v := ?vv112) rfl (by kernel_rfl) (by kernel_rfl) (by kernel_rfl) (fun _ _ _ h => h) (Or.inl ⟨by rfl, ?hyy112⟩) (by assumption) ?rest112
                      case hyy112 => ((intro w hSw); (try dsimp only at hSw); go_simp; (try with_reducible rfl))
                      try simp only [Act.put, List.setIfInBounds_toArray, List.set_cons_zero, List.set_cons_succ]
                      refine wpAnyH_done (by kernel_rfl) ?_ _
                      have HX := Lib.hid (HA6.out.more hc14)
                      have HK8 := Lib.hid (HK86.out.below hc14 HK86.out.lt)
                      have HP8 := Lib.hid (show w.heap.size ≤ p8 ∧ p8 ∉ ob A ∧ p8 ∉ fpT d m' from HP86.out)
                      have HVE := Lib.hid (show vk q x (k + 1) = V ++ [l.id] from by rw [HVON.out, HV.out]; rfl)
                      have HVI := Lib.hid (show ins ol l.id V = V ++ [l.id] from ins_end HLT.out)
                      clear hHeld hc10 hc11 hc12 hc13 hc14 hS HCF HOL HP3 HP4
                      have x81 : w14.cell? ⟨p8, 1, none⟩ = some (.int .i64 l.id.n) := HK8.out.cell 1
                      have x82 : w14.cell? ⟨p8, 2, none⟩ = some (.int .i64 l.id.c) := HK8.out.cell 2
                      have HMK := Lib.hid (mark_any A c V l.id w14 HX.out.own HSV.out (by have := HLV.out; have := HH.out.fh; omega))
                      unfold InsAtI idV at HMK
                      rw [HVI.out] at HMK
                      go_wp2_with fail
                      refine HMK.out.mono ?_
                      clear HMK
                      rintro e w15 ⟨A1, c1, rfl, ho, hm⟩
                      have HO15 := Lib.hid ho
                      have HM15 := Lib.hid hm
                      have HT15 := Lib.hid (HX.out.tb8 hm)
                      have HK15 := Lib.hid (hm.kept.blk HK8.out HP8.out.2.1)
                      clear ho hm x81 x82
                      go_upto_region 27 with fail
                      have HTD := Lib.hid (HT15.out.below (below_drewN (Below.refl _ _) 1 : Below w15.heap.size w15 w15.drew))
                      have HKD := Lib.hid (HK15.out.below (below_drewN (Below.refl _ _) 1 : Below w15.heap.size w15 w15.drew) HK15.out.lt)
                      have hS : w15.drew.cell? ⟨p8, 0, none⟩ = some (.string l.key) ∧ w15.drew.cell? ⟨p8, 1, none⟩ = some (.int .i64 l.id.n) ∧ w15.drew.cell? ⟨p8, 2, none⟩ = some (.int .i64 l.id.c) ∧ w15.drew.cell? ⟨p8, 3, none⟩ = some (.int .i64 l.mode) ∧ w15.drew.cell? ⟨d, 4, none⟩ = some (.slice m'.au (addAll q.hurt V).length m'.cu) := ⟨HKD.out.cell 0, HKD.out.cell 1, HKD.out.cell 2, HKD.out.cell 3, HTD.out.c4⟩
                      have HMK := Lib.hid (mark_any m'.au m'.cu (addAll q.hurt V) l.id w15.drew HTD.out.ou HTD.out.good.su (by have := HLU.out; omega))
                      unfold InsAtI idV at HMK
                      rw [← addAll_on] at HMK
                      refine wp_region_last_held (S := fun w' => w'.cell? ⟨p8, 0, none⟩ = some (.string l.key) ∧ w'.cell? ⟨p8, 1, none⟩ = some (.int .i64 l.id.n) ∧ w'.cell? ⟨p8, 2, none⟩ = some (.int .i64 l.id.c) ∧ w'.cell? ⟨p8, 3, none⟩ = some (.int .i64 l.mode) ∧ w'.cell? ⟨d, 4, none⟩ = some (.slice m'.au (addAll q.hurt V).length m'.cu)) (ops := #[{ dst := some 150, op := Op.move (Operand.tmp 0), type := 24, pos := "locks.go:122", after := #[], guard := none }, { dst := some 151, op := Op.move (Operand.tmp 0), type := 24, pos := "locks.go:122", after := #[], guard := none }, { dst := some 152, op := Op.nilCheck (Operand.tmp 151), type := 0, pos := "locks.go:122", after := #[{ on := 1, ground := Ground.data }], guard := none }, { dst := some 153, op := Op.fieldAddr 59 (Operand.tmp 152) 4, type := 0, pos := "locks.go:122", after := #[{ on := 2, ground := Ground.data }], guard := none }, { dst := some 154, op := Op.load 26 (Operand.tmp 153), type := 26, pos := "locks.go:122", after := #[{ on := 3, ground := Ground.data }], guard := none }, { dst := some 155, op := Op.fieldAddr 39 (Operand.tmp 18) 1, type := 0, pos := "locks.go:122", after := #[], guard := none }, { dst := some 156, op := Op.load 34 (Operand.tmp 155), type := 34, pos := "locks.go:122", after := #[{ on := 5, ground := Ground.data }], guard := none }, { dst := some 157, op := Op.call { callee := Callee.value (Operand.func 35), args := #[Operand.tmp 154, Operand.tmp 156], argTypes := #[26, 34] }, type := 26, pos := "locks.go:122", after := #[{ on := 4, ground := Ground.data }, { on := 6, ground := Ground.data }], guard := none }, { dst := some 158, op := Op.nilCheck (Operand.tmp 150), type := 0, pos := "locks.go:122", after := #[{ on := 0, ground := Ground.data }, { on := 0, ground := Ground.phase }, { on := 1, ground := Ground.phase }, { on := 2, ground := Ground.phase }, { on := 3, ground := Ground.phase }, { on := 4, ground := Ground.phase }, { on := 5, ground := Ground.phase }, { on := 6, ground := Ground.phase }, { on := 7, ground := Ground.phase }], guard := none }, { dst := some 159, op := Op.fieldAddr 59 (Operand.tmp 158) 4, type := 0, pos := "locks.go:122", after := #[{ on := 8, ground := Ground.data }, { on := 0, ground := Ground.phase }, { on := 1, ground := Ground.phase }, { on := 2, ground := Ground.phase }, { on := 3, ground := Ground.phase }, { on := 4, ground := Ground.phase }, { on := 5, ground := Ground.phase }, { on := 6, ground := Ground.phase }, { on := 7, ground := Ground.phase }], guard := none }]) (o := { dst := none, op := Op.store 26 (Operand.tmp 159) (Operand.tmp 157), type := 0, pos := "locks.go:122", after := #[{ on := 9, ground := Ground.data }, { on := 7, ground := Ground.data }, { on := 7, ground := Ground.chain }, { on := 0, ground := Ground.phase }, { on := 1, ground := Ground.phase }, { on := 2, ground := Ground.phase }, { on := 3, ground := Ground.phase }, { on := 4, ground := Ground.phase }, { on := 5, ground := Ground.phase }, { on := 6, ground := Ground.phase }, { on := 7, ground := Ground.phase }], guard := none }) rfl (by kernel_rfl) (by kernel_rfl) (by kernel_rfl) hS (fun hHeld => ?_)
                      refine wpAnyH_take (i := 0) (oi := { dst := some 150, op := Op.move (Operand.tmp 0), type := 24, pos := "locks.go:122", after := #[], guard := none }) (v := ?vv79) rfl (by kernel_rfl) (by kernel_rfl) (by kernel_rfl) (fun _ _ _ h => h) (Or.inl ⟨by rfl, ?hyy79⟩) (by assumption) ?rest79
                      case hyy79 => ((intro w hSw); (try dsimp only at hSw); go_simp; (try with_reducible rfl))
                      try simp only [Act.put, List.setIfInBounds_toArray, List.set_cons_zero, List.set_cons_succ]
                      refine wpAnyH_take (i := 1) (oi := { dst := some 151, op := Op.move (Operand.tmp 0), type := 24, pos := "locks.go:122", after := #[], guard := none }) (v := ?vv80) rfl (by kernel_rfl) (by kernel_rfl) (by kernel_rfl) (fun _ _ _ h => h) (Or.inl ⟨by rfl, ?hyy80⟩) (by assumption) ?rest80
                      case hyy80 => ((intro w hSw); (try dsimp only at hSw); go_simp; (try with_reducible rfl))
                      try simp only [Act.put, List.setIfInBounds_toArray, List.set_cons_zero, List.set_cons_succ]
                      refine wpAnyH_take (i := 2) (oi := { dst := some 152, op := Op.nilCheck (Operand.tmp 151), type := 0, pos := "locks.go:122", after := #[{ on := 1, ground := Ground.data }], guard := none }) (v := ?vv81) rfl (by kernel_rfl) (by kernel_rfl) (by kernel_rfl) (fun _ _ _ h => h) (Or.inl ⟨by rfl, ?hyy81⟩) (by assumption) ?rest81
                      case hyy81 => ((intro w hSw); (try dsimp only at hSw); go_simp; (try with_reducible rfl))
                      try simp only [Act.put, List.setIfInBounds_toArray, List.set_cons_zero, List.set_cons_succ]
                      refine wpAnyH_take (i := 3) (oi := { dst := some 153, op := Op.fieldAddr 59 (Operand.tmp 152) 4, type := 0, pos := "locks.go:122", after := #[{ on := 2, ground := Ground.data }], guard := none }) (v := ?vv82) rfl (by kernel_rfl) (by kernel_rfl) (by kernel_rfl) (fun _ _ _ h => h) (Or.inl ⟨by rfl, ?hyy82⟩) (by assumption) ?rest82
                      case hyy82 => ((intro w hSw); (try dsimp only at hSw); go_simp; (try with_reducible rfl))
                      try simp only [Act.put, List.setIfInBounds_toArray, List.set_cons_zero, List.set_cons_succ]
                      refine wpAnyH_take (i := 4) (oi := { dst := some 154, op := Op.load 26 (Operand.tmp 153), type := 26, pos := "locks.go:122", after := #[{ on := 3, ground := Ground.data }], guard := none }) (v := ?vv83) rfl (by kernel_rfl) (by kernel_rfl) (by kernel_rfl) (fun _ _ _ h => h) (Or.inl ⟨by rfl, ?hyy83⟩) (by assumption) ?rest83
                      case hyy83 => ((intro w hSw); (try dsimp only at hSw); go_simp; (try with_reducible rfl))
                      try simp only [Act.put, List.setIfInBounds_toArray, List.set_cons_zero, List.set_cons_succ]
                      refine wpAnyH_take (i := 5) (oi := { dst := some 155, op := Op.fieldAddr 39 (Operand.tmp 18) 1, type := 0, pos := "locks.go:122", after := #[], guard := none }) (v := ?vv84) rfl (by kernel_rfl) (by kernel_rfl) (by kernel_rfl) (fun _ _ _ h => h) (Or.inl ⟨by rfl, ?hyy84⟩) (by assumption) ?rest84
                      case hyy84 => ((intro w hSw); (try dsimp only at hSw); go_simp; (try with_reducible rfl))
                      try simp only [Act.put, List.setIfInBounds_toArray, List.set_cons_zero, List.set_cons_succ]
                      refine wpAnyH_take (i := 6) (oi := { dst := some 156, op := Op.load 34 (Operand.tmp 155), type := 34, pos := "locks.go:122", after := #[{ on := 5, ground := Ground.data }], guard := none }) (v := ?vv85) rfl (by kernel_rfl) (by kernel_rfl) (by kernel_rfl) (fun _ _ _ h => h) (Or.inl ⟨by rfl, ?hyy85⟩) (by assumption) ?rest85
                      case hyy85 => ((intro w hSw); (try dsimp only at hSw); go_simp; (try with_reducible rfl))
                      try simp only [Act.put, List.setIfInBounds_toArray, List.set_cons_zero, List.set_cons_succ]
                      refine wpAnyH_ready (rs := [7]) (by kernel_rfl) (by simp) ?_
                      refine AllReadyH.cons (o := { dst := some 157, op := Op.call { callee := Callee.value (Operand.func 35), args := #[Operand.tmp 154, Operand.tmp 156], argTypes := #[26, 34] }, type := 26, pos := "locks.go:122", after := #[{ on := 4, ground := Ground.data }, { on := 6, ground := Ground.data }], guard := none }) rfl (fun K hK => ?_) ?_
                      ·
                        go_simp
                        go_at_call 35
                        refine HMK.out.mono ?_
                        rintro e w16 ⟨A2, c2, rfl, ho, hm⟩
                        have HO16 := Lib.hid ho
                        have HM16 := Lib.hid hm
                        clear ho hm
                        have hc8 : w16.cell? ⟨p8, 0, none⟩ = some (.string l.key) ∧ w16.cell? ⟨p8, 1, none⟩ = some (.int .i64 l.id.n) ∧ w16.cell? ⟨p8, 2, none⟩ = some (.int .i64 l.id.c) ∧ w16.cell? ⟨p8, 3, none⟩ = some (.int .i64 l.mode) ∧ w16.cell? ⟨d, 4, none⟩ = some (.slice m'.au (addAll q.hurt V).length m'.cu) := by
                          have z1 := HM16.out.kept.blk HKD.out (fun hm => HP8.out.2.2 (by simp only [fpT, List.mem_cons, List.mem_append]; simp [hm]))
                          have z2 := HM16.out.kept.blk HTD.out.blk HTD.out.du
                          exact ⟨z1.cell 0, z1.cell 1, z1.cell 2, z1.cell 3, z2.cell 4⟩
                        have HD16 := Lib.hid (HM16.out.kept.blk HTD.out.blk HTD.out.du)
                        go_wp2_with fail
                        refine hK.out _ _ (hc8) (fun hHeld => ?_)
                        clear hK K
                        try simp only [Act.put, List.setIfInBounds_toArray, List.set_cons_zero, List.set_cons_succ]
                        refine wpAnyH_take (i := 8) (oi := { dst := some 158, op := Op.nilCheck (Operand.tmp 150), type := 0, pos := "locks.go:122", after := #[{ on := 0, ground := Ground.data }, { on := 0, ground := Ground.phase }, { on := 1, ground := Ground.phase }, { on := 2, ground := Ground.phase }, { on := 3, ground := Ground.phase }, { on := 4, ground := Ground.phase }, { on := 5, ground := Ground.phase }, { on := 6, ground := Ground.phase }, { on := 7, ground := Ground.phase }], guard := none }) (v := ?vv86) rfl (by kernel_rfl) (by kernel_rfl) (by kernel_rfl) (fun _ _ _ h => h) (Or.inl ⟨by rfl, ?hyy86⟩) (by assumption) ?rest86
                        case hyy86 => ((intro w hSw); (try dsimp only at hSw); go_simp; (try with_reducible rfl))
                        try simp only [Act.put, List.setIfInBounds_toArray, List.set_cons_zero, List.set_cons_succ]
                        refine wpAnyH_take (i := 9) (oi := { dst := some 159, op := Op.fieldAddr 59 (Operand.tmp 158) 4, type := 0, pos := "locks.go:122", after := #[{ on := 8, ground := Ground.data }, { on := 0, ground := Ground.phase }, { on := 1, ground := Ground.phase }, { on := 2, ground := Ground.phase }, { on := 3, ground := Ground.phase }, { on := 4, ground := Ground.phase }, { on := 5, ground := Ground.phase }, { on := 6, ground := Ground.phase }, { on := 7, ground := Ground.phase }], guard := none }) (v := ?vv87) rfl (by kernel_rfl) (by kernel_rfl) (by kernel_rfl) (fun _ _ _ h => h) (Or.inl ⟨by rfl, ?hyy87⟩) (by assumption) ?rest87
                        case hyy87 => ((intro w hSw); (try dsimp only at hSw); go_simp; (try with_reducible rfl))
                        try simp only [Act.put, List.setIfInBounds_toArray, List.set_cons_zero, List.set_cons_succ]
                        refine wpAnyH_done (by kernel_rfl) ?_ _
                        have f4 := HD16.out.frozen 4
                        have z4 := hHeld.2.2.2.2
                        have HF := Lib.hid (HTD.out.setU HO16.out HM16.out (by have := HTD.out.good; exact ⟨this.sh, this.sw, this.sp, srt_addAll HH.out.good.su, this.hs, this.ws⟩) ⟨HH.out.fm.1, by have := addAll_len (V ++ [l.id]) q.hurt; have := HU.out; have := HLV.out; have := HH.out.fh; simp only [List.length_append, List.length_singleton] at *; omega⟩)
                        have HNX := Lib.hid (HX.out.grow HM15.out HO15.out HF.out.1 (Moves.below_left (below_drewN (Below.refl _ _) 1) HF.out.2) ⟨rfl, rfl⟩)
                        refine withLast_go (fun K hK => ?_)
                        clear hHeld
                        go_simp
                        refine hK _ _ ?_
                        clear hK K f4 z4 HF
                        obtain ⟨w17, hw17⟩ : ∃ w17, w17 = w16.setCells d 4 [.slice A2 (addAll q.hurt (V ++ [l.id])).length c2] := ⟨_, rfl⟩
                        rw [← hw17] at HNX
                        have hw17b : w16.setCell ⟨d, 4, none⟩ (.slice A2 (addAll q.hurt (V ++ [l.id])).length c2) = w17 := hw17.symm
                        rw [hw17b]
                        clear hw17 hw17b
                        go_wp2
                        go_roundw
                        case rel =>
                          have HNX2 := HNX.out
                          rw [← HVE.out] at HNX2
                          exact ⟨k + 1, A1, c1, _, by go_num, by omega, by rw [HVE.out]; simp, HNX2⟩
                        case measure => simp [intOf]; omega
                      exact AllReadyH.nil
                    exact AllReadyH.nil
                  exact AllReadyH.nil
                exact AllReadyH.nil
              exact AllReadyH.nil
          ·
            have HE : Hid (vk q x k = victims q x) := Lib.hid (by rw [show k = q.held.length by omega, vk_all])
            rw [HE.out] at HA
            rw [HE.out]
            clear HE
            have x20 : wr.cell? ⟨p2, 0, none⟩ = some (.string x.key) := HA.out.b2.cell 0
            have x21 : wr.cell? ⟨p2, 1, none⟩ = some (.int .i64 x.id.n) := HA.out.b2.cell 1
            have x22 : wr.cell? ⟨p2, 2, none⟩ = some (.int .i64 x.id.c) := HA.out.b2.cell 2
            have x23 : wr.cell? ⟨p2, 3, none⟩ = some (.int .i64 x.mode) := HA.out.b2.cell 3
            have HFR := Lib.hid (free_any HA.out.tb x)
            rw [show freeB (hurtT q (victims q x)) x = freeB q x from rfl] at HFR
            unfold BoolIs lkV at HFR
            go_wp2_with fail
            refine HFR.out.mono ?_
            clear HFR
            rintro e w7 ⟨he, hb⟩
            clear x20 x21 x22 x23
            cases cf : freeB q x with
            | true =>
              rw [cf] at he
              subst he
              have HY := Lib.hid (ask_yes HM.out.none_ cf)
              clear cf
              have HA7 := Lib.hid (HA.out.more hb)
              clear hb HA
              go_upto_region 30 with fail
              have HAD := Lib.hid (HA7.out.more (below_drewN (Below.refl _ _) 1 : Below w7.heap.size w7 w7.drew))
              clear HA7
              have HTD := Lib.hid (show TbAt w7.drew d (hurtT q (victims q x)) m' from HAD.out.tb)
              have hS : w7.drew.cell? ⟨p2, 0, none⟩ = some (.string x.key) ∧ w7.drew.cell? ⟨p2, 1, none⟩ = some (.int .i64 x.id.n) ∧ w7.drew.cell? ⟨p2, 2, none⟩ = some (.int .i64 x.id.c) ∧ w7.drew.cell? ⟨p2, 3, none⟩ = some (.int .i64 x.mode) ∧ w7.drew.cell? ⟨d, 1, none⟩ = some (.slice m'.ah q.held.length m'.ch) := ⟨HAD.out.b2.cell 0, HAD.out.b2.cell 1, HAD.out.b2.cell 2, HAD.out.b2.cell 3, HTD.out.c1⟩
              have HPT := Lib.hid (put_any m'.ah m'.ch q.held x w7.drew HTD.out.oh HTD.out.good.sh (by have := HH.out.fh; omega))
              unfold InsAtL lkV at HPT
              refine wp_region_last_held (S := fun w' => w'.cell? ⟨p2, 0, none⟩ = some (.string x.key) ∧ w'.cell? ⟨p2, 1, none⟩ = some (.int .i64 x.id.n) ∧ w'.cell? ⟨p2, 2, none⟩ = some (.int .i64 x.id.c) ∧ w'.cell? ⟨p2, 3, none⟩ = some (.int .i64 x.mode) ∧ w'.cell? ⟨d, 1, none⟩ = some (.slice m'.ah q.held.length m'.ch)) (ops := #[{ dst := some 164, op := Op.move (Operand.tmp 0), type := 24, pos := "locks.go:126", after := #[], guard := none }, { dst := some 165, op := Op.move (Operand.tmp 0), type := 24, pos := "locks.go:126", after := #[], guard := none }, { dst := some 166, op := Op.nilCheck (Operand.tmp 165), type := 0, pos := "locks.go:126", after := #[{ on := 1, ground := Ground.data }], guard := none }, { dst := some 167, op := Op.fieldAddr 59 (Operand.tmp 166) 1, type := 0, pos := "locks.go:126", after := #[{ on := 2, ground := Ground.data }], guard := none }, { dst := some 168, op := Op.load 28 (Operand.tmp 167), type := 28, pos := "locks.go:126", after := #[{ on := 3, ground := Ground.data }], guard := none }, { dst := some 169, op := Op.load 39 (Operand.tmp 10), type := 39, pos := "locks.go:126", after := #[], guard := none }, { dst := some 170, op := Op.call { callee := Callee.value (Operand.func 37), args := #[Operand.tmp 168, Operand.tmp 169], argTypes := #[28, 39] }, type := 28, pos := "locks.go:126", after := #[{ on := 4, ground := Ground.data }, { on := 5, ground := Ground.data }], guard := none }, { dst := some 171, op := Op.nilCheck (Operand.tmp 164), type := 0, pos := "locks.go:126", after := #[{ on := 0, ground := Ground.data }, { on := 0, ground := Ground.phase }, { on := 1, ground := Ground.phase }, { on := 2, ground := Ground.phase }, { on := 3, ground := Ground.phase }, { on := 4, ground := Ground.phase }, { on := 5, ground := Ground.phase }, { on := 6, ground := Ground.phase }], guard := none }, { dst := some 172, op := Op.fieldAddr 59 (Operand.tmp 171) 1, type := 0, pos := "locks.go:126", after := #[{ on := 7, ground := Ground.data }, { on := 0, ground := Ground.phase }, { on := 1, ground := Ground.phase }, { on := 2, ground := Ground.phase }, { on := 3, ground := Ground.phase }, { on := 4, ground := Ground.phase }, { on := 5, ground := Ground.phase }, { on := 6, ground := Ground.phase }], guard := none }]) (o := { dst := none, op := Op.store 28 (Operand.tmp 172) (Operand.tmp 170), type := 0, pos := "locks.go:126", after := #[{ on := 8, ground := Ground.data }, { on := 6, ground := Ground.data }, { on := 6, ground := Ground.chain }, { on := 0, ground := Ground.phase }, { on := 1, ground := Ground.phase }, { on := 2, ground := Ground.phase }, { on := 3, ground := Ground.phase }, { on := 4, ground := Ground.phase }, { on := 5, ground := Ground.phase }, { on := 6, ground := Ground.phase }], guard := none }) rfl (by kernel_rfl) (by kernel_rfl) (by kernel_rfl) hS (fun hHeld => ?_)
              refine wpAnyH_take (i := 0) (oi := { dst := some 164, op := Op.move (Operand.tmp 0), type := 24, pos := "locks.go:126", after := #[], guard := none }) (v := ?vv1) rfl (by kernel_rfl) (by kernel_rfl) (by kernel_rfl) (fun _ _ _ h => h) (Or.inl ⟨by rfl, ?hyy1⟩) (by assumption) ?rest1
              case hyy1 => ((intro w hSw); (try dsimp only at hSw); go_simp; (try with_reducible rfl))
              try simp only [Act.put, List.setIfInBounds_toArray, List.set_cons_zero, List.set_cons_succ]
              refine wpAnyH_take (i := 1) (oi := { dst := some 165, op := Op.move (Operand.tmp 0), type := 24, pos := "locks.go:126", after := #[], guard := none }) (v := ?vv2) rfl (by kernel_rfl) (by kernel_rfl) (by kernel_rfl) (fun _ _ _ h => h) (Or.inl ⟨by rfl, ?hyy2⟩) (by assumption) ?rest2
              case hyy2 => ((intro w hSw); (try dsimp only at hSw); go_simp; (try with_reducible rfl))
              try simp only [Act.put, List.setIfInBounds_toArray, List.set_cons_zero, List.set_cons_succ]
              refine wpAnyH_take (i := 2) (oi := { dst := some 166, op := Op.nilCheck (Operand.tmp 165), type := 0, pos := "locks.go:126", after := #[{ on := 1, ground := Ground.data }], guard := none }) (v := ?vv3) rfl (by kernel_rfl) (by kernel_rfl) (by kernel_rfl) (fun _ _ _ h => h) (Or.inl ⟨by rfl, ?hyy3⟩) (by assumption) ?rest3
              case hyy3 => ((intro w hSw); (try dsimp only at hSw); go_simp; (try with_reducible rfl))
              try simp only [Act.put, List.setIfInBounds_toArray, List.set_cons_zero, List.set_cons_succ]
              refine wpAnyH_take (i := 3) (oi := { dst := some 167, op := Op.fieldAddr 59 (Operand.tmp 166) 1, type := 0, pos := "locks.go:126", after := #[{ on := 2, ground := Ground.data }], guard := none }) (v := ?vv4) rfl (by kernel_rfl) (by kernel_rfl) (by kernel_rfl) (fun _ _ _ h => h) (Or.inl ⟨by rfl, ?hyy4⟩) (by assumption) ?rest4
              case hyy4 => ((intro w hSw); (try dsimp only at hSw); go_simp; (try with_reducible rfl))
              try simp only [Act.put, List.setIfInBounds_toArray, List.set_cons_zero, List.set_cons_succ]
              refine wpAnyH_take (i := 4) (oi := { dst := some 168, op := Op.load 28 (Operand.tmp 167), type := 28, pos := "locks.go:126", after := #[{ on := 3, ground := Ground.data }], guard := none }) (v := ?vv5) rfl (by kernel_rfl) (by kernel_rfl) (by kernel_rfl) (fun _ _ _ h => h) (Or.inl ⟨by rfl, ?hyy5⟩) (by assumption) ?rest5
              case hyy5 => ((intro w hSw); (try dsimp only at hSw); go_simp; (try with_reducible rfl))
              try simp only [Act.put, List.setIfInBounds_toArray, List.set_cons_zero, List.set_cons_succ]
              refine wpAnyH_take (i := 5) (oi := { dst := some 169, op := Op.load 39 (Operand.tmp 10), type := 39, pos := "locks.go:126", after := #[], guard := none }) (v := ?vv6) rfl (by kernel_rfl) (by kernel_rfl) (by kernel_rfl) (fun _ _ _ h => h) (Or.inl ⟨by rfl, ?hyy6⟩) (by assumption) ?rest6
              case hyy6 => ((intro w hSw); (try dsimp only at hSw); go_simp; (try with_reducible rfl))
              try simp only [Act.put, List.setIfInBounds_toArray, List.set_cons_zero, List.set_cons_succ]
              refine wpAnyH_ready (rs := [6]) (by kernel_rfl) (by simp) ?_
              refine AllReadyH.cons (o := { dst := some 170, op := Op.call { callee := Callee.value (Operand.func 37), args := #[Operand.tmp 168, Operand.tmp 169], argTypes := #[28, 39] }, type := 28, pos := "locks.go:126", after := #[{ on := 4, ground := Ground.data }, { on := 5, ground := Ground.data }], guard := none }) rfl (fun K hK => ?_) ?_
              ·
                go_simp
                go_at_call 37
                refine HPT.out.mono ?_
                rintro e w16 ⟨A2, c2, rfl, ho, hm⟩
                have HO16 := Lib.hid ho
                have HM16 := Lib.hid hm
                clear ho hm
                have hc8 : w16.cell? ⟨p2, 0, none⟩ = some (.string x.key) ∧ w16.cell? ⟨p2, 1, none⟩ = some (.int .i64 x.id.n) ∧ w16.cell? ⟨p2, 2, none⟩ = some (.int .i64 x.id.c) ∧ w16.cell? ⟨p2, 3, none⟩ = some (.int .i64 x.mode) ∧ w16.cell? ⟨d, 1, none⟩ = some (.slice m'.ah q.held.length m'.ch) := by
                  have z1 := HM16.out.kept.blk HAD.out.b2 (fun hm => HAD.out.bp.1.2 (by simp only [fpT, List.mem_cons, List.mem_append]; simp [hm]))
                  have z2 := HM16.out.kept.blk HTD.out.blk HTD.out.dh
                  exact ⟨z1.cell 0, z1.cell 1, z1.cell 2, z1.cell 3, z2.cell 1⟩
                have HD16 := Lib.hid (HM16.out.kept.blk HTD.out.blk HTD.out.dh)
                go_wp2_with fail
                refine hK.out _ _ (hc8) (fun hHeld => ?_)
                clear hK K
                try simp only [Act.put, List.setIfInBounds_toArray, List.set_cons_zero, List.set_cons_succ]
                refine wpAnyH_take (i := 7) (oi := { dst := some 171, op := Op.nilCheck (Operand.tmp 164), type := 0, pos := "locks.go:126", after := #[{ on := 0, ground := Ground.data }, { on := 0, ground := Ground.phase }, { on := 1, ground := Ground.phase }, { on := 2, ground := Ground.phase }, { on := 3, ground := Ground.phase }, { on := 4, ground := Ground.phase }, { on := 5, ground := Ground.phase }, { on := 6, ground := Ground.phase }], guard := none }) (v := ?vv7) rfl (by kernel_rfl) (by kernel_rfl) (by kernel_rfl) (fun _ _ _ h => h) (Or.inl ⟨by rfl, ?hyy7⟩) (by assumption) ?rest7
                case hyy7 => ((intro w hSw); (try dsimp only at hSw); go_simp; (try with_reducible rfl))
                try simp only [Act.put, List.setIfInBounds_toArray, List.set_cons_zero, List.set_cons_succ]
                refine wpAnyH_take (i := 8) (oi := { dst := some 172, op := Op.fieldAddr 59 (Operand.tmp 171) 1, type := 0, pos := "locks.go:126", after := #[{ on := 7, ground := Ground.data }, { on := 0, ground := Ground.phase }, { on := 1, ground := Ground.phase }, { on := 2, ground := Ground.phase }, { on := 3, ground := Ground.phase }, { on := 4, ground := Ground.phase }, { on := 5, ground := Ground.phase }, { on := 6, ground := Ground.phase }], guard := none }) (v := ?vv8) rfl (by kernel_rfl) (by kernel_rfl) (by kernel_rfl) (fun _ _ _ h => h) (Or.inl ⟨by rfl, ?hyy8⟩) (by assumption) ?rest8
                case hyy8 => ((intro w hSw); (try dsimp only at hSw); go_simp; (try with_reducible rfl))
                try simp only [Act.put, List.setIfInBounds_toArray, List.set_cons_zero, List.set_cons_succ]
                refine wpAnyH_done (by kernel_rfl) ?_ _
                have f4 := HD16.out.frozen 1
                have z4 := hHeld.2.2.2.2
                have HF := Lib.hid (HTD.out.setH HO16.out HM16.out (by have := HGA.out; rw [HY.out.2.1] at this; exact this) (by have := HSZ.out; rw [HY.out.2.1] at this; exact this))
                have HFIN := Lib.hid (HAD.out.finish (t' := askT q x) (by rw [HY.out.2.1]; exact HF.out.1) HF.out.2)
                refine withLast_go (fun K hK => ?_)
                clear hHeld
                go_simp
                refine hK _ _ ?_
                clear hK K f4 z4 HF
                obtain ⟨w17, hw17⟩ : ∃ w17, w17 = w16.setCells d 1 [.slice A2 (ins ah x q.held).length c2] := ⟨_, rfl⟩
                rw [← hw17] at HFIN
                have hw17b : w16.setCell ⟨d, 1, none⟩ (.slice A2 (ins ah x q.held).length c2) = w17 := hw17.symm
                rw [hw17b]
                clear hw17 hw17b
                go_wp2
                go_ret2
                unfold AskEnds
                rw [HY.out.1, HY.out.2.2]
                exact ⟨A, c, rfl, HFIN.out⟩
              exact AllReadyH.nil
            | false =>
              rw [cf] at he
              subst he
              have HY := Lib.hid (ask_no HM.out.none_ cf)
              clear cf
              have HA7 := Lib.hid (HA.out.more hb)
              clear hb HA
              go_upto_region 32 with fail
              have HAD := Lib.hid (HA7.out.more (below_drewN (Below.refl _ _) 1 : Below w7.heap.size w7 w7.drew))
              clear HA7
              have HTD := Lib.hid (show TbAt w7.drew d (hurtT q (victims q x)) m' from HAD.out.tb)
              have hS : w7.drew.cell? ⟨p2, 0, none⟩ = some (.string x.key) ∧ w7.drew.cell? ⟨p2, 1, none⟩ = some (.int .i64 x.id.n) ∧ w7.drew.cell? ⟨p2, 2, none⟩ = some (.int .i64 x.id.c) ∧ w7.drew.cell? ⟨p2, 3, none⟩ = some (.int .i64 x.mode) ∧ w7.drew.cell? ⟨d, 2, none⟩ = some (.slice m'.aw q.wait.length m'.cw) := ⟨HAD.out.b2.cell 0, HAD.out.b2.cell 1, HAD.out.b2.cell 2, HAD.out.b2.cell 3, HTD.out.c2⟩
              have HPT := Lib.hid (put_any m'.aw m'.cw q.wait x w7.drew HTD.out.ow HTD.out.good.sw (by have := HH.out.fh; omega))
              unfold InsAtL lkV at HPT
              refine wp_region_last_held (S := fun w' => w'.cell? ⟨p2, 0, none⟩ = some (.string x.key) ∧ w'.cell? ⟨p2, 1, none⟩ = some (.int .i64 x.id.n) ∧ w'.cell? ⟨p2, 2, none⟩ = some (.int .i64 x.id.c) ∧ w'.cell? ⟨p2, 3, none⟩ = some (.int .i64 x.mode) ∧ w'.cell? ⟨d, 2, none⟩ = some (.slice m'.aw q.wait.length m'.cw)) (ops := #[{ dst := some 174, op := Op.move (Operand.tmp 0), type := 24, pos := "locks.go:129", after := #[], guard := none }, { dst := some 175, op := Op.move (Operand.tmp 0), type := 24, pos := "locks.go:129", after := #[], guard := none }, { dst := some 176, op := Op.nilCheck (Operand.tmp 175), type := 0, pos := "locks.go:129", after := #[{ on := 1, ground := Ground.data }], guard := none }, { dst := some 177, op := Op.fieldAddr 59 (Operand.tmp 176) 2, type := 0, pos := "locks.go:129", after := #[{ on := 2, ground := Ground.data }], guard := none }, { dst := some 178, op := Op.load 28 (Operand.tmp 177), type := 28, pos := "locks.go:129", after := #[{ on := 3, ground := Ground.data }], guard := none }, { dst := some 179, op := Op.load 39 (Operand.tmp 10), type := 39, pos := "locks.go:129", after := #[], guard := none }, { dst := some 180, op := Op.call { callee := Callee.value (Operand.func 37), args := #[Operand.tmp 178, Operand.tmp 179], argTypes := #[28, 39] }, type := 28, pos := "locks.go:129", after := #[{ on := 4, ground := Ground.data }, { on := 5, ground := Ground.data }], guard := none }, { dst := some 181, op := Op.nilCheck (Operand.tmp 174), type := 0, pos := "locks.go:129", after := #[{ on := 0, ground := Ground.data }, { on := 0, ground := Ground.phase }, { on := 1, ground := Ground.phase }, { on := 2, ground := Ground.phase }, { on := 3, ground := Ground.phase }, { on := 4, ground := Ground.phase }, { on := 5, ground := Ground.phase }, { on := 6, ground := Ground.phase }], guard := none }, { dst := some 182, op := Op.fieldAddr 59 (Operand.tmp 181) 2, type := 0, pos := "locks.go:129", after := #[{ on := 7, ground := Ground.data }, { on := 0, ground := Ground.phase }, { on := 1, ground := Ground.phase }, { on := 2, ground := Ground.phase }, { on := 3, ground := Ground.phase }, { on := 4, ground := Ground.phase }, { on := 5, ground := Ground.phase }, { on := 6, ground := Ground.phase }], guard := none }]) (o := { dst := none, op := Op.store 28 (Operand.tmp 182) (Operand.tmp 180), type := 0, pos := "locks.go:129", after := #[{ on := 8, ground := Ground.data }, { on := 6, ground := Ground.data }, { on := 6, ground := Ground.chain }, { on := 0, ground := Ground.phase }, { on := 1, ground := Ground.phase }, { on := 2, ground := Ground.phase }, { on := 3, ground := Ground.phase }, { on := 4, ground := Ground.phase }, { on := 5, ground := Ground.phase }, { on := 6, ground := Ground.phase }], guard := none }) rfl (by kernel_rfl) (by kernel_rfl) (by kernel_rfl) hS (fun hHeld => ?_)
              refine wpAnyH_take (i := 0) (oi := { dst := some 174, op := Op.move (Operand.tmp 0), type := 24, pos := "locks.go:129", after := #[], guard := none }) (v := ?vv9) rfl (by kernel_rfl) (by kernel_rfl) (by kernel_rfl) (fun _ _ _ h => h) (Or.inl ⟨by rfl, ?hyy9⟩) (by assumption) ?rest9
              case hyy9 => ((intro w hSw); (try dsimp only at hSw); go_simp; (try with_reducible rfl))
              try simp only [Act.put, List.setIfInBounds_toArray, List.set_cons_zero, List.set_cons_succ]
              refine wpAnyH_take (i := 1) (oi := { dst := some 175, op := Op.move (Operand.tmp 0), type := 24, pos := "locks.go:129", after := #[], guard := none }) (v := ?vv10) rfl (by kernel_rfl) (by kernel_rfl) (by kernel_rfl) (fun _ _ _ h => h) (Or.inl ⟨by rfl, ?hyy10⟩) (by assumption) ?rest10
              case hyy10 => ((intro w hSw); (try dsimp only at hSw); go_simp; (try with_reducible rfl))
              try simp only [Act.put, List.setIfInBounds_toArray, List.set_cons_zero, List.set_cons_succ]
              refine wpAnyH_take (i := 2) (oi := { dst := some 176, op := Op.nilCheck (Operand.tmp 175), type := 0, pos := "locks.go:129", after := #[{ on := 1, ground := Ground.data }], guard := none }) (v := ?vv11) rfl (by kernel_rfl) (by kernel_rfl) (by kernel_rfl) (fun _ _ _ h => h) (Or.inl ⟨by rfl, ?hyy11⟩) (by assumption) ?rest11
              case hyy11 => ((intro w hSw); (try dsimp only at hSw); go_simp; (try with_reducible rfl))
              try simp only [Act.put, List.setIfInBounds_toArray, List.set_cons_zero, List.set_cons_succ]
              refine wpAnyH_take (i := 3) (oi := { dst := some 177, op := Op.fieldAddr 59 (Operand.tmp 176) 2, type := 0, pos := "locks.go:129", after := #[{ on := 2, ground := Ground.data }], guard := none }) (v := ?vv12) rfl (by kernel_rfl) (by kernel_rfl) (by kernel_rfl) (fun _ _ _ h => h) (Or.inl ⟨by rfl, ?hyy12⟩) (by assumption) ?rest12
              case hyy12 => ((intro w hSw); (try dsimp only at hSw); go_simp; (try with_reducible rfl))
              try simp only [Act.put, List.setIfInBounds_toArray, List.set_cons_zero, List.set_cons_succ]
              refine wpAnyH_take (i := 4) (oi := { dst := some 178, op := Op.load 28 (Operand.tmp 177), type := 28, pos := "locks.go:129", after := #[{ on := 3, ground := Ground.data }], guard := none }) (v := ?vv13) rfl (by kernel_rfl) (by kernel_rfl) (by kernel_rfl) (fun _ _ _ h => h) (Or.inl ⟨by rfl, ?hyy13⟩) (by assumption) ?rest13
              case hyy13 => ((intro w hSw); (try dsimp only at hSw); go_simp; (try with_reducible rfl))
              try simp only [Act.put, List.setIfInBounds_toArray, List.set_cons_zero, List.set_cons_succ]
              refine wpAnyH_take (i := 5) (oi := { dst := some 179, op := Op.load 39 (Operand.tmp 10), type := 39, pos := "locks.go:129", after := #[], guard := none }) (v := ?vv14) rfl (by kernel_rfl) (by kernel_rfl) (by kernel_rfl) (fun _ _ _ h => h) (Or.inl ⟨by rfl, ?hyy14⟩) (by assumption) ?rest14
              case hyy14 => ((intro w hSw); (try dsimp only at hSw); go_simp; (try with_reducible rfl))
              try simp only [Act.put, List.setIfInBounds_toArray, List.set_cons_zero, List.set_cons_succ]
              refine wpAnyH_ready (rs := [6]) (by kernel_rfl) (by simp) ?_
              refine AllReadyH.cons (o := { dst := some 180, op := Op.call { callee := Callee.value (Operand.func 37), args := #[Operand.tmp 178, Operand.tmp 179], argTypes := #[28, 39] }, type := 28, pos := "locks.go:129", after := #[{ on := 4, ground := Ground.data }, { on := 5, ground := Ground.data }], guard := none }) rfl (fun K hK => ?_) ?_
              ·
                go_simp
                go_at_call 37
                refine HPT.out.mono ?_
                rintro e w16 ⟨A2, c2, rfl, ho, hm⟩
                have HO16 := Lib.hid ho
                have HM16 := Lib.hid hm
                clear ho hm
                have hc8 : w16.cell? ⟨p2, 0, none⟩ = some (.string x.key) ∧ w16.cell? ⟨p2, 1, none⟩ = some (.int .i64 x.id.n) ∧ w16.cell? ⟨p2, 2, none⟩ = some (.int .i64 x.id.c) ∧ w16.cell? ⟨p2, 3, none⟩ = some (.int .i64 x.mode) ∧ w16.cell? ⟨d, 2, none⟩ = some (.slice m'.aw q.wait.length m'.cw) := by
                  have z1 := HM16.out.kept.blk HAD.out.b2 (fun hm => HAD.out.bp.1.2 (by simp only [fpT, List.mem_cons, List.mem_append]; simp [hm]))
                  have z2 := HM16.out.kept.blk HTD.out.blk HTD.out.dw
                  exact ⟨z1.cell 0, z1.cell 1, z1.cell 2, z1.cell 3, z2.cell 2⟩
                have HD16 := Lib.hid (HM16.out.kept.blk HTD.out.blk HTD.out.dw)
                go_wp2_with fail
                refine hK.out _ _ (hc8) (fun hHeld => ?_)
                clear hK K
                try simp only [Act.put, List.setIfInBounds_toArray, List.set_cons_zero, List.set_cons_succ]
                refine wpAnyH_take (i := 7) (oi := { dst := some 181, op := Op.nilCheck (Operand.tmp 174), type := 0, pos := "locks.go:129", after := #[{ on := 0, ground := Ground.data }, { on := 0, ground := Ground.phase }, { on := 1, ground := Ground.phase }, { on := 2, ground := Ground.phase }, { on := 3, ground := Ground.phase }, { on := 4, ground := Ground.phase }, { on := 5, ground := Ground.phase }, { on := 6, ground := Ground.phase }], guard := none }) (v := ?vv15) rfl (by kernel_rfl) (by kernel_rfl) (by kernel_rfl) (fun _ _ _ h => h) (Or.inl ⟨by rfl, ?hyy15⟩) (by assumption) ?rest15
                case hyy15 => ((intro w hSw); (try dsimp only at hSw); go_simp; (try with_reducible rfl))
                try simp only [Act.put, List.setIfInBounds_toArray, List.set_cons_zero, List.set_cons_succ]
                refine wpAnyH_take (i := 8) (oi := { dst := some 182, op := Op.fieldAddr 59 (Operand.tmp 181) 2, type := 0, pos := "locks.go:129", after := #[{ on := 7, ground := Ground.data }, { on := 0, ground := Ground.phase }, { on := 1, ground := Ground.phase }, { on := 2, ground := Ground.phase }, { on := 3, ground := Ground.phase }, { on := 4, ground := Ground.phase }, { on := 5, ground := Ground.phase }, { on := 6, ground := Ground.phase }], guard := none }) (v := ?vv16) rfl (by kernel_rfl) (by kernel_rfl) (by kernel_rfl) (fun _ _ _ h => h) (Or.inl ⟨by rfl, ?hyy16⟩) (by assumption) ?rest16
                case hyy16 => ((intro w hSw); (try dsimp only at hSw); go_simp; (try with_reducible rfl))
                try simp only [Act.put, List.setIfInBounds_toArray, List.set_cons_zero, List.set_cons_succ]
                refine wpAnyH_done (by kernel_rfl) ?_ _
                have f4 := HD16.out.frozen 2
                have z4 := hHeld.2.2.2.2
                have HF := Lib.hid (HTD.out.setW HO16.out HM16.out (by have := HGA.out; rw [HY.out.2.1] at this; exact this) (by have := HSZ.out; rw [HY.out.2.1] at this; exact this))
                have HFIN := Lib.hid (HAD.out.finish (t' := askT q x) (by rw [HY.out.2.1]; exact HF.out.1) HF.out.2)
                refine withLast_go (fun K hK => ?_)
                clear hHeld
                go_simp
                refine hK _ _ ?_
                clear hK K f4 z4 HF
                obtain ⟨w17, hw17⟩ : ∃ w17, w17 = w16.setCells d 2 [.slice A2 (ins ah x q.wait).length c2] := ⟨_, rfl⟩
                rw [← hw17] at HFIN
                have hw17b : w16.setCell ⟨d, 2, none⟩ (.slice A2 (ins ah x q.wait).length c2) = w17 := hw17.symm
                rw [hw17b]
                clear hw17 hw17b
                go_wp2
                go_ret2
                unfold AskEnds
                rw [HY.out.1, HY.out.2.2]
                exact ⟨A, c, rfl, HFIN.out⟩
              exact AllReadyH.nil
    exact AllReadyH.nil
  exact AllReadyH.nil
end Go.Proofs.Ytpidpdbjjdkhoaa
