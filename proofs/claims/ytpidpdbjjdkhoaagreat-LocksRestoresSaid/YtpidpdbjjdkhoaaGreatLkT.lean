/- Locks: Ask. -/
import Derived.Test.YtpidpdbjjdkhoaaGreatLkR
import Derived.Test.YtpidpdbjjdkhoaaGreatLkS
namespace Go.Proofs.YtpidpdbjjdkhoaaGreat
open Go.RowKit
set_option linter.unusedSimpArgs false
set_option linter.unusedVariables false
attribute [local go_sem ↓] Go.wp_at_zero Go.wp_at_succ

def AskEnds (d : Nat) (q : Tb) (m : TbM) (x : Lk) (w : World) (e : Ending) (w' : World) : Prop :=
  ∃ A c, e = .returned (.tuple #[.int .i64 (askE q x), .slice A (askH q x).length c]) ∧ w'.ownsRow 0 29 2 (.slice A (askH q x).length c) (askH q x).length (rc idR (askH q x)) ∧ (∀ k ∈ ob A, w.heap.size ≤ k) ∧
    ∃ m', TbAt w' d (askT q x) m' ∧ Moves (fpT d m) (fpT d m') w w' ∧ ∀ k ∈ ob A, k ∉ fpT d m'
theorem ask_fail {d : Nat} {q : Tb} {m : TbM} {x : Lk} {w w' : World} {c : Int} (hr : refuse q x = some c) (h : TbAt w d q m) (hb : Below w.heap.size w w') : AskEnds d q m x w (.returned (.tuple #[.int .i64 c, .slice none 0 0])) w' := by
  obtain ⟨h1, h2, h3⟩ := ask_some hr
  unfold AskEnds
  rw [h1, h2, h3]
  exact ⟨none, 0, rfl, World.ownsRow_nil _ _ _ _, by simp [ob], m, h.below hb, Moves.of_below hb, by simp [ob]⟩
/-- ahead of the loop: nothing is changed yet -/
structure AskMid (d : Nat) (q : Tb) (m : TbM) (x : Lk) (p1 p2 : Nat) (w wx : World) : Prop where
  bel : Below w.heap.size w wx
  b1 : Blk wx p1 29 #[.int .i64 x.id.n, .int .i64 x.id.c]
  b2 : Blk wx p2 62 #[.string x.key, .int .i64 x.id.n, .int .i64 x.id.c, .int .i64 x.mode]
  none_ : refuse q x = none
theorem AskMid.more {d : Nat} {q : Tb} {m : TbM} {x : Lk} {p1 p2 : Nat} {w w1 w2 : World} (h : AskMid d q m x p1 p2 w w1) (hb : Below w1.heap.size w1 w2) : AskMid d q m x p1 p2 w w2 :=
  ⟨h.bel.trans (hb.mono h.bel.size), h.b1.below hb h.b1.lt, h.b2.below hb h.b2.lt, h.none_⟩
theorem full_1 {t : Tb} {x : Lk} (h : ¬ t.most ≤ (t.held.length : Int) + (t.wait.length : Int)) : fullB t x = false := by unfold fullB; rw [decide_eq_false h]; rfl
theorem full_2 {t : Tb} {x : Lk} (h : t.most ≤ (t.held.length : Int) + (t.wait.length : Int)) (h2 : modeI t x.id x.key = 0) : fullB t x = true := by unfold fullB; rw [decide_eq_true h, decide_eq_true h2]; rfl
theorem full_3 {t : Tb} {x : Lk} (h : t.most ≤ (t.held.length : Int) + (t.wait.length : Int)) (h2 : (t.held.any fun y => conf y x) = true) : fullB t x = true := by unfold fullB; rw [decide_eq_true h, h2]; simp
theorem full_4 {t : Tb} {x : Lk} (h : t.most ≤ (t.held.length : Int) + (t.wait.length : Int)) (h2 : (t.wait.any fun y => conf y x) = true) : fullB t x = true := by unfold fullB; rw [decide_eq_true h, h2]; simp
theorem full_5 {t : Tb} {x : Lk} (h1 : ¬ modeI t x.id x.key = 0) (h2 : (t.held.any fun y => conf y x) = false) (h3 : (t.wait.any fun y => conf y x) = false) : fullB t x = false := by unfold fullB; rw [decide_eq_false h1, h2, h3]; simp
def hurtT (q : Tb) (V : List Idn) : Tb := ⟨q.most, q.held, q.wait, q.prep, addAll q.hurt V⟩
/-- in the loop: the answer's row, the table, the boxes -/
structure AkSt (d : Nat) (q : Tb) (m : TbM) (x : Lk) (p1 p2 : Nat) (w : World) (V : List Idn) (A : Option Addr) (c : Nat) (m' : TbM) (wr : World) : Prop where
  own : wr.ownsRow 0 29 2 (.slice A V.length c) V.length (rc idR V)
  tb : TbAt wr d (hurtT q V) m'
  mv : Moves (fpT d m) (fpT d m') w wr
  fr : ∀ y ∈ ob A, w.heap.size ≤ y
  ap : ∀ y ∈ ob A, y ∉ fpT d m'
  b1 : Blk wr p1 29 #[.int .i64 x.id.n, .int .i64 x.id.c]
  b2 : Blk wr p2 62 #[.string x.key, .int .i64 x.id.n, .int .i64 x.id.c, .int .i64 x.mode]
  bp : (p1 ∉ fpT d m' ∧ p2 ∉ fpT d m') ∧ p1 ∉ ob A ∧ p2 ∉ ob A
  eqh : m'.ah = m.ah ∧ m'.ch = m.ch
theorem AkSt.more {d : Nat} {q : Tb} {m m' : TbM} {x : Lk} {p1 p2 : Nat} {w w1 w2 : World} {V : List Idn} {A : Option Addr} {c : Nat} (h : AkSt d q m x p1 p2 w V A c m' w1) (hb : Below w1.heap.size w1 w2) : AkSt d q m x p1 p2 w V A c m' w2 :=
  ⟨(Kept.of_below (S := []) hb).own h.own (by simp), h.tb.below hb, h.mv.trans (Moves.of_below hb), h.fr, h.ap, h.b1.below hb h.b1.lt, h.b2.below hb h.b2.lt, h.bp, h.eqh⟩
theorem AkSt.tb8 {d : Nat} {q : Tb} {m m' : TbM} {x : Lk} {p1 p2 : Nat} {w w1 w2 : World} {V : List Idn} {A A1 : Option Addr} {c : Nat} (h : AkSt d q m x p1 p2 w V A c m' w1) (hm : Moves (ob A) (ob A1) w1 w2) : TbAt w2 d (hurtT q V) m' :=
  h.tb.kept hm.kept fun k hk hA => h.ap k hA hk
theorem AkSt.grow {d : Nat} {q : Tb} {m m' m'' : TbM} {x : Lk} {p1 p2 : Nat} {w w7 w8 w9 : World} {V V' : List Idn} {A A1 : Option Addr} {c c1 : Nat} (h : AkSt d q m x p1 p2 w V A c m' w7)
    (hm1 : Moves (ob A) (ob A1) w7 w8) (ho1 : w8.ownsRow 0 29 2 (.slice A1 V'.length c1) V'.length (rc idR V')) (hT : TbAt w9 d (hurtT q V') m'') (hm2 : Moves (fpT d m') (fpT d m'') w8 w9) (he : m''.ah = m'.ah ∧ m''.ch = m'.ch) :
    AkSt d q m x p1 p2 w V' A1 c1 m'' w9 := by
  have hlt := h.tb.lt
  have hA1 : ∀ y ∈ ob A1, y ∉ fpT d m' := fun y hy hf => (hm1.foot y hy).elim (fun h1 => h.ap y h1 hf) (fun h1 => by have := hlt y hf; omega)
  have hs0 := h.mv.kept.size
  have hs1 := hm1.kept.size
  have b18 := hm1.kept.blk h.b1 h.bp.2.1
  have b28 := hm1.kept.blk h.b2 h.bp.2.2
  refine ⟨hm2.kept.own ho1 (fun g hg hf => hA1 g (ownBlock_mem.1 hg) hf), hT, ⟨(h.mv.kept.trans hm1.kept (fun y hy => .inr (h.fr y hy))).trans hm2.kept (fun y hy => h.mv.foot y hy), fun y hy => ?_⟩, fun y hy => ?_, fun y hy hf => ?_,
    hm2.kept.blk b18 h.bp.1.1, hm2.kept.blk b28 h.bp.1.2, ⟨⟨fun hf => ?_, fun hf => ?_⟩, fun hf => ?_, fun hf => ?_⟩, ⟨he.1.trans h.eqh.1, he.2.trans h.eqh.2⟩⟩
  · rcases hm2.foot y hy with h1 | h1
    · exact h.mv.foot y h1
    · exact .inr (by omega)
  · rcases hm1.foot y hy with h1 | h1
    · exact h.fr y h1
    · omega
  · rcases hm2.foot y hf with h1 | h1
    · exact hA1 y hy h1
    · have := own_lt ho1 y hy; omega
  · rcases hm2.foot _ hf with h1 | h1
    · exact h.bp.1.1 h1
    · have := b18.lt; omega
  · rcases hm2.foot _ hf with h1 | h1
    · exact h.bp.1.2 h1
    · have := b28.lt; omega
  · rcases hm1.foot _ hf with h1 | h1
    · exact h.bp.2.1 h1
    · have := h.b1.lt; omega
  · rcases hm1.foot _ hf with h1 | h1
    · exact h.bp.2.2 h1
    · have := h.b2.lt; omega
theorem AkSt.finish {d : Nat} {q t' : Tb} {m m' m'' : TbM} {x : Lk} {p1 p2 : Nat} {w w9 w11 : World} {V : List Idn} {A : Option Addr} {c : Nat} (h : AkSt d q m x p1 p2 w V A c m' w9) (hT : TbAt w11 d t' m'') (hm : Moves (fpT d m') (fpT d m'') w9 w11) :
    w11.ownsRow 0 29 2 (.slice A V.length c) V.length (rc idR V) ∧ (∀ k ∈ ob A, w.heap.size ≤ k) ∧ ∃ m', TbAt w11 d t' m' ∧ Moves (fpT d m) (fpT d m') w w11 ∧ ∀ k ∈ ob A, k ∉ fpT d m' :=
  ⟨hm.kept.own h.own (fun g hg hf => h.ap g (ownBlock_mem.1 hg) hf), h.fr, m'', hT, h.mv.trans hm, fun k hk hf => (hm.foot k hf).elim (fun h1 => h.ap k hk h1) (fun h1 => by have := own_lt h.own k hk; omega)⟩
def AkRel (d : Nat) (q : Tb) (m : TbM) (x : Lk) (p1 p2 : Nat) (w : World) (s i : Value) (wr : World) : Prop :=
  ∃ (k : Nat) (A : Option Addr) (c : Nat) (m' : TbM), i = .int .i64 k ∧ k ≤ q.held.length ∧ s = .slice A (vk q x k).length c ∧ AkSt d q m x p1 p2 w (vk q x k) A c m' wr
set_option maxHeartbeats 16000000 in
set_option maxRecDepth 100000 in
theorem ask_any {w : World} {d : Nat} {q : Tb} {m : TbM} (h : TbAt w d q m) (x : Lk) (hu : q.hurt.length ≤ 900000) (hsz : (askT q x).held.length + (askT q x).wait.length ≤ 1000) :
    Calls Tryz.prog 14 #[.pointer (some ⟨d, 0, none⟩), idV x.id, .string x.key, .int .i64 x.mode] w (AskEnds d q m x w) := by
  have HH := Lib.hid h
  have HU := Lib.hid hu
  have HSZ := Lib.hid hsz
  have HGA := Lib.hid (ask_good h.good x)
  clear h hu hsz
  unfold idV
  go_enter Tryz.func14, Tryz.ntmps14
  go_upto_region 2 with fail
  have k1 := (Blk.new w 29 #[.int .i64 x.id.n, .int .i64 x.id.c]).alloc (.cells #[.string x.key, .int .i64 x.id.n, .int .i64 x.id.c, .int .i64 x.mode] 62)
  have k2 := Blk.new (w.alloc (.cells #[.int .i64 x.id.n, .int .i64 x.id.c] 29)) 62 #[.string x.key, .int .i64 x.id.n, .int .i64 x.id.c, .int .i64 x.mode]
  simp only [World.size_alloc] at k2
  have HB := Lib.hid ((below_alloc w (.cells #[.int .i64 x.id.n, .int .i64 x.id.c] 29)).alloc (by simp) (.cells #[.string x.key, .int .i64 x.id.n, .int .i64 x.id.c, .int .i64 x.mode] 62))
  obtain ⟨w2, hw2⟩ : ∃ w2, w2 = ((w.alloc (.cells #[.int .i64 x.id.n, .int .i64 x.id.c] 29)).alloc (.cells #[.string x.key, .int .i64 x.id.n, .int .i64 x.id.c, .int .i64 x.mode] 62)) := ⟨_, rfl⟩
  obtain ⟨p1, hp1⟩ : ∃ p1, p1 = w.heap.size := ⟨_, rfl⟩
  obtain ⟨p2, hp2⟩ : ∃ p2, p2 = w.heap.size + 1 := ⟨_, rfl⟩
  rw [← hw2] at HB k1 k2
  rw [← hp1] at k1
  rw [← hp2] at k2
  rw [← hw2]
  rw [← hp2]
  rw [← hp1]
  have HPX : Hid (w.heap.size ≤ p1 ∧ w.heap.size ≤ p2 ∧ p1 ≠ p2) := Lib.hid (by omega)
  clear hw2 hp1 hp2
  have HK1 := Lib.hid k1
  have HK2 := Lib.hid k2
  have HT2 := Lib.hid (HH.out.below HB.out)
  have x10 : w2.cell? ⟨p1, 0, none⟩ = some (.int .i64 x.id.n) := k1.cell 0
  have x11 : w2.cell? ⟨p1, 1, none⟩ = some (.int .i64 x.id.c) := k1.cell 1
  have x20 : w2.cell? ⟨p2, 0, none⟩ = some (.string x.key) := k2.cell 0
  have x21 : w2.cell? ⟨p2, 1, none⟩ = some (.int .i64 x.id.n) := k2.cell 1
  have x22 : w2.cell? ⟨p2, 2, none⟩ = some (.int .i64 x.id.c) := k2.cell 2
  have x23 : w2.cell? ⟨p2, 3, none⟩ = some (.int .i64 x.mode) := k2.cell 3
  clear k1 k2
  have HC := Lib.hid (sound_any x w2)
  unfold lkV at HC
  go_wp2_with fail
  refine HC.out.mono ?_
  clear HC
  rintro e w3 ⟨rfl, hb3⟩
  have HB3 := Lib.hid (HB.out.trans (hb3.mono HB.out.size))
  have HK13 := Lib.hid (HK1.out.below hb3 HK1.out.lt)
  have HK23 := Lib.hid (HK2.out.below hb3 HK2.out.lt)
  have HT3 := Lib.hid (HH.out.below HB3.out)
  clear hb3 x10 x11 x20 x21 x22 x23 HK1 HK2 HT2 HB
  by_cases c1 : soundE x = 0
  rotate_left
  · have HR := Lib.hid (ref_1 (t := q) c1)
    obtain ⟨sv, hsv⟩ : ∃ sv, sv = soundE x := ⟨_, rfl⟩
    rw [← hsv] at c1 HR
    rw [← hsv]
    clear hsv
    have c1b : (sv != 0) = true := by simpa using c1
    have c1d : decide (sv ≠ 0) = true := by simpa using c1
    go_wp2
    go_ret2
    exact ask_fail (HR.out) HH.out HB3.out
  rw [c1]
  have C1 := Lib.hid c1
  clear c1
  have x10 : w3.cell? ⟨p1, 0, none⟩ = some (.int .i64 x.id.n) := HK13.out.cell 0
  have x11 : w3.cell? ⟨p1, 1, none⟩ = some (.int .i64 x.id.c) := HK13.out.cell 1
  have HC := Lib.hid (mode_any HT3.out x.id x.key)
  unfold idV at HC
  obtain ⟨mo, hmo⟩ : ∃ mo, mo = modeI q x.id x.key := ⟨_, rfl⟩
  rw [← hmo] at HC
  have HMO := Lib.hid hmo
  clear hmo
  go_wp2_with fail
  refine HC.out.mono ?_
  clear HC
  rintro e w4 ⟨rfl, hb4⟩
  have HB4 := Lib.hid (HB3.out.trans (hb4.mono HB3.out.size))
  have HK14 := Lib.hid (HK13.out.below hb4 HK13.out.lt)
  have HK24 := Lib.hid (HK23.out.below hb4 HK23.out.lt)
  have HT4 := Lib.hid (HH.out.below HB4.out)
  clear hb4 x10 x11 HK13 HK23 HT3 HB3
  have x10 : w4.cell? ⟨p1, 0, none⟩ = some (.int .i64 x.id.n) := HK14.out.cell 0
  have x11 : w4.cell? ⟨p1, 1, none⟩ = some (.int .i64 x.id.c) := HK14.out.cell 1
  have HC := Lib.hid (wants_any HT4.out x.id)
  unfold WantEnds lkV idV at HC
  obtain ⟨yw, hyw⟩ : ∃ yw, yw = (wantsL q x.id).getD zeroL := ⟨_, rfl⟩
  rw [← hyw] at HC
  have HYW := Lib.hid hyw
  clear hyw
  obtain ⟨iw, hiw⟩ : ∃ iw, iw = (wantsL q x.id).isSome := ⟨_, rfl⟩
  rw [← hiw] at HC
  have HIW := Lib.hid hiw
  clear hiw
  go_wp2_with fail
  refine HC.out.mono ?_
  clear HC
  rintro e w5 ⟨rfl, hb5⟩
  have HB5 := Lib.hid (HB4.out.trans (hb5.mono HB4.out.size))
  have HK15 := Lib.hid (HK14.out.below hb5 HK14.out.lt)
  have HK25 := Lib.hid (HK24.out.below hb5 HK24.out.lt)
  have HBA := Lib.hid (below_alloc w5 (.cells #[.string yw.key, .int .i64 yw.id.n, .int .i64 yw.id.c, .int .i64 yw.mode] 62))
  have HKA := Lib.hid (Blk.new w5 62 #[.string yw.key, .int .i64 yw.id.n, .int .i64 yw.id.c, .int .i64 yw.mode])
  clear hb5 x10 x11 HK14 HK24 HT4 HB4
  go_upto_region 7 with fail
  obtain ⟨w6, hw6⟩ : ∃ w6, w6 = w5.alloc (.cells #[.string yw.key, .int .i64 yw.id.n, .int .i64 yw.id.c, .int .i64 yw.mode] 62) := ⟨_, rfl⟩
  obtain ⟨p3, hp3⟩ : ∃ p3, p3 = w5.heap.size := ⟨_, rfl⟩
  rw [← hw6] at HBA HKA
  rw [← hp3] at HKA
  rw [← hw6]
  rw [← hp3]
  clear hw6 hp3
  have HB6 := Lib.hid (HB5.out.trans (HBA.out.mono HB5.out.size))
  have HK16 := Lib.hid (HK15.out.below HBA.out HK15.out.lt)
  have HK26 := Lib.hid (HK25.out.below HBA.out HK25.out.lt)
  have HT6 := Lib.hid (HH.out.below HB6.out)
  clear HK15 HK25 HB5 HBA
  have hD : Below w6.heap.size w6 w6.drew := below_drewN (Below.refl _ _) 1
  have hS : Hid (∀ w', Below w6.heap.size w6 w' → (w'.cell? ⟨p1, 0, none⟩ = some (.int .i64 x.id.n) ∧ w'.cell? ⟨p1, 1, none⟩ = some (.int .i64 x.id.c) ∧ w'.cell? ⟨d, 4, none⟩ = some (.slice m.au q.hurt.length m.cu))) := Lib.hid (fun w' hb => ⟨(HK16.out.below hb HK16.out.lt).cell 0, (HK16.out.below hb HK16.out.lt).cell 1, (HT6.out.below hb).c4⟩)
  have HCO := Lib.hid (contains_any m.au m.cu q.hurt x.id w6.drew (Reads.of_own (HT6.out.below hD).ou) (by have := HH.out.fm; omega))
  unfold idV at HCO
  refine wp_region_heldH (by kernel_rfl) hS (hD) (fun hHeld => ?_)
  refine takes [0, 1, 2, 3, 4] 2 (by kernel_rfl) (by assumption) ?_
  iterate 5 (refine tkY rfl (fun _ _ _ h => h) rfl (by ((intro w hSw); (try dsimp only at hSw); go_simp; (try with_reducible rfl))) ?_; try simp only [Act.put, List.setIfInBounds_toArray, List.set_cons_zero, List.set_cons_succ])
  refine tkE ?_
  refine wpAnyH_ready (rs := [5]) (by kernel_rfl) (by simp) ?_
  refine readyC rfl (fun K hK => ?_) ?_
  ·
    go_simp
    go_at_call 37
    refine HCO.out.mono ?_
    rintro e w7 ⟨rfl, hbx⟩
    have hcx : Below w6.heap.size w6 w7 := hD.trans (hbx.mono hD.size)
    clear hbx
    go_wp2_with fail
    refine hK.out _ _ (by with_reducible exact hS.out _ hcx) (fun hHeld => ?_)
    clear hK K
    try simp only [Act.put, List.setIfInBounds_toArray, List.set_cons_zero, List.set_cons_succ]
    refine takes [6] 0 (by kernel_rfl) (by assumption) ?_
    refine tkY rfl (fun _ _ _ h => h) rfl (by ((intro w hSw); (try dsimp only at hSw); go_simp; (try with_reducible rfl))) ?_; try simp only [Act.put, List.setIfInBounds_toArray, List.set_cons_zero, List.set_cons_succ]
    refine tkE ?_
    refine wpAnyH_done (by kernel_rfl) ?_ _
    have HB7 := Lib.hid (HB6.out.trans (hcx.mono HB6.out.size))
    have HK17 := Lib.hid (HK16.out.below hcx HK16.out.lt)
    have HK27 := Lib.hid (HK26.out.below hcx HK26.out.lt)
    have HT7 := Lib.hid (HH.out.below HB7.out)
    clear hHeld hD hS HCO
    have HKA7 := Lib.hid (HKA.out.below hcx HKA.out.lt)
    clear hcx HB6 HK16 HK26 HT6
    cases c2 : hasI q.hurt x.id with
    | true =>
      have HR := Lib.hid (ref_2 (t := q) C1.out c2)
      clear c2
      go_wp2
      go_ret2
      exact ask_fail (HR.out) HH.out HB7.out
    | false =>
    have C2 := Lib.hid c2
    clear c2
    by_cases c3 : x.mode ≤ mo
    · have HR := Lib.hid (ref_3 (t := q) C1.out C2.out (by rw [← HMO.out]; exact c3))
      go_wp2
      go_ret2
      exact ask_fail (HR.out) HH.out HB7.out
    have C3 : Hid (modeI q x.id x.key < x.mode) := Lib.hid (by rw [← HMO.out]; omega)
    have c3d : decide (x.mode ≤ mo) = false := decide_eq_false c3
    clear c3
    cases hw : wantsL q x.id with
    | some y =>
      rw [hw] at HYW HIW
      have HW := Lib.hid hw
      clear hw
      obtain rfl : yw = y := HYW.out
      obtain rfl : iw = true := HIW.out
      clear HYW HIW
      have z0 : w7.cell? ⟨p3, 0, none⟩ = some (.string yw.key) := HKA7.out.cell 0
      have z3 : w7.cell? ⟨p3, 3, none⟩ = some (.int .i64 yw.mode) := HKA7.out.cell 3
      cases hk : (yw.key.toList == x.key.toList) with
      | true =>
        have HKY : Hid (yw.key = x.key) := Lib.hid (toList_inj (by simpa using hk))
        by_cases c4 : x.mode ≤ yw.mode
        · have HR := Lib.hid (ref_4 (t := q) C1.out C2.out (Int.not_le.2 C3.out) HW.out HKY.out c4)
          go_wp2
          go_ret2
          exact ask_fail (HR.out) HH.out HB7.out
        · have HR := Lib.hid (ref_5 (t := q) C1.out C2.out (Int.not_le.2 C3.out) HW.out (fun h => c4 h.2))
          have c4d : decide (x.mode ≤ yw.mode) = false := decide_eq_false c4
          go_wp2
          go_ret2
          exact ask_fail (HR.out) HH.out HB7.out
      | false =>
        have HR := Lib.hid (ref_5 (t := q) C1.out C2.out (Int.not_le.2 C3.out) HW.out (fun h => by rw [h.1] at hk; simp at hk))
        go_wp2
        go_ret2
        exact ask_fail (HR.out) HH.out HB7.out
    | none =>
    rw [hw] at HYW HIW
    have HW := Lib.hid hw
    clear hw
    obtain rfl : iw = false := HIW.out
    clear HYW HIW
    go_upto_region 15 with fail
    have hD : Below w7.heap.size w7 w7.drew := below_drewN (Below.refl _ _) 1
    have hS : Hid (∀ w', Below w7.heap.size w7 w' → (w'.cell? ⟨p1, 0, none⟩ = some (.int .i64 x.id.n) ∧ w'.cell? ⟨p1, 1, none⟩ = some (.int .i64 x.id.c) ∧ w'.cell? ⟨d, 3, none⟩ = some (.slice m.ap q.prep.length m.cp))) := Lib.hid (fun w' hb => ⟨(HK17.out.below hb HK17.out.lt).cell 0, (HK17.out.below hb HK17.out.lt).cell 1, (HT7.out.below hb).c3⟩)
    have HCO := Lib.hid (contains_any m.ap m.cp q.prep x.id w7.drew (Reads.of_own (HT7.out.below hD).op) (by have := HH.out.fm; omega))
    unfold idV at HCO
    refine wp_region_heldH (by kernel_rfl) hS (hD) (fun hHeld => ?_)
    refine takes [0, 1, 2, 3, 4] 2 (by kernel_rfl) (by assumption) ?_
    iterate 5 (refine tkY rfl (fun _ _ _ h => h) rfl (by ((intro w hSw); (try dsimp only at hSw); go_simp; (try with_reducible rfl))) ?_; try simp only [Act.put, List.setIfInBounds_toArray, List.set_cons_zero, List.set_cons_succ])
    refine tkE ?_
    refine wpAnyH_ready (rs := [5]) (by kernel_rfl) (by simp) ?_
    refine readyC rfl (fun K hK => ?_) ?_
    ·
      go_simp
      go_at_call 37
      refine HCO.out.mono ?_
      rintro e w8 ⟨rfl, hbx⟩
      have hcx : Below w7.heap.size w7 w8 := hD.trans (hbx.mono hD.size)
      clear hbx
      go_wp2_with fail
      refine hK.out _ _ (by with_reducible exact hS.out _ hcx) (fun hHeld => ?_)
      clear hK K
      try simp only [Act.put, List.setIfInBounds_toArray, List.set_cons_zero, List.set_cons_succ]
      refine takes [6] 0 (by kernel_rfl) (by assumption) ?_
      refine tkY rfl (fun _ _ _ h => h) rfl (by ((intro w hSw); (try dsimp only at hSw); go_simp; (try with_reducible rfl))) ?_; try simp only [Act.put, List.setIfInBounds_toArray, List.set_cons_zero, List.set_cons_succ]
      refine tkE ?_
      refine wpAnyH_done (by kernel_rfl) ?_ _
      have HB8 := Lib.hid (HB7.out.trans (hcx.mono HB7.out.size))
      have HK18 := Lib.hid (HK17.out.below hcx HK17.out.lt)
      have HK28 := Lib.hid (HK27.out.below hcx HK27.out.lt)
      have HT8 := Lib.hid (HH.out.below HB8.out)
      clear hHeld hD hS HCO
      clear hcx HB7 HK17 HK27 HT7
      cases c5 : hasI q.prep x.id with
      | true =>
        have HR := Lib.hid (ref_6 (t := q) C1.out C2.out (Int.not_le.2 C3.out) HW.out c5)
        clear c5
        go_wp2
        go_ret2
        exact ask_fail (HR.out) HH.out HB8.out
      | false =>
      have HRF := Lib.hid (fun h => ref_7 (t := q) C1.out C2.out (Int.not_le.2 C3.out) HW.out c5 h)
      have HRN := Lib.hid (fun h => ref_8 (t := q) C1.out C2.out (Int.not_le.2 C3.out) HW.out c5 h)
      clear c5
      go_upto_region 17 with fail
      have hD : Below w8.heap.size w8 w8.drew := below_drewN (Below.refl _ _) 1
      have c6n := HH.out.fh
      have c6w : IntKind.i64.wrap ((q.held.length : Int) + (q.wait.length : Int)) = (q.held.length : Int) + (q.wait.length : Int) := by rw [IntKind.wrap_i64]; omega
      have hS : w8.drew.cell? ⟨d, 0, none⟩ = some (.int .i64 q.most) ∧ w8.drew.cell? ⟨d, 1, none⟩ = some (.slice m.ah q.held.length m.ch) ∧ w8.drew.cell? ⟨d, 2, none⟩ = some (.slice m.aw q.wait.length m.cw) := ⟨(HT8.out.below hD).c0, (HT8.out.below hD).c1, (HT8.out.below hD).c2⟩
      refine wp_region_held_drew (S := fun w' => w'.cell? ⟨d, 0, none⟩ = some (.int .i64 q.most) ∧ w'.cell? ⟨d, 1, none⟩ = some (.slice m.ah q.held.length m.ch) ∧ w'.cell? ⟨d, 2, none⟩ = some (.slice m.aw q.wait.length m.cw)) (by kernel_rfl) hS (fun hHeld => ?_)
      refine takes [0, 1, 2, 3, 4, 5, 6, 7, 8, 9, 10, 11, 12, 13, 14, 15] 0 (by kernel_rfl) (by assumption) ?_
      iterate 16 (refine tkY rfl (fun _ _ _ h => h) rfl (by ((intro w hSw); (try dsimp only at hSw); go_simp; (try with_reducible rfl))) ?_; try simp only [Act.put, List.setIfInBounds_toArray, List.set_cons_zero, List.set_cons_succ])
      refine tkE ?_
      refine wpAnyH_done (by kernel_rfl) ?_ _
      have HB9 := Lib.hid (HB8.out.trans (hD.mono HB8.out.size))
      have HK19 := Lib.hid (HK18.out.below hD HK18.out.lt)
      have HK29 := Lib.hid (HK28.out.below hD HK28.out.lt)
      obtain ⟨w9, hw9⟩ : ∃ w9, w9 = w8.drew := ⟨_, rfl⟩
      rw [← hw9] at HB9 HK19 HK29
      rw [← hw9]
      have HT9 := Lib.hid (HH.out.below HB9.out)
      clear hHeld hD hS hw9 HK18 HK28 HB8 HT8
      go_upto_if 87 with fail
      go_cut [15] (fun s15 wx => AskMid d q m x p1 p2 w wx)
      case first =>
        by_cases hf : q.most ≤ (q.held.length : Int) + (q.wait.length : Int)
        · have x20 : w9.cell? ⟨p2, 0, none⟩ = some (.string x.key) := HK29.out.cell 0
          have x21 : w9.cell? ⟨p2, 1, none⟩ = some (.int .i64 x.id.n) := HK29.out.cell 1
          have x22 : w9.cell? ⟨p2, 2, none⟩ = some (.int .i64 x.id.c) := HK29.out.cell 2
          have x23 : w9.cell? ⟨p2, 3, none⟩ = some (.int .i64 x.mode) := HK29.out.cell 3
          have HF := Lib.hid hf
          have HA1 := Lib.hid (ag_any x 39 #[] w9)
          unfold lkV AgEnds at HA1
          go_wp2_with fail
          refine HA1.out.mono ?_
          clear HA1
          rintro e w10 ⟨g1, g2, rfl, ka, kb, hb⟩
          have HB10 := Lib.hid (HB9.out.trans (hb.mono HB9.out.size))
          have HM10 := Lib.hid (fun h => (AskMid.mk HB9.out HK19.out HK29.out h : AskMid d q m x p1 p2 w w9).more hb)
          have HKA10 := Lib.hid ka
          have HKB10 := Lib.hid kb
          have HT10 := Lib.hid (HH.out.below HB10.out)
          clear hb ka kb x20 x21 x22 x23 HK19 HK29 HB9 HT9
          by_cases hm0 : mo = 0
          · have HR := Lib.hid (HRF.out (full_2 HF.out (by rw [← HMO.out]; exact hm0)))
            subst hm0
            go_wp2
            go_ret2
            exact ask_fail (HR.out) HH.out HB10.out
          · have HM0 : Hid (¬ modeI q x.id x.key = 0) := Lib.hid (by rw [← HMO.out]; exact hm0)
            have hm0b : (mo == 0) = false := by simpa using hm0
            have hm0d : decide (mo = 0) = false := decide_eq_false hm0
            clear hm0
            have y1 : w10.cell? ⟨d, 1, none⟩ = some (.slice m.ah q.held.length m.ch) := HT10.out.c1
            have HQ := Lib.hid (any1 x g1 g2 m.ah m.ch w10.heap.size q.held w10 (Reads.of_own HT10.out.oh) (Nat.le_refl _) (by have := HH.out.fh; omega) HKA10.out HKB10.out)
            go_wp2_with fail
            refine HQ.out.mono ?_
            clear HQ
            rintro e w11 ⟨rfl, hb⟩
            have HB11 := Lib.hid (HB10.out.trans (hb.mono HB10.out.size))
            have HM11 := Lib.hid (fun h => (HM10.out h).more hb)
            have HKA11 := Lib.hid (HKA10.out.below hb HKA10.out.lt)
            have HKB11 := Lib.hid (HKB10.out.below hb HKB10.out.lt)
            have HT11 := Lib.hid (HH.out.below HB11.out)
            clear hb y1 HT10 HB10 HM10 HKA10 HKB10
            cases c6 : (q.held.any fun y => conf y x) with
            | true =>
              have HR := Lib.hid (HRF.out (full_3 HF.out c6))
              clear c6
              go_wp2
              go_ret2
              exact ask_fail (HR.out) HH.out HB11.out
            | false =>
              have C6 := Lib.hid c6
              clear c6
              have y2 : w11.cell? ⟨d, 2, none⟩ = some (.slice m.aw q.wait.length m.cw) := HT11.out.c2
              have HQ := Lib.hid (any1 x g1 g2 m.aw m.cw w11.heap.size q.wait w11 (Reads.of_own HT11.out.ow) (Nat.le_refl _) (by have := HH.out.fh; omega) HKA11.out HKB11.out)
              go_wp2_with fail
              refine HQ.out.mono ?_
              clear HQ
              rintro e w12 ⟨rfl, hb⟩
              have HB12 := Lib.hid (HB11.out.trans (hb.mono HB11.out.size))
              have HM12 := Lib.hid (fun h => (HM11.out h).more hb)
              clear hb y2 HT11 HB11 HM11
              cases c7 : (q.wait.any fun y => conf y x) with
              | true =>
                have HR := Lib.hid (HRF.out (full_4 HF.out c7))
                clear c7
                go_wp2
                go_ret2
                exact ask_fail (HR.out) HH.out HB12.out
              | false =>
                have HX := Lib.hid (HM12.out (HRN.out (full_5 HM0.out C6.out c7)))
                clear c7
                go_wp2
                go_meet
                exact HX.out
        · have HX := Lib.hid (AskMid.mk HB9.out HK19.out HK29.out (HRN.out (full_1 hf)) : AskMid d q m x p1 p2 w w9)
          have hfn : (q.held.length : Int) + (q.wait.length : Int) < q.most := by omega
          clear hf
          go_wp2
          go_meet
          exact HX.out
      case rest =>
        have HM := Lib.hid hcut
        clear hcut HRF HRN HMO HW C1 C2 C3 HKA7 c3d HB9 HT9 HK19 HK29 c6w c6n
        have HTC := Lib.hid (HH.out.below HM.out.bel)
        have y1 : wc.cell? ⟨d, 1, none⟩ = some (.slice m.ah q.held.length m.ch) := HTC.out.c1
        have hn1000 := HH.out.fh
        go_wp2
        clear y1
        go_loopw [16, 113] (AkRel d q m x p1 p2 w) (fun _ i _ => q.held.length - (intOf i).toNat)
        case atStart =>
          refine ⟨0, none, 0, m, rfl, Nat.zero_le _, by rw [vk_0]; rfl, ?_⟩
          rw [vk_0]
          exact ⟨World.ownsRow_nil _ _ _ _, HTC.out, Moves.of_below HM.out.bel, by simp [ob], by simp [ob], HM.out.b1, HM.out.b2, ⟨⟨fun hf => by have := HH.out.lt _ hf; have := HPX.out.1; omega, fun hf => by have := HH.out.lt _ hf; have := HPX.out.2.1; omega⟩, by simp [ob], by simp [ob]⟩, rfl, rfl⟩
        case round =>
          obtain ⟨k, A, c, m', rfl, hk, rfl, hst⟩ := hrel
          have HA := Lib.hid hst
          clear hst
          by_cases hlt : k < q.held.length
          · have HG : Hid (q.held[k]? = some (gr lkR q.held k)) := Lib.hid (gr_get hlt)
            obtain ⟨g, off, hA, _, a0, a1, a2, a3⟩ := rdL (l := q.held) (Reads.of_own HA.out.tb.oh) hlt
            rw [HA.out.eqh.1] at hA
            rw [hA]
            obtain ⟨l, hl⟩ : ∃ l, l = gr lkR q.held k := ⟨_, rfl⟩
            rw [← hl] at a0 a1 a2 a3 HG
            have kL : (0 : Int) ≤ (k : Int) := by omega
            have kU : (k : Int) < (q.held.length : Int) := by omega
            have HSV := Lib.hid (srt_vk HH.out.good.sh x k)
            have HLV := Lib.hid (vk_len q x k)
            have HLTc := Lib.hid (fun (hc : conf l x = true) => vk_lt HH.out.good.sh HG.out hc)
            have HSMc := Lib.hid (fun (hc : conf l x = true) => hurt_same HH.out.good.sh HG.out hc)
            obtain ⟨V, hV⟩ : ∃ V, V = vk q x k := ⟨_, rfl⟩
            rw [← hV] at HA HSV HLV HLTc HSMc
            rw [← hV]
            have HVK := Lib.hid hV
            have HVON := Lib.hid (vk_on (x := x) HG.out)
            rw [← hV] at HVON
            clear hV hl
            have HLU := Lib.hid (show (addAll q.hurt V).length ≤ 999999 from by have := addAll_len V q.hurt; have := HU.out; have := HLV.out; have := HH.out.fh; omega)
            have HBA := Lib.hid (below_alloc wr (.cells #[.string l.key, .int .i64 l.id.n, .int .i64 l.id.c, .int .i64 l.mode] 62))
            have HKA := Lib.hid (Blk.new wr 62 #[.string l.key, .int .i64 l.id.n, .int .i64 l.id.c, .int .i64 l.mode])
            go_upto_region 25 with fail
            have HP8 := Lib.hid (show w.heap.size ≤ wr.heap.size ∧ wr.heap.size ∉ ob A ∧ wr.heap.size ∉ fpT d m' from ⟨HA.out.mv.kept.size, fun hm => by have := own_lt HA.out.own _ hm; omega, fun hm => by have := HA.out.tb.lt _ hm; omega⟩)
            obtain ⟨w6, hw6⟩ : ∃ w6, w6 = wr.alloc (.cells #[.string l.key, .int .i64 l.id.n, .int .i64 l.id.c, .int .i64 l.mode] 62) := ⟨_, rfl⟩
            obtain ⟨p8, hp8⟩ : ∃ p8, p8 = wr.heap.size := ⟨_, rfl⟩
            rw [← hw6] at HBA HKA
            rw [← hp8] at HKA HP8
            rw [← hw6]
            rw [← hp8]
            clear hw6 hp8 a0 a1 a2 a3 hA
            have HA6 := Lib.hid (HA.out.more HBA.out)
            have HK86 := HKA
            have HP86 := HP8
            clear HA HBA HKA HP8
            have hS : Hid (∀ w', Below w6.heap.size w6 w' → (w'.cell? ⟨p8, 0, none⟩ = some (.string l.key) ∧ w'.cell? ⟨p8, 1, none⟩ = some (.int .i64 l.id.n) ∧ w'.cell? ⟨p8, 2, none⟩ = some (.int .i64 l.id.c) ∧ w'.cell? ⟨p8, 3, none⟩ = some (.int .i64 l.mode) ∧ w'.cell? ⟨p2, 0, none⟩ = some (.string x.key) ∧ w'.cell? ⟨p2, 1, none⟩ = some (.int .i64 x.id.n) ∧ w'.cell? ⟨p2, 2, none⟩ = some (.int .i64 x.id.c) ∧ w'.cell? ⟨p2, 3, none⟩ = some (.int .i64 x.mode) ∧ w'.cell? ⟨p1, 0, none⟩ = some (.int .i64 x.id.n) ∧ w'.cell? ⟨p1, 1, none⟩ = some (.int .i64 x.id.c) ∧ w'.cell? ⟨d, 3, none⟩ = some (.slice m'.ap q.prep.length m'.cp) ∧ w'.cell? ⟨d, 4, none⟩ = some (.slice m'.au (addAll q.hurt V).length m'.cu))) := Lib.hid (fun w' hb => ⟨(HK86.out.below hb HK86.out.lt).cell 0, (HK86.out.below hb HK86.out.lt).cell 1, (HK86.out.below hb HK86.out.lt).cell 2, (HK86.out.below hb HK86.out.lt).cell 3, (HA6.out.b2.below hb HA6.out.b2.lt).cell 0, (HA6.out.b2.below hb HA6.out.b2.lt).cell 1, (HA6.out.b2.below hb HA6.out.b2.lt).cell 2, (HA6.out.b2.below hb HA6.out.b2.lt).cell 3, (HA6.out.b1.below hb HA6.out.b1.lt).cell 0, (HA6.out.b1.below hb HA6.out.b1.lt).cell 1, (HA6.out.tb.below hb).c3, (HA6.out.tb.below hb).c4⟩)
            have hc10 : Below w6.heap.size w6 w6.drew := below_drewN (Below.refl _ _) 1
            have HCF := Lib.hid (fun W => conflict_any l x W)
            have HOL := Lib.hid (fun W => older_any x.id l.id W)
            have HP3 := Lib.hid (fun W (hb : Below w6.heap.size w6 W) => contains_any m'.ap m'.cp q.prep l.id W (Reads.of_own (HA6.out.tb.below hb).op) (by have := HH.out.fm; omega))
            have HP4 := Lib.hid (fun W (hb : Below w6.heap.size w6 W) => contains_any m'.au m'.cu (addAll q.hurt V) l.id W (Reads.of_own (HA6.out.tb.below hb).ou) (by have := HLU.out; omega))
            unfold BoolIs lkV at HCF
            unfold BoolIs idV at HOL HP3 HP4
            cases c1 : conf l x with
            | false =>
              have HV := Lib.hid (vic_1 (t := q) c1)
              refine wp_region_heldH (by kernel_rfl) hS (hc10) (fun hHeld => ?_)
              refine takes [0, 1] 27 (by kernel_rfl) (by assumption) ?_
              iterate 2 (refine tkY rfl (fun _ _ _ h => h) rfl (by ((intro w hSw); (try dsimp only at hSw); go_simp; (try with_reducible rfl))) ?_; try simp only [Act.put, List.setIfInBounds_toArray, List.set_cons_zero, List.set_cons_succ])
              refine tkE ?_
              refine wpAnyH_ready (rs := [2]) (by kernel_rfl) (by simp) ?_
              refine readyC rfl (fun K hK => ?_) ?_
              ·
                go_simp
                go_at_call 41
                refine (HCF.out _).mono ?_
                rintro e w11 ⟨he, hbx⟩
                have hc11 : Below w6.heap.size w6 w11 := hc10.trans (hbx.mono hc10.size)
                rw [c1] at he
                subst he
                clear hbx
                go_wp2_with fail
                refine hK.out _ _ (by with_reducible exact hS.out _ hc11) (fun hHeld => ?_)
                clear hK K
                try simp only [Act.put, List.setIfInBounds_toArray, List.set_cons_zero, List.set_cons_succ]
                refine takes [3, 4, 5, 6, 7, 8, 9, 10, 11, 12, 13, 14, 15, 16, 17, 18, 19, 20, 21, 22, 23, 24, 25, 26, 27, 28] 0 (by kernel_rfl) (by assumption) ?_
                refine tkY rfl (fun _ _ _ h => h) rfl (by ((intro w hSw); (try dsimp only at hSw); go_simp; (try with_reducible rfl))) ?_; try simp only [Act.put, List.setIfInBounds_toArray, List.set_cons_zero, List.set_cons_succ]
                iterate 4 (refine tkN rfl (fun _ _ _ h => h) rfl ?_; try simp only [Act.put, List.setIfInBounds_toArray, List.set_cons_zero, List.set_cons_succ])
                iterate 2 (refine tkY rfl (fun _ _ _ h => h) rfl (by ((intro w hSw); (try dsimp only at hSw); go_simp; (try with_reducible rfl))) ?_; try simp only [Act.put, List.setIfInBounds_toArray, List.set_cons_zero, List.set_cons_succ])
                iterate 8 (refine tkN rfl (fun _ _ _ h => h) rfl ?_; try simp only [Act.put, List.setIfInBounds_toArray, List.set_cons_zero, List.set_cons_succ])
                iterate 2 (refine tkY rfl (fun _ _ _ h => h) rfl (by ((intro w hSw); (try dsimp only at hSw); go_simp; (try with_reducible rfl))) ?_; try simp only [Act.put, List.setIfInBounds_toArray, List.set_cons_zero, List.set_cons_succ])
                iterate 8 (refine tkN rfl (fun _ _ _ h => h) rfl ?_; try simp only [Act.put, List.setIfInBounds_toArray, List.set_cons_zero, List.set_cons_succ])
                refine tkY rfl (fun _ _ _ h => h) rfl (by ((intro w hSw); (try dsimp only at hSw); go_simp; (try with_reducible rfl))) ?_; try simp only [Act.put, List.setIfInBounds_toArray, List.set_cons_zero, List.set_cons_succ]
                refine tkE ?_
                refine wpAnyH_done (by kernel_rfl) ?_ _
                have HX := Lib.hid (HA6.out.more hc11)
                have HVE := Lib.hid (show vk q x (k + 1) = V from by rw [HVON.out, HV.out]; simp)
                clear hHeld hc10 hS HCF HOL HP3 HP4 hc11
                go_wp2
                go_roundw
                case rel =>
                  refine ⟨k + 1, A, c, m', by go_num, by omega, ?_, ?_⟩
                  · rw [HVE.out]
                  · rw [HVE.out]; exact HX.out
                case measure => simp [intOf]; omega
              exact AllReadyH.nil
            | true =>
            have HLT := Lib.hid (HLTc.out c1)
            have HSM := Lib.hid (HSMc.out c1)
            cases c2 : ol x.id l.id with
            | false =>
              have HV := Lib.hid (vic_2 (t := q) c2)
              refine wp_region_heldH (by kernel_rfl) hS (hc10) (fun hHeld => ?_)
              refine takes [0, 1] 27 (by kernel_rfl) (by assumption) ?_
              iterate 2 (refine tkY rfl (fun _ _ _ h => h) rfl (by ((intro w hSw); (try dsimp only at hSw); go_simp; (try with_reducible rfl))) ?_; try simp only [Act.put, List.setIfInBounds_toArray, List.set_cons_zero, List.set_cons_succ])
              refine tkE ?_
              refine wpAnyH_ready (rs := [2]) (by kernel_rfl) (by simp) ?_
              refine readyC rfl (fun K hK => ?_) ?_
              ·
                go_simp
                go_at_call 41
                refine (HCF.out _).mono ?_
                rintro e w11 ⟨he, hbx⟩
                have hc11 : Below w6.heap.size w6 w11 := hc10.trans (hbx.mono hc10.size)
                rw [c1] at he
                subst he
                clear hbx
                go_wp2_with fail
                refine hK.out _ _ (by with_reducible exact hS.out _ hc11) (fun hHeld => ?_)
                clear hK K
                try simp only [Act.put, List.setIfInBounds_toArray, List.set_cons_zero, List.set_cons_succ]
                refine takes [3, 4, 5, 6] 22 (by kernel_rfl) (by assumption) ?_
                iterate 4 (refine tkY rfl (fun _ _ _ h => h) rfl (by ((intro w hSw); (try dsimp only at hSw); go_simp; (try with_reducible rfl))) ?_; try simp only [Act.put, List.setIfInBounds_toArray, List.set_cons_zero, List.set_cons_succ])
                refine tkE ?_
                refine wpAnyH_ready (rs := [7]) (by kernel_rfl) (by simp) ?_
                refine readyC rfl (fun K hK => ?_) ?_
                ·
                  go_simp
                  go_at_call 42
                  refine (HOL.out _).mono ?_
                  rintro e w12 ⟨he, hbx⟩
                  have hc12 : Below w6.heap.size w6 w12 := hc11.trans (hbx.mono hc11.size)
                  rw [c2] at he
                  subst he
                  clear hbx
                  go_wp2_with fail
                  refine hK.out _ _ (by with_reducible exact hS.out _ hc12) (fun hHeld => ?_)
                  clear hK K
                  try simp only [Act.put, List.setIfInBounds_toArray, List.set_cons_zero, List.set_cons_succ]
                  refine takes [8, 9, 10, 11, 12, 13, 14, 15, 16, 17, 18, 19, 20, 21, 22, 23, 24, 25, 26, 27, 28] 0 (by kernel_rfl) (by assumption) ?_
                  iterate 2 (refine tkY rfl (fun _ _ _ h => h) rfl (by ((intro w hSw); (try dsimp only at hSw); go_simp; (try with_reducible rfl))) ?_; try simp only [Act.put, List.setIfInBounds_toArray, List.set_cons_zero, List.set_cons_succ])
                  iterate 8 (refine tkN rfl (fun _ _ _ h => h) rfl ?_; try simp only [Act.put, List.setIfInBounds_toArray, List.set_cons_zero, List.set_cons_succ])
                  iterate 2 (refine tkY rfl (fun _ _ _ h => h) rfl (by ((intro w hSw); (try dsimp only at hSw); go_simp; (try with_reducible rfl))) ?_; try simp only [Act.put, List.setIfInBounds_toArray, List.set_cons_zero, List.set_cons_succ])
                  iterate 8 (refine tkN rfl (fun _ _ _ h => h) rfl ?_; try simp only [Act.put, List.setIfInBounds_toArray, List.set_cons_zero, List.set_cons_succ])
                  refine tkY rfl (fun _ _ _ h => h) rfl (by ((intro w hSw); (try dsimp only at hSw); go_simp; (try with_reducible rfl))) ?_; try simp only [Act.put, List.setIfInBounds_toArray, List.set_cons_zero, List.set_cons_succ]
                  refine tkE ?_
                  refine wpAnyH_done (by kernel_rfl) ?_ _
                  have HX := Lib.hid (HA6.out.more hc12)
                  have HVE := Lib.hid (show vk q x (k + 1) = V from by rw [HVON.out, HV.out]; simp)
                  clear hHeld hc10 hS HCF HOL HP3 HP4 hc11 hc12
                  go_wp2
                  go_roundw
                  case rel =>
                    refine ⟨k + 1, A, c, m', by go_num, by omega, ?_, ?_⟩
                    · rw [HVE.out]
                    · rw [HVE.out]; exact HX.out
                  case measure => simp [intOf]; omega
                exact AllReadyH.nil
              exact AllReadyH.nil
            | true =>
            cases c3 : hasI q.prep l.id with
            | true =>
              have HV := Lib.hid (vic_3 (t := q) (x := x) c3)
              refine wp_region_heldH (by kernel_rfl) hS (hc10) (fun hHeld => ?_)
              refine takes [0, 1] 27 (by kernel_rfl) (by assumption) ?_
              iterate 2 (refine tkY rfl (fun _ _ _ h => h) rfl (by ((intro w hSw); (try dsimp only at hSw); go_simp; (try with_reducible rfl))) ?_; try simp only [Act.put, List.setIfInBounds_toArray, List.set_cons_zero, List.set_cons_succ])
              refine tkE ?_
              refine wpAnyH_ready (rs := [2]) (by kernel_rfl) (by simp) ?_
              refine readyC rfl (fun K hK => ?_) ?_
              ·
                go_simp
                go_at_call 41
                refine (HCF.out _).mono ?_
                rintro e w11 ⟨he, hbx⟩
                have hc11 : Below w6.heap.size w6 w11 := hc10.trans (hbx.mono hc10.size)
                rw [c1] at he
                subst he
                clear hbx
                go_wp2_with fail
                refine hK.out _ _ (by with_reducible exact hS.out _ hc11) (fun hHeld => ?_)
                clear hK K
                try simp only [Act.put, List.setIfInBounds_toArray, List.set_cons_zero, List.set_cons_succ]
                refine takes [3, 4, 5, 6] 22 (by kernel_rfl) (by assumption) ?_
                iterate 4 (refine tkY rfl (fun _ _ _ h => h) rfl (by ((intro w hSw); (try dsimp only at hSw); go_simp; (try with_reducible rfl))) ?_; try simp only [Act.put, List.setIfInBounds_toArray, List.set_cons_zero, List.set_cons_succ])
                refine tkE ?_
                refine wpAnyH_ready (rs := [7]) (by kernel_rfl) (by simp) ?_
                refine readyC rfl (fun K hK => ?_) ?_
                ·
                  go_simp
                  go_at_call 42
                  refine (HOL.out _).mono ?_
                  rintro e w12 ⟨he, hbx⟩
                  have hc12 : Below w6.heap.size w6 w12 := hc11.trans (hbx.mono hc11.size)
                  rw [c2] at he
                  subst he
                  clear hbx
                  go_wp2_with fail
                  refine hK.out _ _ (by with_reducible exact hS.out _ hc12) (fun hHeld => ?_)
                  clear hK K
                  try simp only [Act.put, List.setIfInBounds_toArray, List.set_cons_zero, List.set_cons_succ]
                  refine takes [8, 9, 10, 11, 12, 13, 14, 15] 13 (by kernel_rfl) (by assumption) ?_
                  iterate 8 (refine tkY rfl (fun _ _ _ h => h) rfl (by ((intro w hSw); (try dsimp only at hSw); go_simp; (try with_reducible rfl))) ?_; try simp only [Act.put, List.setIfInBounds_toArray, List.set_cons_zero, List.set_cons_succ])
                  refine tkE ?_
                  refine wpAnyH_ready (rs := [16]) (by kernel_rfl) (by simp) ?_
                  refine readyC rfl (fun K hK => ?_) ?_
                  ·
                    go_simp
                    go_at_call 37
                    refine (HP3.out _ hc12).mono ?_
                    rintro e w13 ⟨he, hbx⟩
                    have hc13 : Below w6.heap.size w6 w13 := hc12.trans (hbx.mono hc12.size)
                    rw [c3] at he
                    subst he
                    clear hbx
                    go_wp2_with fail
                    refine hK.out _ _ (by with_reducible exact hS.out _ hc13) (fun hHeld => ?_)
                    clear hK K
                    try simp only [Act.put, List.setIfInBounds_toArray, List.set_cons_zero, List.set_cons_succ]
                    refine takes [17, 18, 19, 20, 21, 22, 23, 24, 25, 26, 27, 28] 0 (by kernel_rfl) (by assumption) ?_
                    iterate 3 (refine tkY rfl (fun _ _ _ h => h) rfl (by ((intro w hSw); (try dsimp only at hSw); go_simp; (try with_reducible rfl))) ?_; try simp only [Act.put, List.setIfInBounds_toArray, List.set_cons_zero, List.set_cons_succ])
                    iterate 8 (refine tkN rfl (fun _ _ _ h => h) rfl ?_; try simp only [Act.put, List.setIfInBounds_toArray, List.set_cons_zero, List.set_cons_succ])
                    refine tkY rfl (fun _ _ _ h => h) rfl (by ((intro w hSw); (try dsimp only at hSw); go_simp; (try with_reducible rfl))) ?_; try simp only [Act.put, List.setIfInBounds_toArray, List.set_cons_zero, List.set_cons_succ]
                    refine tkE ?_
                    refine wpAnyH_done (by kernel_rfl) ?_ _
                    have HX := Lib.hid (HA6.out.more hc13)
                    have HVE := Lib.hid (show vk q x (k + 1) = V from by rw [HVON.out, HV.out]; simp)
                    clear hHeld hc10 hS HCF HOL HP3 HP4 hc11 hc12 hc13
                    go_wp2
                    go_roundw
                    case rel =>
                      refine ⟨k + 1, A, c, m', by go_num, by omega, ?_, ?_⟩
                      · rw [HVE.out]
                      · rw [HVE.out]; exact HX.out
                    case measure => simp [intOf]; omega
                  exact AllReadyH.nil
                exact AllReadyH.nil
              exact AllReadyH.nil
            | false =>
            cases c4 : hasI (addAll q.hurt V) l.id with
            | true =>
              have HV := Lib.hid (vic_4 (t := q) (x := x) (by rw [← HSM.out]; exact c4))
              refine wp_region_heldH (by kernel_rfl) hS (hc10) (fun hHeld => ?_)
              refine takes [0, 1] 27 (by kernel_rfl) (by assumption) ?_
              iterate 2 (refine tkY rfl (fun _ _ _ h => h) rfl (by ((intro w hSw); (try dsimp only at hSw); go_simp; (try with_reducible rfl))) ?_; try simp only [Act.put, List.setIfInBounds_toArray, List.set_cons_zero, List.set_cons_succ])
              refine tkE ?_
              refine wpAnyH_ready (rs := [2]) (by kernel_rfl) (by simp) ?_
              refine readyC rfl (fun K hK => ?_) ?_
              ·
                go_simp
                go_at_call 41
                refine (HCF.out _).mono ?_
                rintro e w11 ⟨he, hbx⟩
                have hc11 : Below w6.heap.size w6 w11 := hc10.trans (hbx.mono hc10.size)
                rw [c1] at he
                subst he
                clear hbx
                go_wp2_with fail
                refine hK.out _ _ (by with_reducible exact hS.out _ hc11) (fun hHeld => ?_)
                clear hK K
                try simp only [Act.put, List.setIfInBounds_toArray, List.set_cons_zero, List.set_cons_succ]
                refine takes [3, 4, 5, 6] 22 (by kernel_rfl) (by assumption) ?_
                iterate 4 (refine tkY rfl (fun _ _ _ h => h) rfl (by ((intro w hSw); (try dsimp only at hSw); go_simp; (try with_reducible rfl))) ?_; try simp only [Act.put, List.setIfInBounds_toArray, List.set_cons_zero, List.set_cons_succ])
                refine tkE ?_
                refine wpAnyH_ready (rs := [7]) (by kernel_rfl) (by simp) ?_
                refine readyC rfl (fun K hK => ?_) ?_
                ·
                  go_simp
                  go_at_call 42
                  refine (HOL.out _).mono ?_
                  rintro e w12 ⟨he, hbx⟩
                  have hc12 : Below w6.heap.size w6 w12 := hc11.trans (hbx.mono hc11.size)
                  rw [c2] at he
                  subst he
                  clear hbx
                  go_wp2_with fail
                  refine hK.out _ _ (by with_reducible exact hS.out _ hc12) (fun hHeld => ?_)
                  clear hK K
                  try simp only [Act.put, List.setIfInBounds_toArray, List.set_cons_zero, List.set_cons_succ]
                  refine takes [8, 9, 10, 11, 12, 13, 14, 15] 13 (by kernel_rfl) (by assumption) ?_
                  iterate 8 (refine tkY rfl (fun _ _ _ h => h) rfl (by ((intro w hSw); (try dsimp only at hSw); go_simp; (try with_reducible rfl))) ?_; try simp only [Act.put, List.setIfInBounds_toArray, List.set_cons_zero, List.set_cons_succ])
                  refine tkE ?_
                  refine wpAnyH_ready (rs := [16]) (by kernel_rfl) (by simp) ?_
                  refine readyC rfl (fun K hK => ?_) ?_
                  ·
                    go_simp
                    go_at_call 37
                    refine (HP3.out _ hc12).mono ?_
                    rintro e w13 ⟨he, hbx⟩
                    have hc13 : Below w6.heap.size w6 w13 := hc12.trans (hbx.mono hc12.size)
                    rw [c3] at he
                    subst he
                    clear hbx
                    go_wp2_with fail
                    refine hK.out _ _ (by with_reducible exact hS.out _ hc13) (fun hHeld => ?_)
                    clear hK K
                    try simp only [Act.put, List.setIfInBounds_toArray, List.set_cons_zero, List.set_cons_succ]
                    refine takes [17, 18, 19, 20, 21, 22, 23, 24, 25] 3 (by kernel_rfl) (by assumption) ?_
                    iterate 9 (refine tkY rfl (fun _ _ _ h => h) rfl (by ((intro w hSw); (try dsimp only at hSw); go_simp; (try with_reducible rfl))) ?_; try simp only [Act.put, List.setIfInBounds_toArray, List.set_cons_zero, List.set_cons_succ])
                    refine tkE ?_
                    refine wpAnyH_ready (rs := [26]) (by kernel_rfl) (by simp) ?_
                    refine readyC rfl (fun K hK => ?_) ?_
                    ·
                      go_simp
                      go_at_call 37
                      refine (HP4.out _ hc13).mono ?_
                      rintro e w14 ⟨he, hbx⟩
                      have hc14 : Below w6.heap.size w6 w14 := hc13.trans (hbx.mono hc13.size)
                      rw [c4] at he
                      subst he
                      clear hbx
                      go_wp2_with fail
                      refine hK.out _ _ (by with_reducible exact hS.out _ hc14) (fun hHeld => ?_)
                      clear hK K
                      try simp only [Act.put, List.setIfInBounds_toArray, List.set_cons_zero, List.set_cons_succ]
                      refine takes [27, 28] 0 (by kernel_rfl) (by assumption) ?_
                      iterate 2 (refine tkY rfl (fun _ _ _ h => h) rfl (by ((intro w hSw); (try dsimp only at hSw); go_simp; (try with_reducible rfl))) ?_; try simp only [Act.put, List.setIfInBounds_toArray, List.set_cons_zero, List.set_cons_succ])
                      refine tkE ?_
                      refine wpAnyH_done (by kernel_rfl) ?_ _
                      have HX := Lib.hid (HA6.out.more hc14)
                      have HVE := Lib.hid (show vk q x (k + 1) = V from by rw [HVON.out, HV.out]; simp)
                      clear hHeld hc10 hS HCF HOL HP3 HP4 hc11 hc12 hc13 hc14
                      go_wp2
                      go_roundw
                      case rel =>
                        refine ⟨k + 1, A, c, m', by go_num, by omega, ?_, ?_⟩
                        · rw [HVE.out]
                        · rw [HVE.out]; exact HX.out
                      case measure => simp [intOf]; omega
                    exact AllReadyH.nil
                  exact AllReadyH.nil
                exact AllReadyH.nil
              exact AllReadyH.nil
            | false =>
              have HV := Lib.hid (vic_5 c1 c2 c3 (by rw [← HSM.out]; exact c4))
              refine wp_region_heldH (by kernel_rfl) hS (hc10) (fun hHeld => ?_)
              refine takes [0, 1] 27 (by kernel_rfl) (by assumption) ?_
              iterate 2 (refine tkY rfl (fun _ _ _ h => h) rfl (by ((intro w hSw); (try dsimp only at hSw); go_simp; (try with_reducible rfl))) ?_; try simp only [Act.put, List.setIfInBounds_toArray, List.set_cons_zero, List.set_cons_succ])
              refine tkE ?_
              refine wpAnyH_ready (rs := [2]) (by kernel_rfl) (by simp) ?_
              refine readyC rfl (fun K hK => ?_) ?_
              ·
                go_simp
                go_at_call 41
                refine (HCF.out _).mono ?_
                rintro e w11 ⟨he, hbx⟩
                have hc11 : Below w6.heap.size w6 w11 := hc10.trans (hbx.mono hc10.size)
                rw [c1] at he
                subst he
                clear hbx
                go_wp2_with fail
                refine hK.out _ _ (by with_reducible exact hS.out _ hc11) (fun hHeld => ?_)
                clear hK K
                try simp only [Act.put, List.setIfInBounds_toArray, List.set_cons_zero, List.set_cons_succ]
                refine takes [3, 4, 5, 6] 22 (by kernel_rfl) (by assumption) ?_
                iterate 4 (refine tkY rfl (fun _ _ _ h => h) rfl (by ((intro w hSw); (try dsimp only at hSw); go_simp; (try with_reducible rfl))) ?_; try simp only [Act.put, List.setIfInBounds_toArray, List.set_cons_zero, List.set_cons_succ])
                refine tkE ?_
                refine wpAnyH_ready (rs := [7]) (by kernel_rfl) (by simp) ?_
                refine readyC rfl (fun K hK => ?_) ?_
                ·
                  go_simp
                  go_at_call 42
                  refine (HOL.out _).mono ?_
                  rintro e w12 ⟨he, hbx⟩
                  have hc12 : Below w6.heap.size w6 w12 := hc11.trans (hbx.mono hc11.size)
                  rw [c2] at he
                  subst he
                  clear hbx
                  go_wp2_with fail
                  refine hK.out _ _ (by with_reducible exact hS.out _ hc12) (fun hHeld => ?_)
                  clear hK K
                  try simp only [Act.put, List.setIfInBounds_toArray, List.set_cons_zero, List.set_cons_succ]
                  refine takes [8, 9, 10, 11, 12, 13, 14, 15] 13 (by kernel_rfl) (by assumption) ?_
                  iterate 8 (refine tkY rfl (fun _ _ _ h => h) rfl (by ((intro w hSw); (try dsimp only at hSw); go_simp; (try with_reducible rfl))) ?_; try simp only [Act.put, List.setIfInBounds_toArray, List.set_cons_zero, List.set_cons_succ])
                  refine tkE ?_
                  refine wpAnyH_ready (rs := [16]) (by kernel_rfl) (by simp) ?_
                  refine readyC rfl (fun K hK => ?_) ?_
                  ·
                    go_simp
                    go_at_call 37
                    refine (HP3.out _ hc12).mono ?_
                    rintro e w13 ⟨he, hbx⟩
                    have hc13 : Below w6.heap.size w6 w13 := hc12.trans (hbx.mono hc12.size)
                    rw [c3] at he
                    subst he
                    clear hbx
                    go_wp2_with fail
                    refine hK.out _ _ (by with_reducible exact hS.out _ hc13) (fun hHeld => ?_)
                    clear hK K
                    try simp only [Act.put, List.setIfInBounds_toArray, List.set_cons_zero, List.set_cons_succ]
                    refine takes [17, 18, 19, 20, 21, 22, 23, 24, 25] 3 (by kernel_rfl) (by assumption) ?_
                    iterate 9 (refine tkY rfl (fun _ _ _ h => h) rfl (by ((intro w hSw); (try dsimp only at hSw); go_simp; (try with_reducible rfl))) ?_; try simp only [Act.put, List.setIfInBounds_toArray, List.set_cons_zero, List.set_cons_succ])
                    refine tkE ?_
                    refine wpAnyH_ready (rs := [26]) (by kernel_rfl) (by simp) ?_
                    refine readyC rfl (fun K hK => ?_) ?_
                    ·
                      go_simp
                      go_at_call 37
                      refine (HP4.out _ hc13).mono ?_
                      rintro e w14 ⟨he, hbx⟩
                      have hc14 : Below w6.heap.size w6 w14 := hc13.trans (hbx.mono hc13.size)
                      rw [c4] at he
                      subst he
                      clear hbx
                      go_wp2_with fail
                      refine hK.out _ _ (by with_reducible exact hS.out _ hc14) (fun hHeld => ?_)
                      clear hK K
                      try simp only [Act.put, List.setIfInBounds_toArray, List.set_cons_zero, List.set_cons_succ]
                      refine takes [27, 28] 0 (by kernel_rfl) (by assumption) ?_
                      iterate 2 (refine tkY rfl (fun _ _ _ h => h) rfl (by ((intro w hSw); (try dsimp only at hSw); go_simp; (try with_reducible rfl))) ?_; try simp only [Act.put, List.setIfInBounds_toArray, List.set_cons_zero, List.set_cons_succ])
                      refine tkE ?_
                      refine wpAnyH_done (by kernel_rfl) ?_ _
                      have HX := Lib.hid (HA6.out.more hc14)
                      have HK8 := Lib.hid (HK86.out.below hc14 HK86.out.lt)
                      have HP8 := Lib.hid (show w.heap.size ≤ p8 ∧ p8 ∉ ob A ∧ p8 ∉ fpT d m' from HP86.out)
                      have HVE := Lib.hid (show vk q x (k + 1) = V ++ [l.id] from by rw [HVON.out, HV.out]; rfl)
                      have HVI := Lib.hid (show ins ol l.id V = V ++ [l.id] from ins_end HLT.out)
                      clear hHeld hc10 hc11 hc12 hc13 hc14 hS HCF HOL HP3 HP4
                      have x81 : w14.cell? ⟨p8, 1, none⟩ = some (.int .i64 l.id.n) := HK8.out.cell 1
                      have x82 : w14.cell? ⟨p8, 2, none⟩ = some (.int .i64 l.id.c) := HK8.out.cell 2
                      have HMK := Lib.hid (mark_any A c V l.id w14 HX.out.own HSV.out (by have := HLV.out; have := HH.out.fh; omega))
                      unfold InsAtI idV at HMK
                      rw [HVI.out] at HMK
                      go_wp2_with fail
                      refine HMK.out.mono ?_
                      clear HMK
                      rintro e w15 ⟨A1, c1, rfl, ho, hm⟩
                      have HO15 := Lib.hid ho
                      have HM15 := Lib.hid hm
                      have HT15 := Lib.hid (HX.out.tb8 hm)
                      have HK15 := Lib.hid (hm.kept.blk HK8.out HP8.out.2.1)
                      clear ho hm x81 x82
                      go_upto_region 27 with fail
                      have HTD := Lib.hid (HT15.out.below (below_drewN (Below.refl _ _) 1 : Below w15.heap.size w15 w15.drew))
                      have HKD := Lib.hid (HK15.out.below (below_drewN (Below.refl _ _) 1 : Below w15.heap.size w15 w15.drew) HK15.out.lt)
                      have hS : w15.drew.cell? ⟨p8, 0, none⟩ = some (.string l.key) ∧ w15.drew.cell? ⟨p8, 1, none⟩ = some (.int .i64 l.id.n) ∧ w15.drew.cell? ⟨p8, 2, none⟩ = some (.int .i64 l.id.c) ∧ w15.drew.cell? ⟨p8, 3, none⟩ = some (.int .i64 l.mode) ∧ w15.drew.cell? ⟨d, 4, none⟩ = some (.slice m'.au (addAll q.hurt V).length m'.cu) := ⟨HKD.out.cell 0, HKD.out.cell 1, HKD.out.cell 2, HKD.out.cell 3, HTD.out.c4⟩
                      have HMK := Lib.hid (mark_any m'.au m'.cu (addAll q.hurt V) l.id w15.drew HTD.out.ou HTD.out.good.su (by have := HLU.out; omega))
                      unfold InsAtI idV at HMK
                      rw [← addAll_on] at HMK
                      refine wp_region_last_held (S := fun w' => w'.cell? ⟨p8, 0, none⟩ = some (.string l.key) ∧ w'.cell? ⟨p8, 1, none⟩ = some (.int .i64 l.id.n) ∧ w'.cell? ⟨p8, 2, none⟩ = some (.int .i64 l.id.c) ∧ w'.cell? ⟨p8, 3, none⟩ = some (.int .i64 l.mode) ∧ w'.cell? ⟨d, 4, none⟩ = some (.slice m'.au (addAll q.hurt V).length m'.cu)) (ops := #[{ dst := some 150, op := Op.move (Operand.tmp 0), type := 23, pos := "locks.go:122", after := #[], guard := none }, { dst := some 151, op := Op.move (Operand.tmp 0), type := 23, pos := "locks.go:122", after := #[], guard := none }, { dst := some 152, op := Op.nilCheck (Operand.tmp 151), type := 0, pos := "locks.go:122", after := #[{ on := 1, ground := Ground.data }], guard := none }, { dst := some 153, op := Op.fieldAddr 47 (Operand.tmp 152) 4, type := 0, pos := "locks.go:122", after := #[{ on := 2, ground := Ground.data }], guard := none }, { dst := some 154, op := Op.load 36 (Operand.tmp 153), type := 36, pos := "locks.go:122", after := #[{ on := 3, ground := Ground.data }], guard := none }, { dst := some 155, op := Op.fieldAddr 62 (Operand.tmp 18) 1, type := 0, pos := "locks.go:122", after := #[], guard := none }, { dst := some 156, op := Op.load 29 (Operand.tmp 155), type := 29, pos := "locks.go:122", after := #[{ on := 5, ground := Ground.data }], guard := none }, { dst := some 157, op := Op.call { callee := Callee.value (Operand.func 43), args := #[Operand.tmp 154, Operand.tmp 156], argTypes := #[36, 29] }, type := 36, pos := "locks.go:122", after := #[{ on := 4, ground := Ground.data }, { on := 6, ground := Ground.data }], guard := none }, { dst := some 158, op := Op.nilCheck (Operand.tmp 150), type := 0, pos := "locks.go:122", after := #[{ on := 0, ground := Ground.data }, { on := 0, ground := Ground.phase }, { on := 1, ground := Ground.phase }, { on := 2, ground := Ground.phase }, { on := 3, ground := Ground.phase }, { on := 4, ground := Ground.phase }, { on := 5, ground := Ground.phase }, { on := 6, ground := Ground.phase }, { on := 7, ground := Ground.phase }], guard := none }, { dst := some 159, op := Op.fieldAddr 47 (Operand.tmp 158) 4, type := 0, pos := "locks.go:122", after := #[{ on := 8, ground := Ground.data }, { on := 0, ground := Ground.phase }, { on := 1, ground := Ground.phase }, { on := 2, ground := Ground.phase }, { on := 3, ground := Ground.phase }, { on := 4, ground := Ground.phase }, { on := 5, ground := Ground.phase }, { on := 6, ground := Ground.phase }, { on := 7, ground := Ground.phase }], guard := none }]) (o := { dst := none, op := Op.store 36 (Operand.tmp 159) (Operand.tmp 157), type := 0, pos := "locks.go:122", after := #[{ on := 9, ground := Ground.data }, { on := 7, ground := Ground.data }, { on := 7, ground := Ground.chain }, { on := 0, ground := Ground.phase }, { on := 1, ground := Ground.phase }, { on := 2, ground := Ground.phase }, { on := 3, ground := Ground.phase }, { on := 4, ground := Ground.phase }, { on := 5, ground := Ground.phase }, { on := 6, ground := Ground.phase }, { on := 7, ground := Ground.phase }], guard := none }) rfl (by kernel_rfl) (by kernel_rfl) (by kernel_rfl) hS (fun hHeld => ?_)
                      refine takes [0, 1, 2, 3, 4, 5, 6] 3 (by kernel_rfl) (by assumption) ?_
                      iterate 7 (refine tkY rfl (fun _ _ _ h => h) rfl (by ((intro w hSw); (try dsimp only at hSw); go_simp; (try with_reducible rfl))) ?_; try simp only [Act.put, List.setIfInBounds_toArray, List.set_cons_zero, List.set_cons_succ])
                      refine tkE ?_
                      refine wpAnyH_ready (rs := [7]) (by kernel_rfl) (by simp) ?_
                      refine readyC rfl (fun K hK => ?_) ?_
                      ·
                        go_simp
                        go_at_call 43
                        refine HMK.out.mono ?_
                        rintro e w16 ⟨A2, c2, rfl, ho, hm⟩
                        have HO16 := Lib.hid ho
                        have HM16 := Lib.hid hm
                        clear ho hm
                        have hc8 : w16.cell? ⟨p8, 0, none⟩ = some (.string l.key) ∧ w16.cell? ⟨p8, 1, none⟩ = some (.int .i64 l.id.n) ∧ w16.cell? ⟨p8, 2, none⟩ = some (.int .i64 l.id.c) ∧ w16.cell? ⟨p8, 3, none⟩ = some (.int .i64 l.mode) ∧ w16.cell? ⟨d, 4, none⟩ = some (.slice m'.au (addAll q.hurt V).length m'.cu) := by
                          have z1 := HM16.out.kept.blk HKD.out (fun hm => HP8.out.2.2 (by simp only [fpT, List.mem_cons, List.mem_append]; simp [hm]))
                          have z2 := HM16.out.kept.blk HTD.out.blk HTD.out.du
                          exact ⟨z1.cell 0, z1.cell 1, z1.cell 2, z1.cell 3, z2.cell 4⟩
                        have HD16 := Lib.hid (HM16.out.kept.blk HTD.out.blk HTD.out.du)
                        go_wp2_with fail
                        refine hK.out _ _ (hc8) (fun hHeld => ?_)
                        clear hK K
                        try simp only [Act.put, List.setIfInBounds_toArray, List.set_cons_zero, List.set_cons_succ]
                        refine takes [8, 9] 0 (by kernel_rfl) (by assumption) ?_
                        iterate 2 (refine tkY rfl (fun _ _ _ h => h) rfl (by ((intro w hSw); (try dsimp only at hSw); go_simp; (try with_reducible rfl))) ?_; try simp only [Act.put, List.setIfInBounds_toArray, List.set_cons_zero, List.set_cons_succ])
                        refine tkE ?_
                        refine wpAnyH_done (by kernel_rfl) ?_ _
                        have f4 := HD16.out.frozen 4
                        have z4 := hHeld.2.2.2.2
                        have HF := Lib.hid (HTD.out.setU HO16.out HM16.out (by have := HTD.out.good; exact ⟨this.sh, this.sw, this.sp, srt_addAll HH.out.good.su, this.hs, this.ws⟩) ⟨HH.out.fm.1, by have := addAll_len (V ++ [l.id]) q.hurt; have := HU.out; have := HLV.out; have := HH.out.fh; simp only [List.length_append, List.length_singleton] at *; omega⟩)
                        have HNX := Lib.hid (HX.out.grow HM15.out HO15.out HF.out.1 (Moves.below_left (below_drewN (Below.refl _ _) 1) HF.out.2) ⟨rfl, rfl⟩)
                        refine withLast_go (fun K hK => ?_)
                        clear hHeld
                        go_simp
                        refine hK _ _ ?_
                        clear hK K f4 z4 HF
                        obtain ⟨w17, hw17⟩ : ∃ w17, w17 = w16.setCells d 4 [.slice A2 (addAll q.hurt (V ++ [l.id])).length c2] := ⟨_, rfl⟩
                        rw [← hw17] at HNX
                        have hw17b : w16.setCell ⟨d, 4, none⟩ (.slice A2 (addAll q.hurt (V ++ [l.id])).length c2) = w17 := hw17.symm
                        rw [hw17b]
                        clear hw17 hw17b
                        go_wp2
                        go_roundw
                        case rel =>
                          have HNX2 := HNX.out
                          rw [← HVE.out] at HNX2
                          exact ⟨k + 1, A1, c1, _, by go_num, by omega, by rw [HVE.out]; simp, HNX2⟩
                        case measure => simp [intOf]; omega
                      exact AllReadyH.nil
                    exact AllReadyH.nil
                  exact AllReadyH.nil
                exact AllReadyH.nil
              exact AllReadyH.nil
          ·
            have HE : Hid (vk q x k = victims q x) := Lib.hid (by rw [show k = q.held.length by omega, vk_all])
            rw [HE.out] at HA
            rw [HE.out]
            clear HE
            have x20 : wr.cell? ⟨p2, 0, none⟩ = some (.string x.key) := HA.out.b2.cell 0
            have x21 : wr.cell? ⟨p2, 1, none⟩ = some (.int .i64 x.id.n) := HA.out.b2.cell 1
            have x22 : wr.cell? ⟨p2, 2, none⟩ = some (.int .i64 x.id.c) := HA.out.b2.cell 2
            have x23 : wr.cell? ⟨p2, 3, none⟩ = some (.int .i64 x.mode) := HA.out.b2.cell 3
            have HFR := Lib.hid (free_any HA.out.tb x)
            rw [show freeB (hurtT q (victims q x)) x = freeB q x from rfl] at HFR
            unfold BoolIs lkV at HFR
            go_wp2_with fail
            refine HFR.out.mono ?_
            clear HFR
            rintro e w7 ⟨he, hb⟩
            clear x20 x21 x22 x23
            cases cf : freeB q x with
            | true =>
              rw [cf] at he
              subst he
              have HY := Lib.hid (ask_yes HM.out.none_ cf)
              clear cf
              have HA7 := Lib.hid (HA.out.more hb)
              clear hb HA
              go_upto_region 30 with fail
              have HAD := Lib.hid (HA7.out.more (below_drewN (Below.refl _ _) 1 : Below w7.heap.size w7 w7.drew))
              clear HA7
              have HTD := Lib.hid (show TbAt w7.drew d (hurtT q (victims q x)) m' from HAD.out.tb)
              have hS : w7.drew.cell? ⟨p2, 0, none⟩ = some (.string x.key) ∧ w7.drew.cell? ⟨p2, 1, none⟩ = some (.int .i64 x.id.n) ∧ w7.drew.cell? ⟨p2, 2, none⟩ = some (.int .i64 x.id.c) ∧ w7.drew.cell? ⟨p2, 3, none⟩ = some (.int .i64 x.mode) ∧ w7.drew.cell? ⟨d, 1, none⟩ = some (.slice m'.ah q.held.length m'.ch) := ⟨HAD.out.b2.cell 0, HAD.out.b2.cell 1, HAD.out.b2.cell 2, HAD.out.b2.cell 3, HTD.out.c1⟩
              have HPT := Lib.hid (put_any m'.ah m'.ch q.held x w7.drew HTD.out.oh HTD.out.good.sh (by have := HH.out.fh; omega))
              unfold InsAtL lkV at HPT
              refine wp_region_last_held (S := fun w' => w'.cell? ⟨p2, 0, none⟩ = some (.string x.key) ∧ w'.cell? ⟨p2, 1, none⟩ = some (.int .i64 x.id.n) ∧ w'.cell? ⟨p2, 2, none⟩ = some (.int .i64 x.id.c) ∧ w'.cell? ⟨p2, 3, none⟩ = some (.int .i64 x.mode) ∧ w'.cell? ⟨d, 1, none⟩ = some (.slice m'.ah q.held.length m'.ch)) (ops := #[{ dst := some 164, op := Op.move (Operand.tmp 0), type := 23, pos := "locks.go:126", after := #[], guard := none }, { dst := some 165, op := Op.move (Operand.tmp 0), type := 23, pos := "locks.go:126", after := #[], guard := none }, { dst := some 166, op := Op.nilCheck (Operand.tmp 165), type := 0, pos := "locks.go:126", after := #[{ on := 1, ground := Ground.data }], guard := none }, { dst := some 167, op := Op.fieldAddr 47 (Operand.tmp 166) 1, type := 0, pos := "locks.go:126", after := #[{ on := 2, ground := Ground.data }], guard := none }, { dst := some 168, op := Op.load 34 (Operand.tmp 167), type := 34, pos := "locks.go:126", after := #[{ on := 3, ground := Ground.data }], guard := none }, { dst := some 169, op := Op.load 62 (Operand.tmp 10), type := 62, pos := "locks.go:126", after := #[], guard := none }, { dst := some 170, op := Op.call { callee := Callee.value (Operand.func 45), args := #[Operand.tmp 168, Operand.tmp 169], argTypes := #[34, 62] }, type := 34, pos := "locks.go:126", after := #[{ on := 4, ground := Ground.data }, { on := 5, ground := Ground.data }], guard := none }, { dst := some 171, op := Op.nilCheck (Operand.tmp 164), type := 0, pos := "locks.go:126", after := #[{ on := 0, ground := Ground.data }, { on := 0, ground := Ground.phase }, { on := 1, ground := Ground.phase }, { on := 2, ground := Ground.phase }, { on := 3, ground := Ground.phase }, { on := 4, ground := Ground.phase }, { on := 5, ground := Ground.phase }, { on := 6, ground := Ground.phase }], guard := none }, { dst := some 172, op := Op.fieldAddr 47 (Operand.tmp 171) 1, type := 0, pos := "locks.go:126", after := #[{ on := 7, ground := Ground.data }, { on := 0, ground := Ground.phase }, { on := 1, ground := Ground.phase }, { on := 2, ground := Ground.phase }, { on := 3, ground := Ground.phase }, { on := 4, ground := Ground.phase }, { on := 5, ground := Ground.phase }, { on := 6, ground := Ground.phase }], guard := none }]) (o := { dst := none, op := Op.store 34 (Operand.tmp 172) (Operand.tmp 170), type := 0, pos := "locks.go:126", after := #[{ on := 8, ground := Ground.data }, { on := 6, ground := Ground.data }, { on := 6, ground := Ground.chain }, { on := 0, ground := Ground.phase }, { on := 1, ground := Ground.phase }, { on := 2, ground := Ground.phase }, { on := 3, ground := Ground.phase }, { on := 4, ground := Ground.phase }, { on := 5, ground := Ground.phase }, { on := 6, ground := Ground.phase }], guard := none }) rfl (by kernel_rfl) (by kernel_rfl) (by kernel_rfl) hS (fun hHeld => ?_)
              refine takes [0, 1, 2, 3, 4, 5] 3 (by kernel_rfl) (by assumption) ?_
              iterate 6 (refine tkY rfl (fun _ _ _ h => h) rfl (by ((intro w hSw); (try dsimp only at hSw); go_simp; (try with_reducible rfl))) ?_; try simp only [Act.put, List.setIfInBounds_toArray, List.set_cons_zero, List.set_cons_succ])
              refine tkE ?_
              refine wpAnyH_ready (rs := [6]) (by kernel_rfl) (by simp) ?_
              refine readyC rfl (fun K hK => ?_) ?_
              ·
                go_simp
                go_at_call 45
                refine HPT.out.mono ?_
                rintro e w16 ⟨A2, c2, rfl, ho, hm⟩
                have HO16 := Lib.hid ho
                have HM16 := Lib.hid hm
                clear ho hm
                have hc8 : w16.cell? ⟨p2, 0, none⟩ = some (.string x.key) ∧ w16.cell? ⟨p2, 1, none⟩ = some (.int .i64 x.id.n) ∧ w16.cell? ⟨p2, 2, none⟩ = some (.int .i64 x.id.c) ∧ w16.cell? ⟨p2, 3, none⟩ = some (.int .i64 x.mode) ∧ w16.cell? ⟨d, 1, none⟩ = some (.slice m'.ah q.held.length m'.ch) := by
                  have z1 := HM16.out.kept.blk HAD.out.b2 (fun hm => HAD.out.bp.1.2 (by simp only [fpT, List.mem_cons, List.mem_append]; simp [hm]))
                  have z2 := HM16.out.kept.blk HTD.out.blk HTD.out.dh
                  exact ⟨z1.cell 0, z1.cell 1, z1.cell 2, z1.cell 3, z2.cell 1⟩
                have HD16 := Lib.hid (HM16.out.kept.blk HTD.out.blk HTD.out.dh)
                go_wp2_with fail
                refine hK.out _ _ (hc8) (fun hHeld => ?_)
                clear hK K
                try simp only [Act.put, List.setIfInBounds_toArray, List.set_cons_zero, List.set_cons_succ]
                refine takes [7, 8] 0 (by kernel_rfl) (by assumption) ?_
                iterate 2 (refine tkY rfl (fun _ _ _ h => h) rfl (by ((intro w hSw); (try dsimp only at hSw); go_simp; (try with_reducible rfl))) ?_; try simp only [Act.put, List.setIfInBounds_toArray, List.set_cons_zero, List.set_cons_succ])
                refine tkE ?_
                refine wpAnyH_done (by kernel_rfl) ?_ _
                have f4 := HD16.out.frozen 1
                have z4 := hHeld.2.2.2.2
                have HF := Lib.hid (HTD.out.setH HO16.out HM16.out (by have := HGA.out; rw [HY.out.2.1] at this; exact this) (by have := HSZ.out; rw [HY.out.2.1] at this; exact this))
                have HFIN := Lib.hid (HAD.out.finish (t' := askT q x) (by rw [HY.out.2.1]; exact HF.out.1) HF.out.2)
                refine withLast_go (fun K hK => ?_)
                clear hHeld
                go_simp
                refine hK _ _ ?_
                clear hK K f4 z4 HF
                obtain ⟨w17, hw17⟩ : ∃ w17, w17 = w16.setCells d 1 [.slice A2 (ins ah x q.held).length c2] := ⟨_, rfl⟩
                rw [← hw17] at HFIN
                have hw17b : w16.setCell ⟨d, 1, none⟩ (.slice A2 (ins ah x q.held).length c2) = w17 := hw17.symm
                rw [hw17b]
                clear hw17 hw17b
                go_wp2
                go_ret2
                unfold AskEnds
                rw [HY.out.1, HY.out.2.2]
                exact ⟨A, c, rfl, HFIN.out⟩
              exact AllReadyH.nil
            | false =>
              rw [cf] at he
              subst he
              have HY := Lib.hid (ask_no HM.out.none_ cf)
              clear cf
              have HA7 := Lib.hid (HA.out.more hb)
              clear hb HA
              go_upto_region 32 with fail
              have HAD := Lib.hid (HA7.out.more (below_drewN (Below.refl _ _) 1 : Below w7.heap.size w7 w7.drew))
              clear HA7
              have HTD := Lib.hid (show TbAt w7.drew d (hurtT q (victims q x)) m' from HAD.out.tb)
              have hS : w7.drew.cell? ⟨p2, 0, none⟩ = some (.string x.key) ∧ w7.drew.cell? ⟨p2, 1, none⟩ = some (.int .i64 x.id.n) ∧ w7.drew.cell? ⟨p2, 2, none⟩ = some (.int .i64 x.id.c) ∧ w7.drew.cell? ⟨p2, 3, none⟩ = some (.int .i64 x.mode) ∧ w7.drew.cell? ⟨d, 2, none⟩ = some (.slice m'.aw q.wait.length m'.cw) := ⟨HAD.out.b2.cell 0, HAD.out.b2.cell 1, HAD.out.b2.cell 2, HAD.out.b2.cell 3, HTD.out.c2⟩
              have HPT := Lib.hid (put_any m'.aw m'.cw q.wait x w7.drew HTD.out.ow HTD.out.good.sw (by have := HH.out.fh; omega))
              unfold InsAtL lkV at HPT
              refine wp_region_last_held (S := fun w' => w'.cell? ⟨p2, 0, none⟩ = some (.string x.key) ∧ w'.cell? ⟨p2, 1, none⟩ = some (.int .i64 x.id.n) ∧ w'.cell? ⟨p2, 2, none⟩ = some (.int .i64 x.id.c) ∧ w'.cell? ⟨p2, 3, none⟩ = some (.int .i64 x.mode) ∧ w'.cell? ⟨d, 2, none⟩ = some (.slice m'.aw q.wait.length m'.cw)) (ops := #[{ dst := some 174, op := Op.move (Operand.tmp 0), type := 23, pos := "locks.go:129", after := #[], guard := none }, { dst := some 175, op := Op.move (Operand.tmp 0), type := 23, pos := "locks.go:129", after := #[], guard := none }, { dst := some 176, op := Op.nilCheck (Operand.tmp 175), type := 0, pos := "locks.go:129", after := #[{ on := 1, ground := Ground.data }], guard := none }, { dst := some 177, op := Op.fieldAddr 47 (Operand.tmp 176) 2, type := 0, pos := "locks.go:129", after := #[{ on := 2, ground := Ground.data }], guard := none }, { dst := some 178, op := Op.load 34 (Operand.tmp 177), type := 34, pos := "locks.go:129", after := #[{ on := 3, ground := Ground.data }], guard := none }, { dst := some 179, op := Op.load 62 (Operand.tmp 10), type := 62, pos := "locks.go:129", after := #[], guard := none }, { dst := some 180, op := Op.call { callee := Callee.value (Operand.func 45), args := #[Operand.tmp 178, Operand.tmp 179], argTypes := #[34, 62] }, type := 34, pos := "locks.go:129", after := #[{ on := 4, ground := Ground.data }, { on := 5, ground := Ground.data }], guard := none }, { dst := some 181, op := Op.nilCheck (Operand.tmp 174), type := 0, pos := "locks.go:129", after := #[{ on := 0, ground := Ground.data }, { on := 0, ground := Ground.phase }, { on := 1, ground := Ground.phase }, { on := 2, ground := Ground.phase }, { on := 3, ground := Ground.phase }, { on := 4, ground := Ground.phase }, { on := 5, ground := Ground.phase }, { on := 6, ground := Ground.phase }], guard := none }, { dst := some 182, op := Op.fieldAddr 47 (Operand.tmp 181) 2, type := 0, pos := "locks.go:129", after := #[{ on := 7, ground := Ground.data }, { on := 0, ground := Ground.phase }, { on := 1, ground := Ground.phase }, { on := 2, ground := Ground.phase }, { on := 3, ground := Ground.phase }, { on := 4, ground := Ground.phase }, { on := 5, ground := Ground.phase }, { on := 6, ground := Ground.phase }], guard := none }]) (o := { dst := none, op := Op.store 34 (Operand.tmp 182) (Operand.tmp 180), type := 0, pos := "locks.go:129", after := #[{ on := 8, ground := Ground.data }, { on := 6, ground := Ground.data }, { on := 6, ground := Ground.chain }, { on := 0, ground := Ground.phase }, { on := 1, ground := Ground.phase }, { on := 2, ground := Ground.phase }, { on := 3, ground := Ground.phase }, { on := 4, ground := Ground.phase }, { on := 5, ground := Ground.phase }, { on := 6, ground := Ground.phase }], guard := none }) rfl (by kernel_rfl) (by kernel_rfl) (by kernel_rfl) hS (fun hHeld => ?_)
              refine takes [0, 1, 2, 3, 4, 5] 3 (by kernel_rfl) (by assumption) ?_
              iterate 6 (refine tkY rfl (fun _ _ _ h => h) rfl (by ((intro w hSw); (try dsimp only at hSw); go_simp; (try with_reducible rfl))) ?_; try simp only [Act.put, List.setIfInBounds_toArray, List.set_cons_zero, List.set_cons_succ])
              refine tkE ?_
              refine wpAnyH_ready (rs := [6]) (by kernel_rfl) (by simp) ?_
              refine readyC rfl (fun K hK => ?_) ?_
              ·
                go_simp
                go_at_call 45
                refine HPT.out.mono ?_
                rintro e w16 ⟨A2, c2, rfl, ho, hm⟩
                have HO16 := Lib.hid ho
                have HM16 := Lib.hid hm
                clear ho hm
                have hc8 : w16.cell? ⟨p2, 0, none⟩ = some (.string x.key) ∧ w16.cell? ⟨p2, 1, none⟩ = some (.int .i64 x.id.n) ∧ w16.cell? ⟨p2, 2, none⟩ = some (.int .i64 x.id.c) ∧ w16.cell? ⟨p2, 3, none⟩ = some (.int .i64 x.mode) ∧ w16.cell? ⟨d, 2, none⟩ = some (.slice m'.aw q.wait.length m'.cw) := by
                  have z1 := HM16.out.kept.blk HAD.out.b2 (fun hm => HAD.out.bp.1.2 (by simp only [fpT, List.mem_cons, List.mem_append]; simp [hm]))
                  have z2 := HM16.out.kept.blk HTD.out.blk HTD.out.dw
                  exact ⟨z1.cell 0, z1.cell 1, z1.cell 2, z1.cell 3, z2.cell 2⟩
                have HD16 := Lib.hid (HM16.out.kept.blk HTD.out.blk HTD.out.dw)
                go_wp2_with fail
                refine hK.out _ _ (hc8) (fun hHeld => ?_)
                clear hK K
                try simp only [Act.put, List.setIfInBounds_toArray, List.set_cons_zero, List.set_cons_succ]
                refine takes [7, 8] 0 (by kernel_rfl) (by assumption) ?_
                iterate 2 (refine tkY rfl (fun _ _ _ h => h) rfl (by ((intro w hSw); (try dsimp only at hSw); go_simp; (try with_reducible rfl))) ?_; try simp only [Act.put, List.setIfInBounds_toArray, List.set_cons_zero, List.set_cons_succ])
                refine tkE ?_
                refine wpAnyH_done (by kernel_rfl) ?_ _
                have f4 := HD16.out.frozen 2
                have z4 := hHeld.2.2.2.2
                have HF := Lib.hid (HTD.out.setW HO16.out HM16.out (by have := HGA.out; rw [HY.out.2.1] at this; exact this) (by have := HSZ.out; rw [HY.out.2.1] at this; exact this))
                have HFIN := Lib.hid (HAD.out.finish (t' := askT q x) (by rw [HY.out.2.1]; exact HF.out.1) HF.out.2)
                refine withLast_go (fun K hK => ?_)
                clear hHeld
                go_simp
                refine hK _ _ ?_
                clear hK K f4 z4 HF
                obtain ⟨w17, hw17⟩ : ∃ w17, w17 = w16.setCells d 2 [.slice A2 (ins ah x q.wait).length c2] := ⟨_, rfl⟩
                rw [← hw17] at HFIN
                have hw17b : w16.setCell ⟨d, 2, none⟩ (.slice A2 (ins ah x q.wait).length c2) = w17 := hw17.symm
                rw [hw17b]
                clear hw17 hw17b
                go_wp2
                go_ret2
                unfold AskEnds
                rw [HY.out.1, HY.out.2.2]
                exact ⟨A, c, rfl, HFIN.out⟩
              exact AllReadyH.nil
    exact AllReadyH.nil
  exact AllReadyH.nil
end Go.Proofs.YtpidpdbjjdkhoaaGreat
