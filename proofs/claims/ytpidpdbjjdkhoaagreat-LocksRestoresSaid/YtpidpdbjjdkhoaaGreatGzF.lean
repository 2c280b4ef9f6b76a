/- Locks, the reference: a list of the table replaced; Ask. -/
import Derived.Test.YtpidpdbjjdkhoaaGreatGzE
namespace Go.Proofs.YtpidpdbjjdkhoaaGreat
open Go.RowKit
set_option linter.unusedSimpArgs false
set_option linter.unusedVariables false
attribute [local go_sem ↓] Go.wp_at_zero Go.wp_at_succ

theorem RfAt.setH {w w4 : World} {d : Nat} {q : Tb} {m : TbM} (h : RfAt w d q m) {l : List Lk} {A1 : Option Addr} {c1 : Nat} (hb : Below w.heap.size w w4) (ho : w4.ownsRow 0 62 4 (.slice A1 l.length c1) l.length (rc lkR l)) (hf : ∀ k ∈ ob A1, w.heap.size ≤ k) (hn : l.length + q.wait.length ≤ 1000) :
    RfAt (w4.setCells d 1 [.slice A1 l.length c1]) d ⟨q.most, l, q.wait, q.prep, q.hurt⟩ ⟨A1, c1, m.aw, m.cw, m.ap, m.cp, m.au, m.cu⟩ ∧ Moves (fpT d m) (fpT d ⟨A1, c1, m.aw, m.cw, m.ap, m.cp, m.au, m.cu⟩) w (w4.setCells d 1 [.slice A1 l.length c1]) := by
  have hk2 : Kept [d] w4 (w4.setCells d 1 [.slice A1 l.length c1]) := keptAll _ (Kept.refl _ _) (.inl (by simp))
  refine ⟨⟨Blk.setAll [.slice A1 l.length c1] (p := 1) (h.blk.below hb h.blk.lt), hk2.own ho (fun g hg => by simp only [List.mem_singleton]; rintro rfl; have := hf g (ownBlock_mem.1 hg); have := h.blk.lt; omega), hk2.own ((Kept.of_below (S := []) hb).own h.ow (by simp)) (fun g hg => by simp only [List.mem_singleton]; rintro rfl; exact own_blk_ne h.ow h.blk (by decide) hg), hk2.own ((Kept.of_below (S := []) hb).own h.op (by simp)) (fun g hg => by simp only [List.mem_singleton]; rintro rfl; exact own_blk_ne h.op h.blk (by decide) hg), hk2.own ((Kept.of_below (S := []) hb).own h.ou (by simp)) (fun g hg => by simp only [List.mem_singleton]; rintro rfl; exact own_blk_ne h.ou h.blk (by decide) hg), hn, h.fm⟩, ⟨((Kept.of_below (S := [d]) hb).trans hk2 (fun y hy => .inl hy)).mono (fun y hy => by simp only [List.mem_singleton] at hy; subst hy; simp [fpT]), fun y hy => ?_⟩⟩
  simp only [fpT, List.mem_cons, List.mem_append] at hy ⊢
  rcases hy with rfl | hy | hy | hy | hy <;> first | (exact .inl (by simp)) | (exact .inl (by simp [hy])) | (exact .inr (hf y hy))
theorem RfAt.setW {w w4 : World} {d : Nat} {q : Tb} {m : TbM} (h : RfAt w d q m) {l : List Lk} {A1 : Option Addr} {c1 : Nat} (hb : Below w.heap.size w w4) (ho : w4.ownsRow 0 62 4 (.slice A1 l.length c1) l.length (rc lkR l)) (hf : ∀ k ∈ ob A1, w.heap.size ≤ k) (hn : q.held.length + l.length ≤ 1000) :
    RfAt (w4.setCells d 2 [.slice A1 l.length c1]) d ⟨q.most, q.held, l, q.prep, q.hurt⟩ ⟨m.ah, m.ch, A1, c1, m.ap, m.cp, m.au, m.cu⟩ ∧ Moves (fpT d m) (fpT d ⟨m.ah, m.ch, A1, c1, m.ap, m.cp, m.au, m.cu⟩) w (w4.setCells d 2 [.slice A1 l.length c1]) := by
  have hk2 : Kept [d] w4 (w4.setCells d 2 [.slice A1 l.length c1]) := keptAll _ (Kept.refl _ _) (.inl (by simp))
  refine ⟨⟨Blk.setAll [.slice A1 l.length c1] (p := 2) (h.blk.below hb h.blk.lt), hk2.own ((Kept.of_below (S := []) hb).own h.oh (by simp)) (fun g hg => by simp only [List.mem_singleton]; rintro rfl; exact own_blk_ne h.oh h.blk (by decide) hg), hk2.own ho (fun g hg => by simp only [List.mem_singleton]; rintro rfl; have := hf g (ownBlock_mem.1 hg); have := h.blk.lt; omega), hk2.own ((Kept.of_below (S := []) hb).own h.op (by simp)) (fun g hg => by simp only [List.mem_singleton]; rintro rfl; exact own_blk_ne h.op h.blk (by decide) hg), hk2.own ((Kept.of_below (S := []) hb).own h.ou (by simp)) (fun g hg => by simp only [List.mem_singleton]; rintro rfl; exact own_blk_ne h.ou h.blk (by decide) hg), hn, h.fm⟩, ⟨((Kept.of_below (S := [d]) hb).trans hk2 (fun y hy => .inl hy)).mono (fun y hy => by simp only [List.mem_singleton] at hy; subst hy; simp [fpT]), fun y hy => ?_⟩⟩
  simp only [fpT, List.mem_cons, List.mem_append] at hy ⊢
  rcases hy with rfl | hy | hy | hy | hy <;> first | (exact .inl (by simp)) | (exact .inl (by simp [hy])) | (exact .inr (hf y hy))
theorem RfAt.setP {w w4 : World} {d : Nat} {q : Tb} {m : TbM} (h : RfAt w d q m) {l : List Idn} {A1 : Option Addr} {c1 : Nat} (hb : Below w.heap.size w w4) (ho : w4.ownsRow 0 29 2 (.slice A1 l.length c1) l.length (rc idR l)) (hf : ∀ k ∈ ob A1, w.heap.size ≤ k) (hn : l.length ≤ 8796093022208) :
    RfAt (w4.setCells d 3 [.slice A1 l.length c1]) d ⟨q.most, q.held, q.wait, l, q.hurt⟩ ⟨m.ah, m.ch, m.aw, m.cw, A1, c1, m.au, m.cu⟩ ∧ Moves (fpT d m) (fpT d ⟨m.ah, m.ch, m.aw, m.cw, A1, c1, m.au, m.cu⟩) w (w4.setCells d 3 [.slice A1 l.length c1]) := by
  have hk2 : Kept [d] w4 (w4.setCells d 3 [.slice A1 l.length c1]) := keptAll _ (Kept.refl _ _) (.inl (by simp))
  refine ⟨⟨Blk.setAll [.slice A1 l.length c1] (p := 3) (h.blk.below hb h.blk.lt), hk2.own ((Kept.of_below (S := []) hb).own h.oh (by simp)) (fun g hg => by simp only [List.mem_singleton]; rintro rfl; exact own_blk_ne h.oh h.blk (by decide) hg), hk2.own ((Kept.of_below (S := []) hb).own h.ow (by simp)) (fun g hg => by simp only [List.mem_singleton]; rintro rfl; exact own_blk_ne h.ow h.blk (by decide) hg), hk2.own ho (fun g hg => by simp only [List.mem_singleton]; rintro rfl; have := hf g (ownBlock_mem.1 hg); have := h.blk.lt; omega), hk2.own ((Kept.of_below (S := []) hb).own h.ou (by simp)) (fun g hg => by simp only [List.mem_singleton]; rintro rfl; exact own_blk_ne h.ou h.blk (by decide) hg), h.fh, ⟨hn, h.fm.2⟩⟩, ⟨((Kept.of_below (S := [d]) hb).trans hk2 (fun y hy => .inl hy)).mono (fun y hy => by simp only [List.mem_singleton] at hy; subst hy; simp [fpT]), fun y hy => ?_⟩⟩
  simp only [fpT, List.mem_cons, List.mem_append] at hy ⊢
  rcases hy with rfl | hy | hy | hy | hy <;> first | (exact .inl (by simp)) | (exact .inl (by simp [hy])) | (exact .inr (hf y hy))
theorem RfAt.setU {w w4 : World} {d : Nat} {q : Tb} {m : TbM} (h : RfAt w d q m) {l : List Idn} {A1 : Option Addr} {c1 : Nat} (hb : Below w.heap.size w w4) (ho : w4.ownsRow 0 29 2 (.slice A1 l.length c1) l.length (rc idR l)) (hf : ∀ k ∈ ob A1, w.heap.size ≤ k) (hn : l.length ≤ 8796093022208) :
    RfAt (w4.setCells d 4 [.slice A1 l.length c1]) d ⟨q.most, q.held, q.wait, q.prep, l⟩ ⟨m.ah, m.ch, m.aw, m.cw, m.ap, m.cp, A1, c1⟩ ∧ Moves (fpT d m) (fpT d ⟨m.ah, m.ch, m.aw, m.cw, m.ap, m.cp, A1, c1⟩) w (w4.setCells d 4 [.slice A1 l.length c1]) := by
  have hk2 : Kept [d] w4 (w4.setCells d 4 [.slice A1 l.length c1]) := keptAll _ (Kept.refl _ _) (.inl (by simp))
  refine ⟨⟨Blk.setAll [.slice A1 l.length c1] (p := 4) (h.blk.below hb h.blk.lt), hk2.own ((Kept.of_below (S := []) hb).own h.oh (by simp)) (fun g hg => by simp only [List.mem_singleton]; rintro rfl; exact own_blk_ne h.oh h.blk (by decide) hg), hk2.own ((Kept.of_below (S := []) hb).own h.ow (by simp)) (fun g hg => by simp only [List.mem_singleton]; rintro rfl; exact own_blk_ne h.ow h.blk (by decide) hg), hk2.own ((Kept.of_below (S := []) hb).own h.op (by simp)) (fun g hg => by simp only [List.mem_singleton]; rintro rfl; exact own_blk_ne h.op h.blk (by decide) hg), hk2.own ho (fun g hg => by simp only [List.mem_singleton]; rintro rfl; have := hf g (ownBlock_mem.1 hg); have := h.blk.lt; omega), h.fh, ⟨h.fm.1, hn⟩⟩, ⟨((Kept.of_below (S := [d]) hb).trans hk2 (fun y hy => .inl hy)).mono (fun y hy => by simp only [List.mem_singleton] at hy; subst hy; simp [fpT]), fun y hy => ?_⟩⟩
  simp only [fpT, List.mem_cons, List.mem_append] at hy ⊢
  rcases hy with rfl | hy | hy | hy | hy <;> first | (exact .inl (by simp)) | (exact .inl (by simp [hy])) | (exact .inr (hf y hy))
theorem conf_of {q : Tb} (hg : Good q) {x y : Lk} (hx : soundE x = 0) (hy : y ∈ q.held) : confR y x = conf y x := confR_eq (sound_mode (hg.hs y hy)) (sound_mode hx)
theorem may_free {q : Tb} (hg : Good q) {x : Lk} (hx : soundE x = 0) : (!(q.wait.any fun y => confR y x && ol y.id x.id) && !(q.held.any fun y => confR y x)) = freeB q x := by
  have h : ∀ l : List Lk, (∀ y ∈ l, soundE y = 0) → (l.any fun y => confR y x && ol y.id x.id) = l.any fun y => conf y x && ol y.id x.id := fun l => by
    induction l with
    | nil => intro _; rfl
    | cons y l ih =>
      intro hl
      rw [List.any_cons, List.any_cons, ih (fun z hz => hl z (List.mem_cons_of_mem _ hz)), confR_eq (sound_mode (hl y (List.mem_cons_self ..))) (sound_mode hx)]
  unfold freeB
  rw [h _ hg.ws, any_confR hg.hs hx, Bool.and_comm]
theorem RfAt.drew {w : World} {g : Nat} {q : Tb} {n : TbM} (h : RfAt w g q n) : RfAt w.drew g q n := h.below (below_drewN (Below.refl _ _) 1)
def RAskEnds (g : Nat) (q : Tb) (n : TbM) (x : Lk) (w : World) (e : Ending) (w' : World) : Prop :=
  ∃ A c, e = .returned (.tuple #[.int .i64 (askE q x), .slice A (askH q x).length c]) ∧ w'.ownsRow 0 29 2 (.slice A (askH q x).length c) (askH q x).length (rc idR (askH q x)) ∧ (∀ k ∈ ob A, w.heap.size ≤ k) ∧
    ∃ n', RfAt w' g (askT q x) n' ∧ Moves (fpT g n) (fpT g n') w w' ∧ ∀ k ∈ ob A, k ∉ fpT g n'
theorem rask_fail {g : Nat} {q : Tb} {n : TbM} {x : Lk} {w w' : World} {c : Int} (hr : refuse q x = some c) (h : RfAt w g q n) (hb : Below w.heap.size w w') : RAskEnds g q n x w (.returned (.tuple #[.int .i64 c, .slice none 0 0])) w' := by
  obtain ⟨h1, h2, h3⟩ := ask_some hr
  unfold RAskEnds
  rw [h1, h2, h3]
  exact ⟨none, 0, rfl, World.ownsRow_nil _ _ _ _, by simp [ob], n, h.below hb, Moves.of_below hb, by simp [ob]⟩
/-- the victims are gathered -/
def RaRel (q : Tb) (x : Lk) (w : World) (o i : Value) (wr : World) : Prop := ∃ k : Nat, i = .int .i64 k ∧ k ≤ q.held.length ∧ OutAt idR 29 w (vk q x k) o wr
/-- the victims are marked: the state behind k of them -/
structure RaSt (g : Nat) (q : Tb) (n : TbM) (x : Lk) (p2 : Nat) (V : List Idn) (A : Option Addr) (c : Nat) (w : World) (k : Nat) (n' : TbM) (wr : World) : Prop where
  rf : RfAt wr g (hurtT q (V.take k)) n'
  mv : Moves (fpT g n) (fpT g n') w wr
  own : wr.ownsRow 0 29 2 (.slice A V.length c) V.length (rc idR V)
  fr : ∀ y ∈ ob A, w.heap.size ≤ y
  ap : ∀ y ∈ ob A, y ∉ fpT g n'
  b2 : Blk wr p2 62 #[.string x.key, .int .i64 x.id.n, .int .i64 x.id.c, .int .i64 x.mode]
  bp : p2 ∉ fpT g n'
def RmRel (g : Nat) (q : Tb) (n : TbM) (x : Lk) (p2 : Nat) (V : List Idn) (A : Option Addr) (c : Nat) (w : World) (i : Value) (wr : World) : Prop := ∃ (k : Nat) (n' : TbM), i = .int .i64 k ∧ k ≤ V.length ∧ RaSt g q n x p2 V A c w k n' wr
section
variable {g : Nat} {q : Tb} {n : TbM} {x : Lk} {p2 : Nat} {V : List Idn} {A : Option Addr} {c : Nat} {w wr w2 : World} {k k2 : Nat} {n' n2 : TbM}
theorem RaSt.below (h : RaSt g q n x p2 V A c w k n' wr) (hb : Below wr.heap.size wr w2) : RaSt g q n x p2 V A c w k n' w2 :=
  ⟨h.rf.below hb, h.mv.trans (Moves.of_below hb), (Kept.of_below (S := []) hb).own h.own (by simp), h.fr, h.ap, h.b2.below hb h.b2.lt, h.bp⟩
theorem RaSt.step (h : RaSt g q n x p2 V A c w k n' wr) (hr : RfAt w2 g (hurtT q (V.take k2)) n2) (hm : Moves (fpT g n') (fpT g n2) wr w2) : RaSt g q n x p2 V A c w k2 n2 w2 :=
  ⟨hr, h.mv.trans hm, hm.kept.own h.own (fun y hy hf => h.ap y (ownBlock_mem.1 hy) hf), h.fr, fun y hy hf => (hm.foot y hf).elim (h.ap y hy) (fun h1 => by have := own_lt h.own y hy; omega), hm.kept.blk h.b2 h.bp, fun hf => (hm.foot p2 hf).elim h.bp (fun h1 => by have := h.b2.lt; omega)⟩
theorem RaSt.ends {t' : Tb} (h : RaSt g q n x p2 V A c w k n' wr) (hr : RfAt w2 g t' n2) (hm : Moves (fpT g n') (fpT g n2) wr w2) :
    w2.ownsRow 0 29 2 (.slice A V.length c) V.length (rc idR V) ∧ (∀ k ∈ ob A, w.heap.size ≤ k) ∧ ∃ n', RfAt w2 g t' n' ∧ Moves (fpT g n) (fpT g n') w w2 ∧ ∀ k ∈ ob A, k ∉ fpT g n' :=
  ⟨hm.kept.own h.own (fun y hy hf => h.ap y (ownBlock_mem.1 hy) hf), h.fr, n2, hr, h.mv.trans hm, fun y hy hf => (hm.foot y hf).elim (h.ap y hy) (fun h1 => by have := own_lt h.own y hy; omega)⟩
end
theorem hurt_on {q : Tb} {V : List Idn} {k : Nat} {i : Idn} (h : V[k]? = some i) : addAll q.hurt (V.take (k + 1)) = ins ol i (addAll q.hurt (V.take k)) := by rw [take_on h, addAll_on]
set_option maxHeartbeats 16000000 in
set_option maxRecDepth 100000 in
theorem rask_any {w : World} {g : Nat} {q : Tb} {n : TbM} (h : RfAt w g q n) (hgd : Good q) (x : Lk) (hu : q.hurt.length ≤ 900000) (hz : (askT q x).held.length + (askT q x).wait.length ≤ 1000) :
    Calls Tryz.prog 15 #[.pointer (some ⟨g, 0, none⟩), idV x.id, .string x.key, .int .i64 x.mode] w (RAskEnds g q n x w) := by
  have HH := Lib.hid h
  have HGD := Lib.hid hgd
  have HU := Lib.hid hu
  have HSZ := Lib.hid hz
  have HCF := Lib.hid (fun y w => rconf_any y x w)
  have HOL := Lib.hid (fun i w => rolder_any x.id i w)
  unfold lkV at HCF
  unfold idV at HOL
  clear h hgd hu hz
  unfold idV
  go_enter Tryz.func15, Tryz.ntmps15
  go_upto_region 2 with fail
  have k1 := (Blk.new w 29 #[.int .i64 x.id.n, .int .i64 x.id.c]).alloc (.cells #[.string x.key, .int .i64 x.id.n, .int .i64 x.id.c, .int .i64 x.mode] 62)
  have k2 := Blk.new (w.alloc (.cells #[.int .i64 x.id.n, .int .i64 x.id.c] 29)) 62 #[.string x.key, .int .i64 x.id.n, .int .i64 x.id.c, .int .i64 x.mode]
  simp only [World.size_alloc] at k2
  have HB := Lib.hid ((below_alloc w (.cells #[.int .i64 x.id.n, .int .i64 x.id.c] 29)).alloc (by simp) (.cells #[.string x.key, .int .i64 x.id.n, .int .i64 x.id.c, .int .i64 x.mode] 62))
  obtain ⟨w2, hw2⟩ : ∃ w2, w2 = ((w.alloc (.cells #[.int .i64 x.id.n, .int .i64 x.id.c] 29)).alloc (.cells #[.string x.key, .int .i64 x.id.n, .int .i64 x.id.c, .int .i64 x.mode] 62)) := ⟨_, rfl⟩
  obtain ⟨p1, hp1⟩ : ∃ p1, p1 = w.heap.size := ⟨_, rfl⟩
  obtain ⟨p2, hp2⟩ : ∃ p2, p2 = w.heap.size + 1 := ⟨_, rfl⟩
  rw [← hw2] at HB k1 k2
  rw [← hp1] at k1
  rw [← hp2] at k2
  rw [← hw2]
  rw [← hp2]
  rw [← hp1]
  have HP2 : Hid (w.heap.size ≤ p2) := Lib.hid (by omega)
  clear hw2 hp1 hp2
  have HT2 := Lib.hid (HH.out.below HB.out)
  have HK1 := Lib.hid k1
  have HK2 := Lib.hid k2
  have x20 : w2.cell? ⟨p2, 0, none⟩ = some (.string x.key) := k2.cell 0
  have x21 : w2.cell? ⟨p2, 1, none⟩ = some (.int .i64 x.id.n) := k2.cell 1
  have x22 : w2.cell? ⟨p2, 2, none⟩ = some (.int .i64 x.id.c) := k2.cell 2
  have x23 : w2.cell? ⟨p2, 3, none⟩ = some (.int .i64 x.mode) := k2.cell 3
  have HRF := Lib.hid (rrefused_any HT2.out HGD.out x)
  unfold RfuEnds lkV at HRF
  clear k1 k2
  go_wp2_with fail
  refine HRF.out.mono ?_
  clear HRF x20 x21 x22 x23
  rintro e w3 ⟨he, hb3⟩
  have HB3 := Lib.hid (HB.out.trans (hb3.mono HB.out.size))
  have HT3 := Lib.hid (HT2.out.below hb3)
  have HK13 := Lib.hid (HK1.out.below hb3 HK1.out.lt)
  have HK23 := Lib.hid (HK2.out.below hb3 HK2.out.lt)
  clear hb3 HB HT2 HK1 HK2
  cases hr : refuse q x with
  | some E =>
    rw [hr] at he
    simp only [Option.getD_some, Option.isSome_some] at he
    subst he
    have HR := Lib.hid hr
    clear hr
    go_wp2
    go_ret2
    exact rask_fail HR.out HH.out HB3.out
  | none =>
    rw [hr] at he
    simp only [Option.getD_none, Option.isSome_none] at he
    subst he
    have HR := Lib.hid hr
    have HX0 := Lib.hid (refuse_none hr).1
    have H0 : Hid (OutAt idR 29 w3 ([] : List Idn) (.slice none 0 0) w3) := Lib.hid (OutAt.none_ w3)
    clear hr
    go_wp2
    go_loopw [13, 14] (RaRel q x w3) (fun _ i _ => q.held.length - (intOf i).toNat)
    case atStart => exact ⟨0, rfl, Nat.zero_le _, by rw [vk_0]; exact H0.out⟩
    case round =>
      clear H0
      obtain ⟨k, rfl, hk, A1, c1, rfl, ho, hf, hb⟩ := hrel
      have HO := Lib.hid ho
      have HFR := Lib.hid hf
      have HBR := Lib.hid hb
      have hfh := HT3.out.fh
      have hfm := HT3.out.fm
      have y1 : wr.cell? ⟨g, 1, none⟩ = some (.slice n.ah q.held.length n.ch) := (HT3.out.below hb).c1
      have hvl := vk_len q x k
      obtain ⟨V, hV⟩ : ∃ V, V = vk q x k := ⟨_, rfl⟩
      rw [← hV] at HO hvl
      rw [← hV]
      have HVV := Lib.hid hV
      clear ho hf hb hV
      by_cases hlt : k < q.held.length
      · have HOA : Hid (OutAt idR 29 w3 V (.slice A1 V.length c1) wr) := Lib.hid ⟨A1, c1, rfl, HO.out, HFR.out, HBR.out⟩
        obtain ⟨b, off, hA, hcell⟩ := rowL (Reads.of_own HT3.out.oh) (by omega)
        obtain ⟨a0, a1, a2, a3⟩ := hcell k hlt wr HBR.out
        rw [hA] at y1
        have HGY : Hid (q.held[k]? = some (gr lkR q.held k)) := Lib.hid (gr_get hlt)
        have HCO := Lib.hid (conf_of HGD.out HX0.out (gr_mem (R := lkR) hlt))
        obtain ⟨y, hy⟩ : ∃ y, y = gr lkR q.held k := ⟨_, rfl⟩
        rw [← hy] at a0 a1 a2 a3 HGY HCO
        have kL : (0 : Int) ≤ (k : Int) := by omega
        have kU : (k : Int) < (q.held.length : Int) := by omega
        have k3 := Blk.new wr 62 #[.string y.key, .int .i64 y.id.n, .int .i64 y.id.c, .int .i64 y.mode]
        have hba := below_alloc wr (.cells #[.string y.key, .int .i64 y.id.n, .int .i64 y.id.c, .int .i64 y.mode] 62)
        clear hy hcell
        go_upto_region 10 with fail
        obtain ⟨w6, hw6⟩ : ∃ w6, w6 = wr.alloc (.cells #[.string y.key, .int .i64 y.id.n, .int .i64 y.id.c, .int .i64 y.mode] 62) := ⟨_, rfl⟩
        obtain ⟨p3, hp3⟩ : ∃ p3, p3 = wr.heap.size := ⟨_, rfl⟩
        rw [← hw6] at k3 hba
        rw [← hp3] at k3
        rw [← hw6, ← hp3]
        have HK6 := Lib.hid k3
        have HB6 := Lib.hid hba
        have HB36 := Lib.hid (HBR.out.trans (HB6.out.mono HBR.out.size))
        have HT6 := Lib.hid (HT3.out.below HB36.out)
        have HD6 : Hid (Below w6.heap.size w6 w6.drew) := Lib.hid (below_drewN (Below.refl _ _) 1)
        have hS : Hid (∀ w', Below w6.heap.size w6 w' → (w'.cell? ⟨p3, 0, none⟩ = some (.string y.key) ∧ w'.cell? ⟨p3, 1, none⟩ = some (.int .i64 y.id.n) ∧ w'.cell? ⟨p3, 2, none⟩ = some (.int .i64 y.id.c) ∧ w'.cell? ⟨p3, 3, none⟩ = some (.int .i64 y.mode) ∧ w'.cell? ⟨p2, 0, none⟩ = some (.string x.key) ∧ w'.cell? ⟨p2, 1, none⟩ = some (.int .i64 x.id.n) ∧ w'.cell? ⟨p2, 2, none⟩ = some (.int .i64 x.id.c) ∧ w'.cell? ⟨p2, 3, none⟩ = some (.int .i64 x.mode) ∧ w'.cell? ⟨p1, 0, none⟩ = some (.int .i64 x.id.n) ∧ w'.cell? ⟨p1, 1, none⟩ = some (.int .i64 x.id.c) ∧ w'.cell? ⟨g, 3, none⟩ = some (.slice n.ap q.prep.length n.cp) ∧ w'.cell? ⟨g, 4, none⟩ = some (.slice n.au q.hurt.length n.cu))) := Lib.hid (fun w' hb => by
          have hb3 := HB36.out.trans (hb.mono HB36.out.size)
          exact ⟨(HK6.out.below hb HK6.out.lt).cell 0, (HK6.out.below hb HK6.out.lt).cell 1, (HK6.out.below hb HK6.out.lt).cell 2, (HK6.out.below hb HK6.out.lt).cell 3, (HK23.out.below hb3 HK23.out.lt).cell 0, (HK23.out.below hb3 HK23.out.lt).cell 1, (HK23.out.below hb3 HK23.out.lt).cell 2, (HK23.out.below hb3 HK23.out.lt).cell 3, (HK13.out.below hb3 HK13.out.lt).cell 0, (HK13.out.below hb3 HK13.out.lt).cell 1, (HT3.out.below hb3).c3, (HT3.out.below hb3).c4⟩)
        clear hw6 hp3 k3 hba a0 a1 a2 a3 y1
        cases hcf : confR y x with
        | false =>
          have HN : Hid (vk q x (k + 1) = V) := Lib.hid (by rw [HVV.out, vk_on HGY.out, show victim q x y = false from vic_1 (HCO.out.symm.trans hcf)]; simp)
          go_wp2_with fail
          refine wp_region_heldH (by kernel_rfl) hS (HD6.out) (fun hHeld => ?_)
          refine takes [0, 1] 27 (by kernel_rfl) (by assumption) ?_
          iterate 2 (refine tkY rfl (fun _ _ _ h => h) rfl (by ((intro w hSw); (try dsimp only at hSw); go_simp; (try with_reducible rfl))) ?_; try simp only [Act.put, List.setIfInBounds_toArray, List.set_cons_zero, List.set_cons_succ])
          refine tkE ?_
          refine wpAnyH_ready (rs := [2]) (by kernel_rfl) (by simp) ?_
          refine readyC rfl (fun K hK => ?_) ?_
          ·
            go_simp
            go_at_call 47
            refine (HCF.out y _).mono ?_
            rintro e w7 ⟨he_, hb_⟩
            rw [hcf] at he_
            subst he_
            have HD7 : Hid (Below w6.heap.size w6 w7) := Lib.hid (HD6.out.trans (hb_.mono HD6.out.size))
            clear hb_
            go_wp2_with fail
            refine hK.out _ _ (by with_reducible exact hS.out _ HD7.out) (fun hHeld => ?_)
            clear hK K
            try simp only [Act.put, List.setIfInBounds_toArray, List.set_cons_zero, List.set_cons_succ]
            refine takes [3, 4, 5, 6, 7, 8, 9, 10, 11, 12, 13, 14, 15, 16, 17, 18, 19, 20, 21, 22, 23, 24, 25, 26, 27, 28] 0 (by kernel_rfl) (by assumption) ?_
            refine tkY rfl (fun _ _ _ h => h) rfl (by ((intro w hSw); (try dsimp only at hSw); go_simp; (try with_reducible rfl))) ?_; try simp only [Act.put, List.setIfInBounds_toArray, List.set_cons_zero, List.set_cons_succ]
            iterate 4 (refine tkN rfl (fun _ _ _ h => h) rfl ?_; try simp only [Act.put, List.setIfInBounds_toArray, List.set_cons_zero, List.set_cons_succ])
            iterate 2 (refine tkY rfl (fun _ _ _ h => h) rfl (by ((intro w hSw); (try dsimp only at hSw); go_simp; (try with_reducible rfl))) ?_; try simp only [Act.put, List.setIfInBounds_toArray, List.set_cons_zero, List.set_cons_succ])
            iterate 8 (refine tkN rfl (fun _ _ _ h => h) rfl ?_; try simp only [Act.put, List.setIfInBounds_toArray, List.set_cons_zero, List.set_cons_succ])
            iterate 2 (refine tkY rfl (fun _ _ _ h => h) rfl (by ((intro w hSw); (try dsimp only at hSw); go_simp; (try with_reducible rfl))) ?_; try simp only [Act.put, List.setIfInBounds_toArray, List.set_cons_zero, List.set_cons_succ])
            iterate 8 (refine tkN rfl (fun _ _ _ h => h) rfl ?_; try simp only [Act.put, List.setIfInBounds_toArray, List.set_cons_zero, List.set_cons_succ])
            refine tkY rfl (fun _ _ _ h => h) rfl (by ((intro w hSw); (try dsimp only at hSw); go_simp; (try with_reducible rfl))) ?_; try simp only [Act.put, List.setIfInBounds_toArray, List.set_cons_zero, List.set_cons_succ]
            refine tkE ?_
            refine wpAnyH_done (by kernel_rfl) ?_ _
            go_wp2
            go_roundw
            case rel =>
              refine ⟨k + 1, by go_num, by omega, ?_⟩
              rw [HN.out]
              exact OutAt.below HOA.out (HB6.out.trans (HD7.out.mono HB6.out.size))
            case measure => simp [intOf]; omega
          exact AllReadyH.nil
        | true =>
          cases hol : ol x.id y.id with
          | false =>
            have HN : Hid (vk q x (k + 1) = V) := Lib.hid (by rw [HVV.out, vk_on HGY.out, show victim q x y = false from vic_2 hol]; simp)
            go_wp2_with fail
            refine wp_region_heldH (by kernel_rfl) hS (HD6.out) (fun hHeld => ?_)
            refine takes [0, 1] 27 (by kernel_rfl) (by assumption) ?_
            iterate 2 (refine tkY rfl (fun _ _ _ h => h) rfl (by ((intro w hSw); (try dsimp only at hSw); go_simp; (try with_reducible rfl))) ?_; try simp only [Act.put, List.setIfInBounds_toArray, List.set_cons_zero, List.set_cons_succ])
            refine tkE ?_
            refine wpAnyH_ready (rs := [2]) (by kernel_rfl) (by simp) ?_
            refine readyC rfl (fun K hK => ?_) ?_
            ·
              go_simp
              go_at_call 47
              refine (HCF.out y _).mono ?_
              rintro e w7 ⟨he_, hb_⟩
              rw [hcf] at he_
              subst he_
              have HD7 : Hid (Below w6.heap.size w6 w7) := Lib.hid (HD6.out.trans (hb_.mono HD6.out.size))
              clear hb_
              go_wp2_with fail
              refine hK.out _ _ (by with_reducible exact hS.out _ HD7.out) (fun hHeld => ?_)
              clear hK K
              try simp only [Act.put, List.setIfInBounds_toArray, List.set_cons_zero, List.set_cons_succ]
              refine takes [3, 4, 5, 6] 22 (by kernel_rfl) (by assumption) ?_
              iterate 4 (refine tkY rfl (fun _ _ _ h => h) rfl (by ((intro w hSw); (try dsimp only at hSw); go_simp; (try with_reducible rfl))) ?_; try simp only [Act.put, List.setIfInBounds_toArray, List.set_cons_zero, List.set_cons_succ])
              refine tkE ?_
              refine wpAnyH_ready (rs := [7]) (by kernel_rfl) (by simp) ?_
              refine readyC rfl (fun K hK => ?_) ?_
              ·
                go_simp
                go_at_call 48
                refine (HOL.out y.id _).mono ?_
                rintro e w8 ⟨he_, hb_⟩
                rw [hol] at he_
                subst he_
                have HD8 : Hid (Below w6.heap.size w6 w8) := Lib.hid (HD7.out.trans (hb_.mono HD7.out.size))
                clear hb_
                go_wp2_with fail
                refine hK.out _ _ (by with_reducible exact hS.out _ HD8.out) (fun hHeld => ?_)
                clear hK K
                try simp only [Act.put, List.setIfInBounds_toArray, List.set_cons_zero, List.set_cons_succ]
                refine takes [8, 9, 10, 11, 12, 13, 14, 15, 16, 17, 18, 19, 20, 21, 22, 23, 24, 25, 26, 27, 28] 0 (by kernel_rfl) (by assumption) ?_
                iterate 2 (refine tkY rfl (fun _ _ _ h => h) rfl (by ((intro w hSw); (try dsimp only at hSw); go_simp; (try with_reducible rfl))) ?_; try simp only [Act.put, List.setIfInBounds_toArray, List.set_cons_zero, List.set_cons_succ])
                iterate 8 (refine tkN rfl (fun _ _ _ h => h) rfl ?_; try simp only [Act.put, List.setIfInBounds_toArray, List.set_cons_zero, List.set_cons_succ])
                iterate 2 (refine tkY rfl (fun _ _ _ h => h) rfl (by ((intro w hSw); (try dsimp only at hSw); go_simp; (try with_reducible rfl))) ?_; try simp only [Act.put, List.setIfInBounds_toArray, List.set_cons_zero, List.set_cons_succ])
                iterate 8 (refine tkN rfl (fun _ _ _ h => h) rfl ?_; try simp only [Act.put, List.setIfInBounds_toArray, List.set_cons_zero, List.set_cons_succ])
                refine tkY rfl (fun _ _ _ h => h) rfl (by ((intro w hSw); (try dsimp only at hSw); go_simp; (try with_reducible rfl))) ?_; try simp only [Act.put, List.setIfInBounds_toArray, List.set_cons_zero, List.set_cons_succ]
                refine tkE ?_
                refine wpAnyH_done (by kernel_rfl) ?_ _
                go_wp2
                go_roundw
                case rel =>
                  refine ⟨k + 1, by go_num, by omega, ?_⟩
                  rw [HN.out]
                  exact OutAt.below HOA.out (HB6.out.trans (HD8.out.mono HB6.out.size))
                case measure => simp [intOf]; omega
              exact AllReadyH.nil
            exact AllReadyH.nil
          | true =>
            cases hpr : hasI q.prep y.id with
            | true =>
              have HN : Hid (vk q x (k + 1) = V) := Lib.hid (by rw [HVV.out, vk_on HGY.out, show victim q x y = false from vic_3 hpr]; simp)
              go_wp2_with fail
              refine wp_region_heldH (by kernel_rfl) hS (HD6.out) (fun hHeld => ?_)
              refine takes [0, 1] 27 (by kernel_rfl) (by assumption) ?_
              iterate 2 (refine tkY rfl (fun _ _ _ h => h) rfl (by ((intro w hSw); (try dsimp only at hSw); go_simp; (try with_reducible rfl))) ?_; try simp only [Act.put, List.setIfInBounds_toArray, List.set_cons_zero, List.set_cons_succ])
              refine tkE ?_
              refine wpAnyH_ready (rs := [2]) (by kernel_rfl) (by simp) ?_
              refine readyC rfl (fun K hK => ?_) ?_
              ·
                go_simp
                go_at_call 47
                refine (HCF.out y _).mono ?_
                rintro e w7 ⟨he_, hb_⟩
                rw [hcf] at he_
                subst he_
                have HD7 : Hid (Below w6.heap.size w6 w7) := Lib.hid (HD6.out.trans (hb_.mono HD6.out.size))
                clear hb_
                go_wp2_with fail
                refine hK.out _ _ (by with_reducible exact hS.out _ HD7.out) (fun hHeld => ?_)
                clear hK K
                try simp only [Act.put, List.setIfInBounds_toArray, List.set_cons_zero, List.set_cons_succ]
                refine takes [3, 4, 5, 6] 22 (by kernel_rfl) (by assumption) ?_
                iterate 4 (refine tkY rfl (fun _ _ _ h => h) rfl (by ((intro w hSw); (try dsimp only at hSw); go_simp; (try with_reducible rfl))) ?_; try simp only [Act.put, List.setIfInBounds_toArray, List.set_cons_zero, List.set_cons_succ])
                refine tkE ?_
                refine wpAnyH_ready (rs := [7]) (by kernel_rfl) (by simp) ?_
                refine readyC rfl (fun K hK => ?_) ?_
                ·
                  go_simp
                  go_at_call 48
                  refine (HOL.out y.id _).mono ?_
                  rintro e w8 ⟨he_, hb_⟩
                  rw [hol] at he_
                  subst he_
                  have HD8 : Hid (Below w6.heap.size w6 w8) := Lib.hid (HD7.out.trans (hb_.mono HD7.out.size))
                  clear hb_
                  go_wp2_with fail
                  refine hK.out _ _ (by with_reducible exact hS.out _ HD8.out) (fun hHeld => ?_)
                  clear hK K
                  try simp only [Act.put, List.setIfInBounds_toArray, List.set_cons_zero, List.set_cons_succ]
                  refine takes [8, 9, 10, 11, 12, 13, 14, 15] 13 (by kernel_rfl) (by assumption) ?_
                  iterate 8 (refine tkY rfl (fun _ _ _ h => h) rfl (by ((intro w hSw); (try dsimp only at hSw); go_simp; (try with_reducible rfl))) ?_; try simp only [Act.put, List.setIfInBounds_toArray, List.set_cons_zero, List.set_cons_succ])
                  refine tkE ?_
                  refine wpAnyH_ready (rs := [16]) (by kernel_rfl) (by simp) ?_
                  refine readyC rfl (fun K hK => ?_) ?_
                  ·
                    go_simp
                    go_at_call 49
                    refine (has_any n.ap n.cp q.prep y.id w8 (Reads.of_own (HT6.out.below HD8.out).op) (by omega)).mono ?_
                    rintro e w9 ⟨he_, hb_⟩
                    rw [hpr] at he_
                    subst he_
                    have HD9 : Hid (Below w6.heap.size w6 w9) := Lib.hid (HD8.out.trans (hb_.mono HD8.out.size))
                    clear hb_
                    go_wp2_with fail
                    refine hK.out _ _ (by with_reducible exact hS.out _ HD9.out) (fun hHeld => ?_)
                    clear hK K
                    try simp only [Act.put, List.setIfInBounds_toArray, List.set_cons_zero, List.set_cons_succ]
                    refine takes [17, 18, 19, 20, 21, 22, 23, 24, 25, 26, 27, 28] 0 (by kernel_rfl) (by assumption) ?_
                    iterate 3 (refine tkY rfl (fun _ _ _ h => h) rfl (by ((intro w hSw); (try dsimp only at hSw); go_simp; (try with_reducible rfl))) ?_; try simp only [Act.put, List.setIfInBounds_toArray, List.set_cons_zero, List.set_cons_succ])
                    iterate 8 (refine tkN rfl (fun _ _ _ h => h) rfl ?_; try simp only [Act.put, List.setIfInBounds_toArray, List.set_cons_zero, List.set_cons_succ])
                    refine tkY rfl (fun _ _ _ h => h) rfl (by ((intro w hSw); (try dsimp only at hSw); go_simp; (try with_reducible rfl))) ?_; try simp only [Act.put, List.setIfInBounds_toArray, List.set_cons_zero, List.set_cons_succ]
                    refine tkE ?_
                    refine wpAnyH_done (by kernel_rfl) ?_ _
                    go_wp2
                    go_roundw
                    case rel =>
                      refine ⟨k + 1, by go_num, by omega, ?_⟩
                      rw [HN.out]
                      exact OutAt.below HOA.out (HB6.out.trans (HD9.out.mono HB6.out.size))
                    case measure => simp [intOf]; omega
                  exact AllReadyH.nil
                exact AllReadyH.nil
              exact AllReadyH.nil
            | false =>
              cases hhu : hasI q.hurt y.id with
              | true =>
                have HN : Hid (vk q x (k + 1) = V) := Lib.hid (by rw [HVV.out, vk_on HGY.out, show victim q x y = false from vic_4 hhu]; simp)
                go_wp2_with fail
                refine wp_region_heldH (by kernel_rfl) hS (HD6.out) (fun hHeld => ?_)
                refine takes [0, 1] 27 (by kernel_rfl) (by assumption) ?_
                iterate 2 (refine tkY rfl (fun _ _ _ h => h) rfl (by ((intro w hSw); (try dsimp only at hSw); go_simp; (try with_reducible rfl))) ?_; try simp only [Act.put, List.setIfInBounds_toArray, List.set_cons_zero, List.set_cons_succ])
                refine tkE ?_
                refine wpAnyH_ready (rs := [2]) (by kernel_rfl) (by simp) ?_
                refine readyC rfl (fun K hK => ?_) ?_
                ·
                  go_simp
                  go_at_call 47
                  refine (HCF.out y _).mono ?_
                  rintro e w7 ⟨he_, hb_⟩
                  rw [hcf] at he_
                  subst he_
                  have HD7 : Hid (Below w6.heap.size w6 w7) := Lib.hid (HD6.out.trans (hb_.mono HD6.out.size))
                  clear hb_
                  go_wp2_with fail
                  refine hK.out _ _ (by with_reducible exact hS.out _ HD7.out) (fun hHeld => ?_)
                  clear hK K
                  try simp only [Act.put, List.setIfInBounds_toArray, List.set_cons_zero, List.set_cons_succ]
                  refine takes [3, 4, 5, 6] 22 (by kernel_rfl) (by assumption) ?_
                  iterate 4 (refine tkY rfl (fun _ _ _ h => h) rfl (by ((intro w hSw); (try dsimp only at hSw); go_simp; (try with_reducible rfl))) ?_; try simp only [Act.put, List.setIfInBounds_toArray, List.set_cons_zero, List.set_cons_succ])
                  refine tkE ?_
                  refine wpAnyH_ready (rs := [7]) (by kernel_rfl) (by simp) ?_
                  refine readyC rfl (fun K hK => ?_) ?_
                  ·
                    go_simp
                    go_at_call 48
                    refine (HOL.out y.id _).mono ?_
                    rintro e w8 ⟨he_, hb_⟩
                    rw [hol] at he_
                    subst he_
                    have HD8 : Hid (Below w6.heap.size w6 w8) := Lib.hid (HD7.out.trans (hb_.mono HD7.out.size))
                    clear hb_
                    go_wp2_with fail
                    refine hK.out _ _ (by with_reducible exact hS.out _ HD8.out) (fun hHeld => ?_)
                    clear hK K
                    try simp only [Act.put, List.setIfInBounds_toArray, List.set_cons_zero, List.set_cons_succ]
                    refine takes [8, 9, 10, 11, 12, 13, 14, 15] 13 (by kernel_rfl) (by assumption) ?_
                    iterate 8 (refine tkY rfl (fun _ _ _ h => h) rfl (by ((intro w hSw); (try dsimp only at hSw); go_simp; (try with_reducible rfl))) ?_; try simp only [Act.put, List.setIfInBounds_toArray, List.set_cons_zero, List.set_cons_succ])
                    refine tkE ?_
                    refine wpAnyH_ready (rs := [16]) (by kernel_rfl) (by simp) ?_
                    refine readyC rfl (fun K hK => ?_) ?_
                    ·
                      go_simp
                      go_at_call 49
                      refine (has_any n.ap n.cp q.prep y.id w8 (Reads.of_own (HT6.out.below HD8.out).op) (by omega)).mono ?_
                      rintro e w9 ⟨he_, hb_⟩
                      rw [hpr] at he_
                      subst he_
                      have HD9 : Hid (Below w6.heap.size w6 w9) := Lib.hid (HD8.out.trans (hb_.mono HD8.out.size))
                      clear hb_
                      go_wp2_with fail
                      refine hK.out _ _ (by with_reducible exact hS.out _ HD9.out) (fun hHeld => ?_)
                      clear hK K
                      try simp only [Act.put, List.setIfInBounds_toArray, List.set_cons_zero, List.set_cons_succ]
                      refine takes [17, 18, 19, 20, 21, 22, 23, 24, 25] 3 (by kernel_rfl) (by assumption) ?_
                      iterate 9 (refine tkY rfl (fun _ _ _ h => h) rfl (by ((intro w hSw); (try dsimp only at hSw); go_simp; (try with_reducible rfl))) ?_; try simp only [Act.put, List.setIfInBounds_toArray, List.set_cons_zero, List.set_cons_succ])
                      refine tkE ?_
                      refine wpAnyH_ready (rs := [26]) (by kernel_rfl) (by simp) ?_
                      refine readyC rfl (fun K hK => ?_) ?_
                      ·
                        go_simp
                        go_at_call 49
                        refine (has_any n.au n.cu q.hurt y.id w9 (Reads.of_own (HT6.out.below HD9.out).ou) (by omega)).mono ?_
                        rintro e w10 ⟨he_, hb_⟩
                        rw [hhu] at he_
                        subst he_
                        have HD10 : Hid (Below w6.heap.size w6 w10) := Lib.hid (HD9.out.trans (hb_.mono HD9.out.size))
                        clear hb_
                        go_wp2_with fail
                        refine hK.out _ _ (by with_reducible exact hS.out _ HD10.out) (fun hHeld => ?_)
                        clear hK K
                        try simp only [Act.put, List.setIfInBounds_toArray, List.set_cons_zero, List.set_cons_succ]
                        refine takes [27, 28] 0 (by kernel_rfl) (by assumption) ?_
                        iterate 2 (refine tkY rfl (fun _ _ _ h => h) rfl (by ((intro w hSw); (try dsimp only at hSw); go_simp; (try with_reducible rfl))) ?_; try simp only [Act.put, List.setIfInBounds_toArray, List.set_cons_zero, List.set_cons_succ])
                        refine tkE ?_
                        refine wpAnyH_done (by kernel_rfl) ?_ _
                        go_wp2
                        go_roundw
                        case rel =>
                          refine ⟨k + 1, by go_num, by omega, ?_⟩
                          rw [HN.out]
                          exact OutAt.below HOA.out (HB6.out.trans (HD10.out.mono HB6.out.size))
                        case measure => simp [intOf]; omega
                      exact AllReadyH.nil
                    exact AllReadyH.nil
                  exact AllReadyH.nil
                exact AllReadyH.nil
              | false =>
                have HN : Hid (vk q x (k + 1) = V ++ [y.id]) := Lib.hid (by rw [HVV.out, vk_on HGY.out, show victim q x y = true from vic_5 (HCO.out.symm.trans hcf) hol hpr hhu]; simp)
                have HINS : Hid (ins ol y.id V = V ++ [y.id]) := Lib.hid (by rw [HVV.out]; exact ins_end (vk_lt HGD.out.sh HGY.out (HCO.out.symm.trans hcf)))
                go_wp2_with fail
                refine wp_region_heldH (by kernel_rfl) hS (HD6.out) (fun hHeld => ?_)
                refine takes [0, 1] 27 (by kernel_rfl) (by assumption) ?_
                iterate 2 (refine tkY rfl (fun _ _ _ h => h) rfl (by ((intro w hSw); (try dsimp only at hSw); go_simp; (try with_reducible rfl))) ?_; try simp only [Act.put, List.setIfInBounds_toArray, List.set_cons_zero, List.set_cons_succ])
                refine tkE ?_
                refine wpAnyH_ready (rs := [2]) (by kernel_rfl) (by simp) ?_
                refine readyC rfl (fun K hK => ?_) ?_
                ·
                  go_simp
                  go_at_call 47
                  refine (HCF.out y _).mono ?_
                  rintro e w7 ⟨he_, hb_⟩
                  rw [hcf] at he_
                  subst he_
                  have HD7 : Hid (Below w6.heap.size w6 w7) := Lib.hid (HD6.out.trans (hb_.mono HD6.out.size))
                  clear hb_
                  go_wp2_with fail
                  refine hK.out _ _ (by with_reducible exact hS.out _ HD7.out) (fun hHeld => ?_)
                  clear hK K
                  try simp only [Act.put, List.setIfInBounds_toArray, List.set_cons_zero, List.set_cons_succ]
                  refine takes [3, 4, 5, 6] 22 (by kernel_rfl) (by assumption) ?_
                  iterate 4 (refine tkY rfl (fun _ _ _ h => h) rfl (by ((intro w hSw); (try dsimp only at hSw); go_simp; (try with_reducible rfl))) ?_; try simp only [Act.put, List.setIfInBounds_toArray, List.set_cons_zero, List.set_cons_succ])
                  refine tkE ?_
                  refine wpAnyH_ready (rs := [7]) (by kernel_rfl) (by simp) ?_
                  refine readyC rfl (fun K hK => ?_) ?_
                  ·
                    go_simp
                    go_at_call 48
                    refine (HOL.out y.id _).mono ?_
                    rintro e w8 ⟨he_, hb_⟩
                    rw [hol] at he_
                    subst he_
                    have HD8 : Hid (Below w6.heap.size w6 w8) := Lib.hid (HD7.out.trans (hb_.mono HD7.out.size))
                    clear hb_
                    go_wp2_with fail
                    refine hK.out _ _ (by with_reducible exact hS.out _ HD8.out) (fun hHeld => ?_)
                    clear hK K
                    try simp only [Act.put, List.setIfInBounds_toArray, List.set_cons_zero, List.set_cons_succ]
                    refine takes [8, 9, 10, 11, 12, 13, 14, 15] 13 (by kernel_rfl) (by assumption) ?_
                    iterate 8 (refine tkY rfl (fun _ _ _ h => h) rfl (by ((intro w hSw); (try dsimp only at hSw); go_simp; (try with_reducible rfl))) ?_; try simp only [Act.put, List.setIfInBounds_toArray, List.set_cons_zero, List.set_cons_succ])
                    refine tkE ?_
                    refine wpAnyH_ready (rs := [16]) (by kernel_rfl) (by simp) ?_
                    refine readyC rfl (fun K hK => ?_) ?_
                    ·
                      go_simp
                      go_at_call 49
                      refine (has_any n.ap n.cp q.prep y.id w8 (Reads.of_own (HT6.out.below HD8.out).op) (by omega)).mono ?_
                      rintro e w9 ⟨he_, hb_⟩
                      rw [hpr] at he_
                      subst he_
                      have HD9 : Hid (Below w6.heap.size w6 w9) := Lib.hid (HD8.out.trans (hb_.mono HD8.out.size))
                      clear hb_
                      go_wp2_with fail
                      refine hK.out _ _ (by with_reducible exact hS.out _ HD9.out) (fun hHeld => ?_)
                      clear hK K
                      try simp only [Act.put, List.setIfInBounds_toArray, List.set_cons_zero, List.set_cons_succ]
                      refine takes [17, 18, 19, 20, 21, 22, 23, 24, 25] 3 (by kernel_rfl) (by assumption) ?_
                      iterate 9 (refine tkY rfl (fun _ _ _ h => h) rfl (by ((intro w hSw); (try dsimp only at hSw); go_simp; (try with_reducible rfl))) ?_; try simp only [Act.put, List.setIfInBounds_toArray, List.set_cons_zero, List.set_cons_succ])
                      refine tkE ?_
                      refine wpAnyH_ready (rs := [26]) (by kernel_rfl) (by simp) ?_
                      refine readyC rfl (fun K hK => ?_) ?_
                      ·
                        go_simp
                        go_at_call 49
                        refine (has_any n.au n.cu q.hurt y.id w9 (Reads.of_own (HT6.out.below HD9.out).ou) (by omega)).mono ?_
                        rintro e w10 ⟨he_, hb_⟩
                        rw [hhu] at he_
                        subst he_
                        have HD10 : Hid (Below w6.heap.size w6 w10) := Lib.hid (HD9.out.trans (hb_.mono HD9.out.size))
                        clear hb_
                        go_wp2_with fail
                        refine hK.out _ _ (by with_reducible exact hS.out _ HD10.out) (fun hHeld => ?_)
                        clear hK K
                        try simp only [Act.put, List.setIfInBounds_toArray, List.set_cons_zero, List.set_cons_succ]
                        refine takes [27, 28] 0 (by kernel_rfl) (by assumption) ?_
                        iterate 2 (refine tkY rfl (fun _ _ _ h => h) rfl (by ((intro w hSw); (try dsimp only at hSw); go_simp; (try with_reducible rfl))) ?_; try simp only [Act.put, List.setIfInBounds_toArray, List.set_cons_zero, List.set_cons_succ])
                        refine tkE ?_
                        refine wpAnyH_done (by kernel_rfl) ?_ _
                        have HWI := Lib.hid (rwith_any A1 c1 V y.id w10 (Reads.of_own ((Kept.of_below (S := []) (HB6.out.trans (HD10.out.mono HB6.out.size))).own HO.out (by simp))) (by omega))
                        unfold idV at HWI
                        rw [HINS.out] at HWI
                        have HK10 := Lib.hid (HK6.out.below HD10.out HK6.out.lt)
                        have v1 : w10.cell? ⟨p3, 1, none⟩ = some (.int .i64 y.id.n) := HK10.out.cell 1
                        have v2 : w10.cell? ⟨p3, 2, none⟩ = some (.int .i64 y.id.c) := HK10.out.cell 2
                        go_wp2_with fail
                        refine HWI.out.mono ?_
                        clear HWI v1 v2
                        rintro e w11 ⟨o, rfl, ho11⟩
                        have HN11 := Lib.hid (ho11.from (HBR.out.trans ((HB6.out.trans (HD10.out.mono HB6.out.size)).mono HBR.out.size)))
                        clear ho11
                        go_wp2
                        go_roundw
                        case rel =>
                          refine ⟨k + 1, by go_num, by omega, ?_⟩
                          rw [HN.out]
                          exact HN11.out
                        case measure => simp [intOf]; omega
                      exact AllReadyH.nil
                    exact AllReadyH.nil
                  exact AllReadyH.nil
                exact AllReadyH.nil
      · have kU : ¬ (k : Int) < (q.held.length : Int) := by omega
        have HVA : Hid (V = victims q x) := Lib.hid (by rw [HVV.out, show k = q.held.length by omega, vk_all])
        have HT4 := Lib.hid (HT3.out.below HBR.out)
        have HK4 := Lib.hid (HK23.out.below HBR.out HK23.out.lt)
        have HBW := Lib.hid (HB3.out.trans (HBR.out.mono HB3.out.size))
        have HST : Hid (RaSt g q n x p2 V A1 c1 w 0 n wr) := Lib.hid ⟨by have h := HT4.out; unfold hurtT; exact h, Moves.of_below HBW.out, HO.out, fun y hy => Nat.le_trans HB3.out.size (HFR.out y hy), fun y hy hf => by have h1 := HFR.out y hy; have h2 := HT3.out.lt y hf; omega, HK4.out, fun hf => by have h1 := HH.out.lt p2 hf; have := HP2.out; omega⟩
        have HHL : Hid (q.hurt.length + V.length ≤ 999999) := Lib.hid (by have := HU.out; omega)
        clear HVV HFR HBR HT4 HK4 HBW hvl HO HB3 HK13 HK23
        go_wp2
        clear kU y1
        go_loopw [16] (RmRel g q n x p2 V A1 c1 w) (fun i _ => V.length - (intOf i).toNat)
        case atStart => exact ⟨0, n, rfl, Nat.zero_le _, HST.out⟩
        case round =>
          clear HST
          obtain ⟨k, n', rfl, hk, hx⟩ := hrel
          have HX := Lib.hid hx
          have hvl : V.length ≤ 999999 := by have := HHL.out; omega
          clear hx
          by_cases hlt : k < V.length
          · obtain ⟨b, off, rfl, hcell⟩ := rowI (Reads.of_own HX.out.own) (by omega)
            have hcy := hcell k hlt
            have HGY : Hid (V[k]? = some (gr idR V k)) := Lib.hid (gr_get hlt)
            obtain ⟨i, hi⟩ : ∃ i, i = gr idR V k := ⟨_, rfl⟩
            rw [← hi] at hcy HGY
            have HCY := Lib.hid hcy
            have HON := Lib.hid (hurt_on (q := q) HGY.out)
            have kL : (0 : Int) ≤ (k : Int) := by omega
            have kU : (k : Int) < (V.length : Int) := by omega
            have HBD : Hid (Below wr.heap.size wr wr.drew) := Lib.hid (below_drewN (Below.refl _ _) 1)
            have HRD := Lib.hid (show RfAt wr.drew g (hurtT q (V.take k)) n' from (HX.out.below HBD.out).rf)
            have hS : Hid (∀ w', Below wr.heap.size wr w' → (w'.cell? ⟨g, 4, none⟩ = some (.slice n'.au (addAll q.hurt (V.take k)).length n'.cu) ∧ w'.cell? ⟨b, off + k * 2, none⟩ = some (.int .i64 i.n) ∧ w'.cell? ⟨b, off + k * 2 + 1, none⟩ = some (.int .i64 i.c))) := Lib.hid (fun w' hb => ⟨(HX.out.below hb).rf.c4, (HCY.out w' hb).1, (HCY.out w' hb).2⟩)
            have HWI := Lib.hid (rwith_any n'.au n'.cu (addAll q.hurt (V.take k)) i wr.drew (Reads.of_own HRD.out.ou) (by have h1 := addAll_len (V.take k) q.hurt; rw [List.length_take] at h1; have h2 := HHL.out; omega))
            unfold idV at HWI
            clear hi hcell hcy
            go_wp2_with fail
            refine wp_region_last_held (S := fun w' => w'.cell? ⟨g, 4, none⟩ = some (.slice n'.au (addAll q.hurt (V.take k)).length n'.cu) ∧ w'.cell? ⟨b, off + k * 2, none⟩ = some (.int .i64 i.n) ∧ w'.cell? ⟨b, off + k * 2 + 1, none⟩ = some (.int .i64 i.c)) (ops := #[{ dst := some 84, op := Op.move (Operand.tmp 0), type := 25, pos := "ref.go:215", after := #[], guard := none }, { dst := some 85, op := Op.move (Operand.tmp 0), type := 25, pos := "ref.go:215", after := #[], guard := none }, { dst := some 86, op := Op.nilCheck (Operand.tmp 85), type := 0, pos := "ref.go:215", after := #[{ on := 1, ground := Ground.data }], guard := none }, { dst := some 87, op := Op.fieldAddr 49 (Operand.tmp 86) 4, type := 0, pos := "ref.go:215", after := #[{ on := 2, ground := Ground.data }], guard := none }, { dst := some 88, op := Op.load 36 (Operand.tmp 87), type := 36, pos := "ref.go:215", after := #[{ on := 3, ground := Ground.data }], guard := none }, { dst := some 89, op := Op.move (Operand.tmp 13), type := 36, pos := "ref.go:215", after := #[], guard := none }, { dst := some 90, op := Op.move (Operand.tmp 16), type := 3, pos := "ref.go:215", after := #[], guard := none }, { dst := some 91, op := Op.indexAddr 36 (Operand.tmp 89) (Operand.tmp 90), type := 0, pos := "ref.go:215", after := #[{ on := 5, ground := Ground.data }, { on := 6, ground := Ground.data }], guard := none }, { dst := some 92, op := Op.load 29 (Operand.tmp 91), type := 29, pos := "ref.go:215", after := #[{ on := 7, ground := Ground.data }], guard := none }, { dst := some 93, op := Op.call { callee := Callee.value (Operand.func 50), args := #[Operand.tmp 88, Operand.tmp 92], argTypes := #[36, 29] }, type := 36, pos := "ref.go:215", after := #[{ on := 4, ground := Ground.data }, { on := 8, ground := Ground.data }], guard := none }, { dst := some 94, op := Op.nilCheck (Operand.tmp 84), type := 0, pos := "ref.go:215", after := #[{ on := 0, ground := Ground.data }, { on := 0, ground := Ground.phase }, { on := 1, ground := Ground.phase }, { on := 2, ground := Ground.phase }, { on := 3, ground := Ground.phase }, { on := 4, ground := Ground.phase }, { on := 5, ground := Ground.phase }, { on := 6, ground := Ground.phase }, { on := 7, ground := Ground.phase }, { on := 8, ground := Ground.phase }, { on := 9, ground := Ground.phase }], guard := none }, { dst := some 95, op := Op.fieldAddr 49 (Operand.tmp 94) 4, type := 0, pos := "ref.go:215", after := #[{ on := 10, ground := Ground.data }, { on := 0, ground := Ground.phase }, { on := 1, ground := Ground.phase }, { on := 2, ground := Ground.phase }, { on := 3, ground := Ground.phase }, { on := 4, ground := Ground.phase }, { on := 5, ground := Ground.phase }, { on := 6, ground := Ground.phase }, { on := 7, ground := Ground.phase }, { on := 8, ground := Ground.phase }, { on := 9, ground := Ground.phase }], guard := none }]) (o := { dst := none, op := Op.store 36 (Operand.tmp 95) (Operand.tmp 93), type := 0, pos := "ref.go:215", after := #[{ on := 11, ground := Ground.data }, { on := 9, ground := Ground.data }, { on := 9, ground := Ground.chain }, { on := 0, ground := Ground.phase }, { on := 1, ground := Ground.phase }, { on := 2, ground := Ground.phase }, { on := 3, ground := Ground.phase }, { on := 4, ground := Ground.phase }, { on := 5, ground := Ground.phase }, { on := 6, ground := Ground.phase }, { on := 7, ground := Ground.phase }, { on := 8, ground := Ground.phase }, { on := 9, ground := Ground.phase }], guard := none }) rfl (by kernel_rfl) (by kernel_rfl) (by kernel_rfl) (hS.out _ HBD.out) (fun hHeld => ?_)
            refine takes [0, 1, 2, 3, 4, 5, 6, 7, 8] 3 (by kernel_rfl) (by assumption) ?_
            iterate 9 (refine tkY rfl (fun _ _ _ h => h) rfl (by ((intro w hSw); (try dsimp only at hSw); go_simp; (try with_reducible rfl))) ?_; try simp only [Act.put, List.setIfInBounds_toArray, List.set_cons_zero, List.set_cons_succ])
            refine tkE ?_
            refine wpAnyH_ready (rs := [9]) (by kernel_rfl) (by simp) ?_
            refine readyC rfl (fun K hK => ?_) ?_
            ·
              go_simp
              go_at_call 50
              refine HWI.out.mono ?_
              rintro e w9 ⟨o, rfl, A2, c2, rfl, ho, hf, hb⟩
              have HO9 := Lib.hid ho
              have HF9 := Lib.hid hf
              have HB9 := Lib.hid hb
              clear ho hf hb
              have HD9 := Lib.hid (HRD.out.blk.below HB9.out HRD.out.blk.lt)
              go_wp2_with fail
              refine hK.out _ _ (hS.out _ (HBD.out.trans (HB9.out.mono HBD.out.size))) (fun hHeld => ?_)
              clear hK K
              try simp only [Act.put, List.setIfInBounds_toArray, List.set_cons_zero, List.set_cons_succ]
              refine takes [10, 11] 0 (by kernel_rfl) (by assumption) ?_
              iterate 2 (refine tkY rfl (fun _ _ _ h => h) rfl (by ((intro w hSw); (try dsimp only at hSw); go_simp; (try with_reducible rfl))) ?_; try simp only [Act.put, List.setIfInBounds_toArray, List.set_cons_zero, List.set_cons_succ])
              refine tkE ?_
              refine wpAnyH_done (by kernel_rfl) ?_ _
              have HF := Lib.hid (HRD.out.setU HB9.out HO9.out HF9.out (by rw [← HON.out]; have := addAll_len (V.take (k + 1)) q.hurt; rw [List.length_take] at this; have := HHL.out; omega))
              have f4 := HD9.out.frozen 4
              have z4 := hHeld.1
              refine withLast_go (fun K hK => ?_)
              clear hHeld
              go_simp
              refine hK _ _ ?_
              clear hK K f4 z4
              obtain ⟨w17, hw17⟩ : ∃ w17, w17 = w9.setCells g 4 [.slice A2 (ins ol i (addAll q.hurt (V.take k))).length c2] := ⟨_, rfl⟩
              rw [← hw17] at HF
              have hw17b : w9.setCell ⟨g, 4, none⟩ (.slice A2 (ins ol i (addAll q.hurt (V.take k))).length c2) = w17 := hw17.symm
              rw [hw17b]
              clear hw17 hw17b
              have HNX := Lib.hid (HX.out.step (k2 := k + 1) (by unfold hurtT; rw [HON.out]; exact HF.out.1) (Moves.below_left HBD.out HF.out.2))
              go_wp2
              go_roundw
              case rel => exact ⟨k + 1, _, by go_num, by omega, HNX.out⟩
              case measure => simp [intOf]; omega
            exact AllReadyH.nil
          · have kU : ¬ (k : Int) < (V.length : Int) := by omega
            have HX6 := Lib.hid (show RaSt g q n x p2 V A1 c1 w V.length n' wr from by have h := HX.out; rw [show k = V.length by omega] at h; exact h)
            obtain ⟨A, hAe⟩ : ∃ A, A = A1 := ⟨_, rfl⟩
            obtain ⟨c, hce⟩ : ∃ c, c = c1 := ⟨_, rfl⟩
            rw [← hAe, ← hce] at HX6 ⊢
            have HRF6 := Lib.hid (show RfAt wr g (hurtT q V) n' from by have h := HX6.out.rf; rw [List.take_of_length_le (Nat.le_refl _)] at h; exact h)
            have HMY := Lib.hid (rmay_any HRF6.out x)
            unfold lkV at HMY
            rw [show (!((hurtT q V).wait.any fun y => confR y x && ol y.id x.id) && !((hurtT q V).held.any fun y => confR y x)) = freeB q x from may_free HGD.out HX0.out] at HMY
            have x20 : wr.cell? ⟨p2, 0, none⟩ = some (.string x.key) := HX6.out.b2.cell 0
            have x21 : wr.cell? ⟨p2, 1, none⟩ = some (.int .i64 x.id.n) := HX6.out.b2.cell 1
            have x22 : wr.cell? ⟨p2, 2, none⟩ = some (.int .i64 x.id.c) := HX6.out.b2.cell 2
            have x23 : wr.cell? ⟨p2, 3, none⟩ = some (.int .i64 x.mode) := HX6.out.b2.cell 3
            clear hAe hce HX
            go_wp2_with fail
            refine HMY.out.mono ?_
            clear HMY x20 x21 x22 x23
            rintro e w7 ⟨he, hb7⟩
            have HX7 := Lib.hid (HX6.out.below hb7)
            clear hb7 HX6 HRF6
            cases hfr : freeB q x with
            | true =>
              rw [hfr] at he
              subst he
              have HY := Lib.hid (ask_yes HR.out hfr)
              rw [← HVA.out] at HY
              clear hfr
              go_upto_region 17 with fail
              have HBD : Hid (Below w7.heap.size w7 w7.drew) := Lib.hid (below_drewN (Below.refl _ _) 1)
              have HRD := Lib.hid (show RfAt w7.drew g (hurtT q V) n' from by have h := (HX7.out.below HBD.out).rf; rw [List.take_of_length_le (Nat.le_refl _)] at h; exact h)
              have hS : Hid (∀ w', Below w7.heap.size w7 w' → (w'.cell? ⟨g, 1, none⟩ = some (.slice n'.ah q.held.length n'.ch) ∧ w'.cell? ⟨p2, 0, none⟩ = some (.string x.key) ∧ w'.cell? ⟨p2, 1, none⟩ = some (.int .i64 x.id.n) ∧ w'.cell? ⟨p2, 2, none⟩ = some (.int .i64 x.id.c) ∧ w'.cell? ⟨p2, 3, none⟩ = some (.int .i64 x.mode))) := Lib.hid (fun w' hb => ⟨(HX7.out.below hb).rf.c1, (HX7.out.below hb).b2.cell 0, (HX7.out.below hb).b2.cell 1, (HX7.out.below hb).b2.cell 2, (HX7.out.below hb).b2.cell 3⟩)
              have HPT := Lib.hid (rput_any n'.ah n'.ch q.held x w7.drew (Reads.of_own HRD.out.oh) (by have := HH.out.fh; omega) HGD.out.sh)
              unfold lkV at HPT
              refine wp_region_last_held (S := fun w' => w'.cell? ⟨g, 1, none⟩ = some (.slice n'.ah q.held.length n'.ch) ∧ w'.cell? ⟨p2, 0, none⟩ = some (.string x.key) ∧ w'.cell? ⟨p2, 1, none⟩ = some (.int .i64 x.id.n) ∧ w'.cell? ⟨p2, 2, none⟩ = some (.int .i64 x.id.c) ∧ w'.cell? ⟨p2, 3, none⟩ = some (.int .i64 x.mode)) (ops := #[{ dst := some 99, op := Op.move (Operand.tmp 0), type := 25, pos := "ref.go:218", after := #[], guard := none }, { dst := some 100, op := Op.move (Operand.tmp 0), type := 25, pos := "ref.go:218", after := #[], guard := none }, { dst := some 101, op := Op.nilCheck (Operand.tmp 100), type := 0, pos := "ref.go:218", after := #[{ on := 1, ground := Ground.data }], guard := none }, { dst := some 102, op := Op.fieldAddr 49 (Operand.tmp 101) 1, type := 0, pos := "ref.go:218", after := #[{ on := 2, ground := Ground.data }], guard := none }, { dst := some 103, op := Op.load 34 (Operand.tmp 102), type := 34, pos := "ref.go:218", after := #[{ on := 3, ground := Ground.data }], guard := none }, { dst := some 104, op := Op.load 62 (Operand.tmp 10), type := 62, pos := "ref.go:218", after := #[], guard := none }, { dst := some 105, op := Op.call { callee := Callee.value (Operand.func 52), args := #[Operand.tmp 103, Operand.tmp 104], argTypes := #[34, 62] }, type := 34, pos := "ref.go:218", after := #[{ on := 4, ground := Ground.data }, { on := 5, ground := Ground.data }], guard := none }, { dst := some 106, op := Op.nilCheck (Operand.tmp 99), type := 0, pos := "ref.go:218", after := #[{ on := 0, ground := Ground.data }, { on := 0, ground := Ground.phase }, { on := 1, ground := Ground.phase }, { on := 2, ground := Ground.phase }, { on := 3, ground := Ground.phase }, { on := 4, ground := Ground.phase }, { on := 5, ground := Ground.phase }, { on := 6, ground := Ground.phase }], guard := none }, { dst := some 107, op := Op.fieldAddr 49 (Operand.tmp 106) 1, type := 0, pos := "ref.go:218", after := #[{ on := 7, ground := Ground.data }, { on := 0, ground := Ground.phase }, { on := 1, ground := Ground.phase }, { on := 2, ground := Ground.phase }, { on := 3, ground := Ground.phase }, { on := 4, ground := Ground.phase }, { on := 5, ground := Ground.phase }, { on := 6, ground := Ground.phase }], guard := none }]) (o := { dst := none, op := Op.store 34 (Operand.tmp 107) (Operand.tmp 105), type := 0, pos := "ref.go:218", after := #[{ on := 8, ground := Ground.data }, { on := 6, ground := Ground.data }, { on := 6, ground := Ground.chain }, { on := 0, ground := Ground.phase }, { on := 1, ground := Ground.phase }, { on := 2, ground := Ground.phase }, { on := 3, ground := Ground.phase }, { on := 4, ground := Ground.phase }, { on := 5, ground := Ground.phase }, { on := 6, ground := Ground.phase }], guard := none }) rfl (by kernel_rfl) (by kernel_rfl) (by kernel_rfl) (hS.out _ HBD.out) (fun hHeld => ?_)
              refine takes [0, 1, 2, 3, 4, 5] 3 (by kernel_rfl) (by assumption) ?_
              iterate 6 (refine tkY rfl (fun _ _ _ h => h) rfl (by ((intro w hSw); (try dsimp only at hSw); go_simp; (try with_reducible rfl))) ?_; try simp only [Act.put, List.setIfInBounds_toArray, List.set_cons_zero, List.set_cons_succ])
              refine tkE ?_
              refine wpAnyH_ready (rs := [6]) (by kernel_rfl) (by simp) ?_
              refine readyC rfl (fun K hK => ?_) ?_
              ·
                go_simp
                go_at_call 52
                refine HPT.out.mono ?_
                rintro e w9 ⟨o, rfl, A2, c2, rfl, ho, hf, hb⟩
                have HO9 := Lib.hid ho
                have HF9 := Lib.hid hf
                have HB9 := Lib.hid hb
                clear ho hf hb
                have HD9 := Lib.hid (HRD.out.blk.below HB9.out HRD.out.blk.lt)
                go_wp2_with fail
                refine hK.out _ _ (hS.out _ (HBD.out.trans (HB9.out.mono HBD.out.size))) (fun hHeld => ?_)
                clear hK K
                try simp only [Act.put, List.setIfInBounds_toArray, List.set_cons_zero, List.set_cons_succ]
                refine takes [7, 8] 0 (by kernel_rfl) (by assumption) ?_
                iterate 2 (refine tkY rfl (fun _ _ _ h => h) rfl (by ((intro w hSw); (try dsimp only at hSw); go_simp; (try with_reducible rfl))) ?_; try simp only [Act.put, List.setIfInBounds_toArray, List.set_cons_zero, List.set_cons_succ])
                refine tkE ?_
                refine wpAnyH_done (by kernel_rfl) ?_ _
                have HF := Lib.hid (HRD.out.setH HB9.out HO9.out HF9.out (by have := HSZ.out; rw [HY.out.2.1] at this; exact this))
                have f4 := HD9.out.frozen 1
                have z4 := hHeld.1
                refine withLast_go (fun K hK => ?_)
                clear hHeld
                go_simp
                refine hK _ _ ?_
                clear hK K f4 z4
                obtain ⟨w17, hw17⟩ : ∃ w17, w17 = w9.setCells g 1 [.slice A2 (ins ah x q.held).length c2] := ⟨_, rfl⟩
                rw [← hw17] at HF
                have hw17b : w9.setCell ⟨g, 1, none⟩ (.slice A2 (ins ah x q.held).length c2) = w17 := hw17.symm
                rw [hw17b]
                clear hw17 hw17b
                have HFIN := Lib.hid (HX7.out.ends (t' := askT q x) (by rw [HY.out.2.1]; exact HF.out.1) (Moves.below_left HBD.out HF.out.2))
                go_wp2
                go_ret2
                unfold RAskEnds
                rw [HY.out.1, HY.out.2.2]
                exact ⟨A, c, rfl, HFIN.out⟩
              exact AllReadyH.nil
            | false =>
              rw [hfr] at he
              subst he
              have HY := Lib.hid (ask_no HR.out hfr)
              rw [← HVA.out] at HY
              clear hfr
              go_upto_region 19 with fail
              have HBD : Hid (Below w7.heap.size w7 w7.drew) := Lib.hid (below_drewN (Below.refl _ _) 1)
              have HRD := Lib.hid (show RfAt w7.drew g (hurtT q V) n' from by have h := (HX7.out.below HBD.out).rf; rw [List.take_of_length_le (Nat.le_refl _)] at h; exact h)
              have hS : Hid (∀ w', Below w7.heap.size w7 w' → (w'.cell? ⟨g, 2, none⟩ = some (.slice n'.aw q.wait.length n'.cw) ∧ w'.cell? ⟨p2, 0, none⟩ = some (.string x.key) ∧ w'.cell? ⟨p2, 1, none⟩ = some (.int .i64 x.id.n) ∧ w'.cell? ⟨p2, 2, none⟩ = some (.int .i64 x.id.c) ∧ w'.cell? ⟨p2, 3, none⟩ = some (.int .i64 x.mode))) := Lib.hid (fun w' hb => ⟨(HX7.out.below hb).rf.c2, (HX7.out.below hb).b2.cell 0, (HX7.out.below hb).b2.cell 1, (HX7.out.below hb).b2.cell 2, (HX7.out.below hb).b2.cell 3⟩)
              have HPT := Lib.hid (rput_any n'.aw n'.cw q.wait x w7.drew (Reads.of_own HRD.out.ow) (by have := HH.out.fh; omega) HGD.out.sw)
              unfold lkV at HPT
              refine wp_region_last_held (S := fun w' => w'.cell? ⟨g, 2, none⟩ = some (.slice n'.aw q.wait.length n'.cw) ∧ w'.cell? ⟨p2, 0, none⟩ = some (.string x.key) ∧ w'.cell? ⟨p2, 1, none⟩ = some (.int .i64 x.id.n) ∧ w'.cell? ⟨p2, 2, none⟩ = some (.int .i64 x.id.c) ∧ w'.cell? ⟨p2, 3, none⟩ = some (.int .i64 x.mode)) (ops := #[{ dst := some 109, op := Op.move (Operand.tmp 0), type := 25, pos := "ref.go:221", after := #[], guard := none }, { dst := some 110, op := Op.move (Operand.tmp 0), type := 25, pos := "ref.go:221", after := #[], guard := none }, { dst := some 111, op := Op.nilCheck (Operand.tmp 110), type := 0, pos := "ref.go:221", after := #[{ on := 1, ground := Ground.data }], guard := none }, { dst := some 112, op := Op.fieldAddr 49 (Operand.tmp 111) 2, type := 0, pos := "ref.go:221", after := #[{ on := 2, ground := Ground.data }], guard := none }, { dst := some 113, op := Op.load 34 (Operand.tmp 112), type := 34, pos := "ref.go:221", after := #[{ on := 3, ground := Ground.data }], guard := none }, { dst := some 114, op := Op.load 62 (Operand.tmp 10), type := 62, pos := "ref.go:221", after := #[], guard := none }, { dst := some 115, op := Op.call { callee := Callee.value (Operand.func 52), args := #[Operand.tmp 113, Operand.tmp 114], argTypes := #[34, 62] }, type := 34, pos := "ref.go:221", after := #[{ on := 4, ground := Ground.data }, { on := 5, ground := Ground.data }], guard := none }, { dst := some 116, op := Op.nilCheck (Operand.tmp 109), type := 0, pos := "ref.go:221", after := #[{ on := 0, ground := Ground.data }, { on := 0, ground := Ground.phase }, { on := 1, ground := Ground.phase }, { on := 2, ground := Ground.phase }, { on := 3, ground := Ground.phase }, { on := 4, ground := Ground.phase }, { on := 5, ground := Ground.phase }, { on := 6, ground := Ground.phase }], guard := none }, { dst := some 117, op := Op.fieldAddr 49 (Operand.tmp 116) 2, type := 0, pos := "ref.go:221", after := #[{ on := 7, ground := Ground.data }, { on := 0, ground := Ground.phase }, { on := 1, ground := Ground.phase }, { on := 2, ground := Ground.phase }, { on := 3, ground := Ground.phase }, { on := 4, ground := Ground.phase }, { on := 5, ground := Ground.phase }, { on := 6, ground := Ground.phase }], guard := none }]) (o := { dst := none, op := Op.store 34 (Operand.tmp 117) (Operand.tmp 115), type := 0, pos := "ref.go:221", after := #[{ on := 8, ground := Ground.data }, { on := 6, ground := Ground.data }, { on := 6, ground := Ground.chain }, { on := 0, ground := Ground.phase }, { on := 1, ground := Ground.phase }, { on := 2, ground := Ground.phase }, { on := 3, ground := Ground.phase }, { on := 4, ground := Ground.phase }, { on := 5, ground := Ground.phase }, { on := 6, ground := Ground.phase }], guard := none }) rfl (by kernel_rfl) (by kernel_rfl) (by kernel_rfl) (hS.out _ HBD.out) (fun hHeld => ?_)
              refine takes [0, 1, 2, 3, 4, 5] 3 (by kernel_rfl) (by assumption) ?_
              iterate 6 (refine tkY rfl (fun _ _ _ h => h) rfl (by ((intro w hSw); (try dsimp only at hSw); go_simp; (try with_reducible rfl))) ?_; try simp only [Act.put, List.setIfInBounds_toArray, List.set_cons_zero, List.set_cons_succ])
              refine tkE ?_
              refine wpAnyH_ready (rs := [6]) (by kernel_rfl) (by simp) ?_
              refine readyC rfl (fun K hK => ?_) ?_
              ·
                go_simp
                go_at_call 52
                refine HPT.out.mono ?_
                rintro e w9 ⟨o, rfl, A2, c2, rfl, ho, hf, hb⟩
                have HO9 := Lib.hid ho
                have HF9 := Lib.hid hf
                have HB9 := Lib.hid hb
                clear ho hf hb
                have HD9 := Lib.hid (HRD.out.blk.below HB9.out HRD.out.blk.lt)
                go_wp2_with fail
                refine hK.out _ _ (hS.out _ (HBD.out.trans (HB9.out.mono HBD.out.size))) (fun hHeld => ?_)
                clear hK K
                try simp only [Act.put, List.setIfInBounds_toArray, List.set_cons_zero, List.set_cons_succ]
                refine takes [7, 8] 0 (by kernel_rfl) (by assumption) ?_
                iterate 2 (refine tkY rfl (fun _ _ _ h => h) rfl (by ((intro w hSw); (try dsimp only at hSw); go_simp; (try with_reducible rfl))) ?_; try simp only [Act.put, List.setIfInBounds_toArray, List.set_cons_zero, List.set_cons_succ])
                refine tkE ?_
                refine wpAnyH_done (by kernel_rfl) ?_ _
                have HF := Lib.hid (HRD.out.setW HB9.out HO9.out HF9.out (by have := HSZ.out; rw [HY.out.2.1] at this; exact this))
                have f4 := HD9.out.frozen 2
                have z4 := hHeld.1
                refine withLast_go (fun K hK => ?_)
                clear hHeld
                go_simp
                refine hK _ _ ?_
                clear hK K f4 z4
                obtain ⟨w17, hw17⟩ : ∃ w17, w17 = w9.setCells g 2 [.slice A2 (ins ah x q.wait).length c2] := ⟨_, rfl⟩
                rw [← hw17] at HF
                have hw17b : w9.setCell ⟨g, 2, none⟩ (.slice A2 (ins ah x q.wait).length c2) = w17 := hw17.symm
                rw [hw17b]
                clear hw17 hw17b
                have HFIN := Lib.hid (HX7.out.ends (t' := askT q x) (by rw [HY.out.2.1]; exact HF.out.1) (Moves.below_left HBD.out HF.out.2))
                go_wp2
                go_ret2
                unfold RAskEnds
                rw [HY.out.1, HY.out.2.2]
                exact ⟨A, c, rfl, HFIN.out⟩
              exact AllReadyH.nil
end Go.Proofs.YtpidpdbjjdkhoaaGreat
