/- Locks: a field of the table is stored; Prepare. -/
import Derived.Test.YtpidpdbjjdkhoaaGreatLkQ
import Derived.Test.YtpidpdbjjdkhoaaGreatRegL
namespace Go.Proofs.YtpidpdbjjdkhoaaGreat
open Go.RowKit
set_option linter.unusedSimpArgs false
set_option linter.unusedVariables false
attribute [local go_sem ↓] Go.wp_at_zero Go.wp_at_succ

theorem own_own_ne {w : World} {b1 b2 s1 s2 n1 n2 c1 c2 : Nat} {e1 e2 : TypeId} {A1 A2 : Option Addr} {x1 x2 : List Value} (h1 : w.ownsRow b1 e1 s1 (.slice A1 n1 c1) n1 x1) (h2 : w.ownsRow b2 e2 s2 (.slice A2 n2 c2) n2 x2) (hne : e1 ≠ e2) : ∀ k ∈ ob A1, k ∉ ob A2 := by
  intro k hk hk2
  rcases h2.2 with ⟨hv, _⟩ | ⟨g, cap, cur, hv, _, hg, _⟩
  · injection hv with hA
    subst hA
    simp [ob] at hk2
  · injection hv with hA
    subst hA
    have : k = g := by simpa [ob] using hk2
    subst this
    have hb : Blk w k e2 cur := hg
    exact own_blk_ne h1 hb hne (ownBlock_mem.2 hk)
theorem TbAt.dh {w : World} {d : Nat} {q : Tb} {m : TbM} (h : TbAt w d q m) : d ∉ ob m.ah := fun hm => own_blk_ne h.oh h.blk (by decide) (ownBlock_mem.2 hm)
theorem TbAt.dw {w : World} {d : Nat} {q : Tb} {m : TbM} (h : TbAt w d q m) : d ∉ ob m.aw := fun hm => own_blk_ne h.ow h.blk (by decide) (ownBlock_mem.2 hm)
theorem TbAt.dp {w : World} {d : Nat} {q : Tb} {m : TbM} (h : TbAt w d q m) : d ∉ ob m.ap := fun hm => own_blk_ne h.op h.blk (by decide) (ownBlock_mem.2 hm)
theorem TbAt.du {w : World} {d : Nat} {q : Tb} {m : TbM} (h : TbAt w d q m) : d ∉ ob m.au := fun hm => own_blk_ne h.ou h.blk (by decide) (ownBlock_mem.2 hm)
theorem TbAt.setH {w w4 : World} {d : Nat} {q : Tb} {m : TbM} (h : TbAt w d q m) {l : List Lk} {A1 : Option Addr} {c1 : Nat} (ho : w4.ownsRow 0 62 4 (.slice A1 l.length c1) l.length (rc lkR l))
    (hm : Moves (ob m.ah) (ob A1) w w4) (hg : Good ⟨q.most, l, q.wait, q.prep, q.hurt⟩) (hn : l.length + q.wait.length ≤ 1000) :
    TbAt (w4.setCells d 1 [.slice A1 l.length c1]) d ⟨q.most, l, q.wait, q.prep, q.hurt⟩ ⟨A1, c1, m.aw, m.cw, m.ap, m.cp, m.au, m.cu⟩ ∧ Moves (fpT d m) (fpT d ⟨A1, c1, m.aw, m.cw, m.ap, m.cp, m.au, m.cu⟩) w (w4.setCells d 1 [.slice A1 l.length c1]) := by
  have hbd := hm.kept.blk h.blk h.dh
  have hk2 : Kept [d] w4 (w4.setCells d 1 [.slice A1 l.length c1]) := keptAll _ (Kept.refl _ _) (.inl (by simp))
  refine ⟨⟨Blk.setAll [.slice A1 l.length c1] (p := 1) hbd, (hk2.own ho (fun g hg => by simp only [List.mem_singleton]; rintro rfl; exact own_blk_ne ho hbd (by decide) hg)), (hk2.own (hm.kept.own h.ow (fun g hg0 => by have hg := ownBlock_mem.1 hg0; exact (fun hk => h.shw g hk hg))) (fun g hg => by simp only [List.mem_singleton]; rintro rfl; exact h.dw (ownBlock_mem.1 hg))), (hk2.own (hm.kept.own h.op (fun g hg0 => by have hg := ownBlock_mem.1 hg0; exact (own_own_ne h.op h.oh (by decide) g hg))) (fun g hg => by simp only [List.mem_singleton]; rintro rfl; exact h.dp (ownBlock_mem.1 hg))), (hk2.own (hm.kept.own h.ou (fun g hg0 => by have hg := ownBlock_mem.1 hg0; exact (own_own_ne h.ou h.oh (by decide) g hg))) (fun g hg => by simp only [List.mem_singleton]; rintro rfl; exact h.du (ownBlock_mem.1 hg))), (fun k hk hk2 => (hm.foot k hk).elim (fun h1 => h.shw k h1 hk2) (fun h1 => by have := own_lt h.ow k hk2; omega)), h.spu, hg, hn, h.fm⟩, ⟨(hm.kept.mono (fun y hy => ?_)).trans hk2 (fun y hy => ?_), fun y hy => ?_⟩⟩
  · simp only [fpT, List.mem_cons, List.mem_append]; simp [hy]
  · simp only [List.mem_singleton] at hy; subst hy; exact .inl (by simp [fpT])
  · simp only [fpT, List.mem_cons, List.mem_append] at hy ⊢
    have hf := hm.foot y
    rcases hy with rfl | hy | hy | hy | hy <;> first | (exact .inl (by simp)) | (exact .inl (by simp [hy])) | (exact (hf hy).imp (fun h1 => by simp [h1]) id)
theorem TbAt.setW {w w4 : World} {d : Nat} {q : Tb} {m : TbM} (h : TbAt w d q m) {l : List Lk} {A1 : Option Addr} {c1 : Nat} (ho : w4.ownsRow 0 62 4 (.slice A1 l.length c1) l.length (rc lkR l))
    (hm : Moves (ob m.aw) (ob A1) w w4) (hg : Good ⟨q.most, q.held, l, q.prep, q.hurt⟩) (hn : q.held.length + l.length ≤ 1000) :
    TbAt (w4.setCells d 2 [.slice A1 l.length c1]) d ⟨q.most, q.held, l, q.prep, q.hurt⟩ ⟨m.ah, m.ch, A1, c1, m.ap, m.cp, m.au, m.cu⟩ ∧ Moves (fpT d m) (fpT d ⟨m.ah, m.ch, A1, c1, m.ap, m.cp, m.au, m.cu⟩) w (w4.setCells d 2 [.slice A1 l.length c1]) := by
  have hbd := hm.kept.blk h.blk h.dw
  have hk2 : Kept [d] w4 (w4.setCells d 2 [.slice A1 l.length c1]) := keptAll _ (Kept.refl _ _) (.inl (by simp))
  refine ⟨⟨Blk.setAll [.slice A1 l.length c1] (p := 2) hbd, (hk2.own (hm.kept.own h.oh (fun g hg0 => by have hg := ownBlock_mem.1 hg0; exact (h.shw g hg))) (fun g hg => by simp only [List.mem_singleton]; rintro rfl; exact h.dh (ownBlock_mem.1 hg))), (hk2.own ho (fun g hg => by simp only [List.mem_singleton]; rintro rfl; exact own_blk_ne ho hbd (by decide) hg)), (hk2.own (hm.kept.own h.op (fun g hg0 => by have hg := ownBlock_mem.1 hg0; exact (own_own_ne h.op h.ow (by decide) g hg))) (fun g hg => by simp only [List.mem_singleton]; rintro rfl; exact h.dp (ownBlock_mem.1 hg))), (hk2.own (hm.kept.own h.ou (fun g hg0 => by have hg := ownBlock_mem.1 hg0; exact (own_own_ne h.ou h.ow (by decide) g hg))) (fun g hg => by simp only [List.mem_singleton]; rintro rfl; exact h.du (ownBlock_mem.1 hg))), (fun k hk hk2 => (hm.foot k hk2).elim (fun h1 => h.shw k hk h1) (fun h1 => by have := own_lt h.oh k hk; omega)), h.spu, hg, hn, h.fm⟩, ⟨(hm.kept.mono (fun y hy => ?_)).trans hk2 (fun y hy => ?_), fun y hy => ?_⟩⟩
  · simp only [fpT, List.mem_cons, List.mem_append]; simp [hy]
  · simp only [List.mem_singleton] at hy; subst hy; exact .inl (by simp [fpT])
  · simp only [fpT, List.mem_cons, List.mem_append] at hy ⊢
    have hf := hm.foot y
    rcases hy with rfl | hy | hy | hy | hy <;> first | (exact .inl (by simp)) | (exact .inl (by simp [hy])) | (exact (hf hy).imp (fun h1 => by simp [h1]) id)
theorem TbAt.setP {w w4 : World} {d : Nat} {q : Tb} {m : TbM} (h : TbAt w d q m) {l : List Idn} {A1 : Option Addr} {c1 : Nat} (ho : w4.ownsRow 0 29 2 (.slice A1 l.length c1) l.length (rc idR l))
    (hm : Moves (ob m.ap) (ob A1) w w4) (hg : Good ⟨q.most, q.held, q.wait, l, q.hurt⟩) (hn : l.length ≤ 8796093022208 ∧ q.hurt.length ≤ 8796093022208) :
    TbAt (w4.setCells d 3 [.slice A1 l.length c1]) d ⟨q.most, q.held, q.wait, l, q.hurt⟩ ⟨m.ah, m.ch, m.aw, m.cw, A1, c1, m.au, m.cu⟩ ∧ Moves (fpT d m) (fpT d ⟨m.ah, m.ch, m.aw, m.cw, A1, c1, m.au, m.cu⟩) w (w4.setCells d 3 [.slice A1 l.length c1]) := by
  have hbd := hm.kept.blk h.blk h.dp
  have hk2 : Kept [d] w4 (w4.setCells d 3 [.slice A1 l.length c1]) := keptAll _ (Kept.refl _ _) (.inl (by simp))
  refine ⟨⟨Blk.setAll [.slice A1 l.length c1] (p := 3) hbd, (hk2.own (hm.kept.own h.oh (fun g hg0 => by have hg := ownBlock_mem.1 hg0; exact (own_own_ne h.oh h.op (by decide) g hg))) (fun g hg => by simp only [List.mem_singleton]; rintro rfl; exact h.dh (ownBlock_mem.1 hg))), (hk2.own (hm.kept.own h.ow (fun g hg0 => by have hg := ownBlock_mem.1 hg0; exact (own_own_ne h.ow h.op (by decide) g hg))) (fun g hg => by simp only [List.mem_singleton]; rintro rfl; exact h.dw (ownBlock_mem.1 hg))), (hk2.own ho (fun g hg => by simp only [List.mem_singleton]; rintro rfl; exact own_blk_ne ho hbd (by decide) hg)), (hk2.own (hm.kept.own h.ou (fun g hg0 => by have hg := ownBlock_mem.1 hg0; exact (fun hk => h.spu g hk hg))) (fun g hg => by simp only [List.mem_singleton]; rintro rfl; exact h.du (ownBlock_mem.1 hg))), h.shw, (fun k hk hk2 => (hm.foot k hk).elim (fun h1 => h.spu k h1 hk2) (fun h1 => by have := own_lt h.ou k hk2; omega)), hg, h.fh, hn⟩, ⟨(hm.kept.mono (fun y hy => ?_)).trans hk2 (fun y hy => ?_), fun y hy => ?_⟩⟩
  · simp only [fpT, List.mem_cons, List.mem_append]; simp [hy]
  · simp only [List.mem_singleton] at hy; subst hy; exact .inl (by simp [fpT])
  · simp only [fpT, List.mem_cons, List.mem_append] at hy ⊢
    have hf := hm.foot y
    rcases hy with rfl | hy | hy | hy | hy <;> first | (exact .inl (by simp)) | (exact .inl (by simp [hy])) | (exact (hf hy).imp (fun h1 => by simp [h1]) id)
theorem TbAt.setU {w w4 : World} {d : Nat} {q : Tb} {m : TbM} (h : TbAt w d q m) {l : List Idn} {A1 : Option Addr} {c1 : Nat} (ho : w4.ownsRow 0 29 2 (.slice A1 l.length c1) l.length (rc idR l))
    (hm : Moves (ob m.au) (ob A1) w w4) (hg : Good ⟨q.most, q.held, q.wait, q.prep, l⟩) (hn : q.prep.length ≤ 8796093022208 ∧ l.length ≤ 8796093022208) :
    TbAt (w4.setCells d 4 [.slice A1 l.length c1]) d ⟨q.most, q.held, q.wait, q.prep, l⟩ ⟨m.ah, m.ch, m.aw, m.cw, m.ap, m.cp, A1, c1⟩ ∧ Moves (fpT d m) (fpT d ⟨m.ah, m.ch, m.aw, m.cw, m.ap, m.cp, A1, c1⟩) w (w4.setCells d 4 [.slice A1 l.length c1]) := by
  have hbd := hm.kept.blk h.blk h.du
  have hk2 : Kept [d] w4 (w4.setCells d 4 [.slice A1 l.length c1]) := keptAll _ (Kept.refl _ _) (.inl (by simp))
  refine ⟨⟨Blk.setAll [.slice A1 l.length c1] (p := 4) hbd, (hk2.own (hm.kept.own h.oh (fun g hg0 => by have hg := ownBlock_mem.1 hg0; exact (own_own_ne h.oh h.ou (by decide) g hg))) (fun g hg => by simp only [List.mem_singleton]; rintro rfl; exact h.dh (ownBlock_mem.1 hg))), (hk2.own (hm.kept.own h.ow (fun g hg0 => by have hg := ownBlock_mem.1 hg0; exact (own_own_ne h.ow h.ou (by decide) g hg))) (fun g hg => by simp only [List.mem_singleton]; rintro rfl; exact h.dw (ownBlock_mem.1 hg))), (hk2.own (hm.kept.own h.op (fun g hg0 => by have hg := ownBlock_mem.1 hg0; exact (h.spu g hg))) (fun g hg => by simp only [List.mem_singleton]; rintro rfl; exact h.dp (ownBlock_mem.1 hg))), (hk2.own ho (fun g hg => by simp only [List.mem_singleton]; rintro rfl; exact own_blk_ne ho hbd (by decide) hg)), h.shw, (fun k hk hk2 => (hm.foot k hk2).elim (fun h1 => h.spu k hk h1) (fun h1 => by have := own_lt h.op k hk; omega)), hg, h.fh, hn⟩, ⟨(hm.kept.mono (fun y hy => ?_)).trans hk2 (fun y hy => ?_), fun y hy => ?_⟩⟩
  · simp only [fpT, List.mem_cons, List.mem_append]; simp [hy]
  · simp only [List.mem_singleton] at hy; subst hy; exact .inl (by simp [fpT])
  · simp only [fpT, List.mem_cons, List.mem_append] at hy ⊢
    have hf := hm.foot y
    rcases hy with rfl | hy | hy | hy | hy <;> first | (exact .inl (by simp)) | (exact .inl (by simp [hy])) | (exact (hf hy).imp (fun h1 => by simp [h1]) id)
theorem anyEq (l : List Lk) (id : Idn) : (l.any fun x => eqI x.id id) = l.any fun x => decide (x.id = id) := by
  congr 1
  funext x
  exact eqI_dec _ _
def PrepEnds (d : Nat) (q : Tb) (m : TbM) (id : Idn) (w : World) (e : Ending) (w' : World) : Prop :=
  e = .returned (.int .i64 (prepE q id)) ∧ ∃ m', TbAt w' d (prepT q id) m' ∧ Moves (fpT d m) (fpT d m') w w'
theorem prep_171 {q : Tb} {id : Idn} (h : (q.held.any fun x => eqI x.id id) = false) : prepE q id = 171 := by
  rw [anyEq] at h
  unfold prepE
  rw [if_pos h]
theorem prep_8 {q : Tb} {id : Idn} (h : (q.held.any fun x => eqI x.id id) = true) (h2 : ((wantsL q id).isSome || hasI q.hurt id) = true) : prepE q id = 8 := by
  rw [anyEq] at h
  unfold prepE
  rw [if_neg (by rw [h]; simp), if_pos h2]
theorem prep_0 {q : Tb} {id : Idn} (h : (q.held.any fun x => eqI x.id id) = true) (h2 : ((wantsL q id).isSome || hasI q.hurt id) = false) : prepE q id = 0 := by
  rw [anyEq] at h
  unfold prepE
  rw [if_neg (by rw [h]; simp), if_neg (by rw [h2]; simp)]
theorem prepT_ne {q : Tb} {id : Idn} (h : prepE q id ≠ 0) : prepT q id = q := by unfold prepT; rw [if_neg h]
theorem prepT_0 {q : Tb} {id : Idn} (h : prepE q id = 0) : prepT q id = ⟨q.most, q.held, q.wait, ins ol id q.prep, q.hurt⟩ := by unfold prepT; rw [if_pos h]
theorem Moves.of_below {w w' : World} {S : List Nat} (h : Below w.heap.size w w') : Moves S S w w' := ⟨Kept.of_below h, fun _ hk => .inl hk⟩
set_option maxHeartbeats 8000000 in
set_option maxRecDepth 100000 in
theorem prepare_any {w : World} {d : Nat} {q : Tb} {m : TbM} (h : TbAt w d q m) (id : Idn) (hp : q.prep.length < 1000000) : Calls Tryz.prog 16 #[.pointer (some ⟨d, 0, none⟩), idV id] w (PrepEnds d q m id w) := by
  have HH := Lib.hid h
  have HGP := Lib.hid (prep_good h.good id)
  have HPL := Lib.hid hp
  clear h hp
  cases c1 : (q.held.any fun x => eqI x.id id) with
  | false =>
    have HR := Lib.hid (prep_171 (q := q) (id := id) c1)
    unfold idV
    go_enter Tryz.func16, Tryz.ntmps16
    go_upto_region 1 with fail
    have k1 := Blk.new w 29 #[.int .i64 id.n, .int .i64 id.c]
    have HB := Lib.hid (below_alloc w (.cells #[.int .i64 id.n, .int .i64 id.c] 29))
    obtain ⟨w2, hw2⟩ : ∃ w2, w2 = (w.alloc (.cells #[.int .i64 id.n, .int .i64 id.c] 29)) := ⟨_, rfl⟩
    obtain ⟨p1, hp1⟩ : ∃ p1, p1 = w.heap.size := ⟨_, rfl⟩
    rw [← hw2] at HB k1
    rw [← hp1] at k1
    rw [← hw2]
    rw [← hp1]
    have HPX : Hid (w.heap.size ≤ p1) := Lib.hid (by omega)
    clear hw2 hp1
    have HT2 := Lib.hid (HH.out.below HB.out)
    have HK1 := Lib.hid k1
    have HC := Lib.hid (anyQ 53 #[.pointer (some ⟨p1, 0, none⟩)] (enters_of Tryz.func53 (by kernel_rfl) rfl) (fun x => eqI x.id id) m.ah m.ch w2.heap.size q.held w2 (Reads.of_own HT2.out.oh) (Nat.le_refl _) (by have := HH.out.fh; omega) (fun x W hb => pid_any x id p1 W (k1.below hb k1.lt)))
    rw [c1] at HC
    have y1 : w2.cell? ⟨d, 1, none⟩ = some (.slice m.ah q.held.length m.ch) := HT2.out.c1
    clear k1 c1
    go_wp2_with fail
    refine HC.out.mono ?_
    rintro e w3 ⟨rfl, hb3⟩
    have HB3 := Lib.hid (HB.out.trans (hb3.mono HB.out.size))
    have HK3 := Lib.hid (HK1.out.below hb3 HK1.out.lt)
    have HT3 := Lib.hid (HH.out.below HB3.out)
    clear hb3 y1 HC HT2
    go_wp2
    go_ret
    unfold PrepEnds
    rw [prepT_ne (by rw [HR.out]; decide), HR.out]
    exact ⟨rfl, m, HH.out.below HB3.out, Moves.of_below HB3.out⟩
  | true =>
    cases c2 : (wantsL q id).isSome with
    | true =>
      have HR := Lib.hid (prep_8 (q := q) (id := id) c1 (by rw [c2]; rfl))
      unfold idV
      go_enter Tryz.func16, Tryz.ntmps16
      go_upto_region 1 with fail
      have k1 := Blk.new w 29 #[.int .i64 id.n, .int .i64 id.c]
      have HB := Lib.hid (below_alloc w (.cells #[.int .i64 id.n, .int .i64 id.c] 29))
      obtain ⟨w2, hw2⟩ : ∃ w2, w2 = (w.alloc (.cells #[.int .i64 id.n, .int .i64 id.c] 29)) := ⟨_, rfl⟩
      obtain ⟨p1, hp1⟩ : ∃ p1, p1 = w.heap.size := ⟨_, rfl⟩
      rw [← hw2] at HB k1
      rw [← hp1] at k1
      rw [← hw2]
      rw [← hp1]
      have HPX : Hid (w.heap.size ≤ p1) := Lib.hid (by omega)
      clear hw2 hp1
      have HT2 := Lib.hid (HH.out.below HB.out)
      have HK1 := Lib.hid k1
      have HC := Lib.hid (anyQ 53 #[.pointer (some ⟨p1, 0, none⟩)] (enters_of Tryz.func53 (by kernel_rfl) rfl) (fun x => eqI x.id id) m.ah m.ch w2.heap.size q.held w2 (Reads.of_own HT2.out.oh) (Nat.le_refl _) (by have := HH.out.fh; omega) (fun x W hb => pid_any x id p1 W (k1.below hb k1.lt)))
      rw [c1] at HC
      have y1 : w2.cell? ⟨d, 1, none⟩ = some (.slice m.ah q.held.length m.ch) := HT2.out.c1
      clear k1 c1
      go_wp2_with fail
      refine HC.out.mono ?_
      rintro e w3 ⟨rfl, hb3⟩
      have HB3 := Lib.hid (HB.out.trans (hb3.mono HB.out.size))
      have HK3 := Lib.hid (HK1.out.below hb3 HK1.out.lt)
      have HT3 := Lib.hid (HH.out.below HB3.out)
      clear hb3 y1 HC HT2
      have x0 : w3.cell? ⟨p1, 0, none⟩ = some (.int .i64 id.n) := HK3.out.cell 0
      have x1 : w3.cell? ⟨p1, 1, none⟩ = some (.int .i64 id.c) := HK3.out.cell 1
      have HW := Lib.hid (wants_any HT3.out id)
      unfold WantEnds lkV idV at HW
      rw [c2] at HW
      have hd3 := HT3.out.blk.lt
      have hp1l := HK3.out.lt
      obtain ⟨yw, hyw⟩ : ∃ yw, yw = (wantsL q id).getD zeroL := ⟨_, rfl⟩
      rw [← hyw] at HW
      clear hyw
      go_wp2_with fail
      refine HW.out.mono ?_
      rintro e w4 ⟨rfl, hb4⟩
      have HB4 := Lib.hid (HB3.out.trans (hb4.mono HB3.out.size))
      have HK4 := Lib.hid (HK3.out.below hb4 HK3.out.lt)
      have HBA := Lib.hid (below_alloc w4 (.cells #[.string yw.key, .int .i64 yw.id.n, .int .i64 yw.id.c, .int .i64 yw.mode] 62))
      clear hb4 x0 x1 hd3 hp1l HW
      go_upto_region 4 with fail
      obtain ⟨w5, hw5⟩ : ∃ w5, w5 = w4.alloc (.cells #[.string yw.key, .int .i64 yw.id.n, .int .i64 yw.id.c, .int .i64 yw.mode] 62) := ⟨_, rfl⟩
      rw [← hw5] at HBA
      rw [← hw5]
      clear hw5
      have HB5 := Lib.hid (HB4.out.trans (HBA.out.mono HB4.out.size))
      have HK5 := Lib.hid (HK4.out.below HBA.out HK4.out.lt)
      have HT5 := Lib.hid (HH.out.below HB5.out)
      have hS : Hid (∀ w', Below w5.heap.size w5 w' → (w'.cell? ⟨p1, 0, none⟩ = some (.int .i64 id.n) ∧ w'.cell? ⟨p1, 1, none⟩ = some (.int .i64 id.c) ∧ w'.cell? ⟨d, 4, none⟩ = some (.slice m.au q.hurt.length m.cu))) := Lib.hid (fun w' hb => ⟨(HK5.out.below hb HK5.out.lt).cell 0, (HK5.out.below hb HK5.out.lt).cell 1, (HT5.out.below hb).c4⟩)
      have hD : Below w5.heap.size w5 w5.drew := below_drewN (Below.refl _ _) 1
      have HCO := Lib.hid (fun W (hb : Below w5.heap.size w5 W) => contains_any m.au m.cu q.hurt id W (Reads.of_own (HT5.out.below hb).ou) (by have := HH.out.fm; omega))
      unfold idV at HCO
      clear c2
      refine wp_region_heldH (by kernel_rfl) hS (hD) (fun hHeld => ?_)
      refine takes [0, 1, 2, 3, 4, 5, 6, 7, 8] 0 (by kernel_rfl) (by assumption) ?_
      iterate 2 (refine tkY rfl (fun _ _ _ h => h) rfl (by ((intro w hSw); (try dsimp only at hSw); go_simp; (try with_reducible rfl))) ?_; try simp only [Act.put, List.setIfInBounds_toArray, List.set_cons_zero, List.set_cons_succ])
      iterate 6 (refine tkN rfl (fun _ _ _ h => h) rfl ?_; try simp only [Act.put, List.setIfInBounds_toArray, List.set_cons_zero, List.set_cons_succ])
      refine tkY rfl (fun _ _ _ h => h) rfl (by ((intro w hSw); (try dsimp only at hSw); go_simp; (try with_reducible rfl))) ?_; try simp only [Act.put, List.setIfInBounds_toArray, List.set_cons_zero, List.set_cons_succ]
      refine tkE ?_
      refine wpAnyH_done (by kernel_rfl) ?_ _
      have HBL := Lib.hid (HB5.out.trans (hD.mono HB5.out.size))
      go_wp2
      go_ret
      unfold PrepEnds
      rw [prepT_ne (by rw [HR.out]; decide), HR.out]
      exact ⟨rfl, m, HH.out.below HBL.out, Moves.of_below HBL.out⟩
    | false =>
      cases c3 : hasI q.hurt id with
      | true =>
        have HR := Lib.hid (prep_8 (q := q) (id := id) c1 (by rw [c2, c3]; rfl))
        unfold idV
        go_enter Tryz.func16, Tryz.ntmps16
        go_upto_region 1 with fail
        have k1 := Blk.new w 29 #[.int .i64 id.n, .int .i64 id.c]
        have HB := Lib.hid (below_alloc w (.cells #[.int .i64 id.n, .int .i64 id.c] 29))
        obtain ⟨w2, hw2⟩ : ∃ w2, w2 = (w.alloc (.cells #[.int .i64 id.n, .int .i64 id.c] 29)) := ⟨_, rfl⟩
        obtain ⟨p1, hp1⟩ : ∃ p1, p1 = w.heap.size := ⟨_, rfl⟩
        rw [← hw2] at HB k1
        rw [← hp1] at k1
        rw [← hw2]
        rw [← hp1]
        have HPX : Hid (w.heap.size ≤ p1) := Lib.hid (by omega)
        clear hw2 hp1
        have HT2 := Lib.hid (HH.out.below HB.out)
        have HK1 := Lib.hid k1
        have HC := Lib.hid (anyQ 53 #[.pointer (some ⟨p1, 0, none⟩)] (enters_of Tryz.func53 (by kernel_rfl) rfl) (fun x => eqI x.id id) m.ah m.ch w2.heap.size q.held w2 (Reads.of_own HT2.out.oh) (Nat.le_refl _) (by have := HH.out.fh; omega) (fun x W hb => pid_any x id p1 W (k1.below hb k1.lt)))
        rw [c1] at HC
        have y1 : w2.cell? ⟨d, 1, none⟩ = some (.slice m.ah q.held.length m.ch) := HT2.out.c1
        clear k1 c1
        go_wp2_with fail
        refine HC.out.mono ?_
        rintro e w3 ⟨rfl, hb3⟩
        have HB3 := Lib.hid (HB.out.trans (hb3.mono HB.out.size))
        have HK3 := Lib.hid (HK1.out.below hb3 HK1.out.lt)
        have HT3 := Lib.hid (HH.out.below HB3.out)
        clear hb3 y1 HC HT2
        have x0 : w3.cell? ⟨p1, 0, none⟩ = some (.int .i64 id.n) := HK3.out.cell 0
        have x1 : w3.cell? ⟨p1, 1, none⟩ = some (.int .i64 id.c) := HK3.out.cell 1
        have HW := Lib.hid (wants_any HT3.out id)
        unfold WantEnds lkV idV at HW
        rw [c2] at HW
        have hd3 := HT3.out.blk.lt
        have hp1l := HK3.out.lt
        obtain ⟨yw, hyw⟩ : ∃ yw, yw = (wantsL q id).getD zeroL := ⟨_, rfl⟩
        rw [← hyw] at HW
        clear hyw
        go_wp2_with fail
        refine HW.out.mono ?_
        rintro e w4 ⟨rfl, hb4⟩
        have HB4 := Lib.hid (HB3.out.trans (hb4.mono HB3.out.size))
        have HK4 := Lib.hid (HK3.out.below hb4 HK3.out.lt)
        have HBA := Lib.hid (below_alloc w4 (.cells #[.string yw.key, .int .i64 yw.id.n, .int .i64 yw.id.c, .int .i64 yw.mode] 62))
        clear hb4 x0 x1 hd3 hp1l HW
        go_upto_region 4 with fail
        obtain ⟨w5, hw5⟩ : ∃ w5, w5 = w4.alloc (.cells #[.string yw.key, .int .i64 yw.id.n, .int .i64 yw.id.c, .int .i64 yw.mode] 62) := ⟨_, rfl⟩
        rw [← hw5] at HBA
        rw [← hw5]
        clear hw5
        have HB5 := Lib.hid (HB4.out.trans (HBA.out.mono HB4.out.size))
        have HK5 := Lib.hid (HK4.out.below HBA.out HK4.out.lt)
        have HT5 := Lib.hid (HH.out.below HB5.out)
        have hS : Hid (∀ w', Below w5.heap.size w5 w' → (w'.cell? ⟨p1, 0, none⟩ = some (.int .i64 id.n) ∧ w'.cell? ⟨p1, 1, none⟩ = some (.int .i64 id.c) ∧ w'.cell? ⟨d, 4, none⟩ = some (.slice m.au q.hurt.length m.cu))) := Lib.hid (fun w' hb => ⟨(HK5.out.below hb HK5.out.lt).cell 0, (HK5.out.below hb HK5.out.lt).cell 1, (HT5.out.below hb).c4⟩)
        have hD : Below w5.heap.size w5 w5.drew := below_drewN (Below.refl _ _) 1
        have HCO := Lib.hid (fun W (hb : Below w5.heap.size w5 W) => contains_any m.au m.cu q.hurt id W (Reads.of_own (HT5.out.below hb).ou) (by have := HH.out.fm; omega))
        unfold idV at HCO
        rw [c3] at HCO
        clear c2 c3
        refine wp_region_heldH (by kernel_rfl) hS (hD) (fun hHeld => ?_)
        refine takes [0, 1, 2, 3, 4, 5, 6] 2 (by kernel_rfl) (by assumption) ?_
        iterate 7 (refine tkY rfl (fun _ _ _ h => h) rfl (by ((intro w hSw); (try dsimp only at hSw); go_simp; (try with_reducible rfl))) ?_; try simp only [Act.put, List.setIfInBounds_toArray, List.set_cons_zero, List.set_cons_succ])
        refine tkE ?_
        refine wpAnyH_ready (rs := [7]) (by kernel_rfl) (by simp) ?_
        refine readyC rfl (fun K hK => ?_) ?_
        ·
          go_simp
          go_at_call 37
          refine (HCO.out _ hD).mono ?_
          rintro e w6 ⟨rfl, hb6⟩
          have hc6 : Below w5.heap.size w5 w6 := hD.trans (hb6.mono hD.size)
          clear hb6
          go_wp2_with fail
          refine hK.out _ _ (by with_reducible exact hS.out _ hc6) (fun hHeld => ?_)
          clear hK K
          try simp only [Act.put, List.setIfInBounds_toArray, List.set_cons_zero, List.set_cons_succ]
          refine takes [8] 0 (by kernel_rfl) (by assumption) ?_
          refine tkY rfl (fun _ _ _ h => h) rfl (by ((intro w hSw); (try dsimp only at hSw); go_simp; (try with_reducible rfl))) ?_; try simp only [Act.put, List.setIfInBounds_toArray, List.set_cons_zero, List.set_cons_succ]
          refine tkE ?_
          refine wpAnyH_done (by kernel_rfl) ?_ _
          have HBL := Lib.hid (HB5.out.trans (hc6.mono HB5.out.size))
          go_wp2
          go_ret
          unfold PrepEnds
          rw [prepT_ne (by rw [HR.out]; decide), HR.out]
          exact ⟨rfl, m, HH.out.below HBL.out, Moves.of_below HBL.out⟩
        exact AllReadyH.nil
      | false =>
        have HR := Lib.hid (prep_0 (q := q) (id := id) c1 (by rw [c2, c3]; rfl))
        unfold idV
        go_enter Tryz.func16, Tryz.ntmps16
        go_upto_region 1 with fail
        have k1 := Blk.new w 29 #[.int .i64 id.n, .int .i64 id.c]
        have HB := Lib.hid (below_alloc w (.cells #[.int .i64 id.n, .int .i64 id.c] 29))
        obtain ⟨w2, hw2⟩ : ∃ w2, w2 = (w.alloc (.cells #[.int .i64 id.n, .int .i64 id.c] 29)) := ⟨_, rfl⟩
        obtain ⟨p1, hp1⟩ : ∃ p1, p1 = w.heap.size := ⟨_, rfl⟩
        rw [← hw2] at HB k1
        rw [← hp1] at k1
        rw [← hw2]
        rw [← hp1]
        have HPX : Hid (w.heap.size ≤ p1) := Lib.hid (by omega)
        clear hw2 hp1
        have HT2 := Lib.hid (HH.out.below HB.out)
        have HK1 := Lib.hid k1
        have HC := Lib.hid (anyQ 53 #[.pointer (some ⟨p1, 0, none⟩)] (enters_of Tryz.func53 (by kernel_rfl) rfl) (fun x => eqI x.id id) m.ah m.ch w2.heap.size q.held w2 (Reads.of_own HT2.out.oh) (Nat.le_refl _) (by have := HH.out.fh; omega) (fun x W hb => pid_any x id p1 W (k1.below hb k1.lt)))
        rw [c1] at HC
        have y1 : w2.cell? ⟨d, 1, none⟩ = some (.slice m.ah q.held.length m.ch) := HT2.out.c1
        clear k1 c1
        go_wp2_with fail
        refine HC.out.mono ?_
        rintro e w3 ⟨rfl, hb3⟩
        have HB3 := Lib.hid (HB.out.trans (hb3.mono HB.out.size))
        have HK3 := Lib.hid (HK1.out.below hb3 HK1.out.lt)
        have HT3 := Lib.hid (HH.out.below HB3.out)
        clear hb3 y1 HC HT2
        have x0 : w3.cell? ⟨p1, 0, none⟩ = some (.int .i64 id.n) := HK3.out.cell 0
        have x1 : w3.cell? ⟨p1, 1, none⟩ = some (.int .i64 id.c) := HK3.out.cell 1
        have HW := Lib.hid (wants_any HT3.out id)
        unfold WantEnds lkV idV at HW
        rw [c2] at HW
        have hd3 := HT3.out.blk.lt
        have hp1l := HK3.out.lt
        obtain ⟨yw, hyw⟩ : ∃ yw, yw = (wantsL q id).getD zeroL := ⟨_, rfl⟩
        rw [← hyw] at HW
        clear hyw
        go_wp2_with fail
        refine HW.out.mono ?_
        rintro e w4 ⟨rfl, hb4⟩
        have HB4 := Lib.hid (HB3.out.trans (hb4.mono HB3.out.size))
        have HK4 := Lib.hid (HK3.out.below hb4 HK3.out.lt)
        have HBA := Lib.hid (below_alloc w4 (.cells #[.string yw.key, .int .i64 yw.id.n, .int .i64 yw.id.c, .int .i64 yw.mode] 62))
        clear hb4 x0 x1 hd3 hp1l HW
        go_upto_region 4 with fail
        obtain ⟨w5, hw5⟩ : ∃ w5, w5 = w4.alloc (.cells #[.string yw.key, .int .i64 yw.id.n, .int .i64 yw.id.c, .int .i64 yw.mode] 62) := ⟨_, rfl⟩
        rw [← hw5] at HBA
        rw [← hw5]
        clear hw5
        have HB5 := Lib.hid (HB4.out.trans (HBA.out.mono HB4.out.size))
        have HK5 := Lib.hid (HK4.out.below HBA.out HK4.out.lt)
        have HT5 := Lib.hid (HH.out.below HB5.out)
        have hS : Hid (∀ w', Below w5.heap.size w5 w' → (w'.cell? ⟨p1, 0, none⟩ = some (.int .i64 id.n) ∧ w'.cell? ⟨p1, 1, none⟩ = some (.int .i64 id.c) ∧ w'.cell? ⟨d, 4, none⟩ = some (.slice m.au q.hurt.length m.cu))) := Lib.hid (fun w' hb => ⟨(HK5.out.below hb HK5.out.lt).cell 0, (HK5.out.below hb HK5.out.lt).cell 1, (HT5.out.below hb).c4⟩)
        have hD : Below w5.heap.size w5 w5.drew := below_drewN (Below.refl _ _) 1
        have HCO := Lib.hid (fun W (hb : Below w5.heap.size w5 W) => contains_any m.au m.cu q.hurt id W (Reads.of_own (HT5.out.below hb).ou) (by have := HH.out.fm; omega))
        unfold idV at HCO
        rw [c3] at HCO
        clear c2 c3
        refine wp_region_heldH (by kernel_rfl) hS (hD) (fun hHeld => ?_)
        refine takes [0, 1, 2, 3, 4, 5, 6] 2 (by kernel_rfl) (by assumption) ?_
        iterate 7 (refine tkY rfl (fun _ _ _ h => h) rfl (by ((intro w hSw); (try dsimp only at hSw); go_simp; (try with_reducible rfl))) ?_; try simp only [Act.put, List.setIfInBounds_toArray, List.set_cons_zero, List.set_cons_succ])
        refine tkE ?_
        refine wpAnyH_ready (rs := [7]) (by kernel_rfl) (by simp) ?_
        refine readyC rfl (fun K hK => ?_) ?_
        ·
          go_simp
          go_at_call 37
          refine (HCO.out _ hD).mono ?_
          rintro e w6 ⟨rfl, hb6⟩
          have hc6 : Below w5.heap.size w5 w6 := hD.trans (hb6.mono hD.size)
          clear hb6
          go_wp2_with fail
          refine hK.out _ _ (by with_reducible exact hS.out _ hc6) (fun hHeld => ?_)
          clear hK K
          try simp only [Act.put, List.setIfInBounds_toArray, List.set_cons_zero, List.set_cons_succ]
          refine takes [8] 0 (by kernel_rfl) (by assumption) ?_
          refine tkY rfl (fun _ _ _ h => h) rfl (by ((intro w hSw); (try dsimp only at hSw); go_simp; (try with_reducible rfl))) ?_; try simp only [Act.put, List.setIfInBounds_toArray, List.set_cons_zero, List.set_cons_succ]
          refine tkE ?_
          refine wpAnyH_done (by kernel_rfl) ?_ _
          have HBL := Lib.hid (HB5.out.trans (hc6.mono HB5.out.size))
          have HT6 := Lib.hid (HH.out.below HBL.out)
          have HK6 := Lib.hid (HK5.out.below hc6 HK5.out.lt)
          clear hHeld hc6 hS hD HCO
          go_upto_region 6 with fail
          have HT7 := Lib.hid (HT6.out.below (below_drewN (Below.refl _ _) 1 : Below w6.heap.size w6 w6.drew))
          have HK7 := Lib.hid (HK6.out.below (below_drewN (Below.refl _ _) 1 : Below w6.heap.size w6 w6.drew) HK6.out.lt)
          have HB7 := Lib.hid (below_drewN HBL.out 1 : Below w.heap.size w w6.drew)
          have hS : w6.drew.cell? ⟨p1, 0, none⟩ = some (.int .i64 id.n) ∧ w6.drew.cell? ⟨p1, 1, none⟩ = some (.int .i64 id.c) ∧ w6.drew.cell? ⟨d, 3, none⟩ = some (.slice m.ap q.prep.length m.cp) := ⟨HK7.out.cell 0, HK7.out.cell 1, HT7.out.c3⟩
          have HM := Lib.hid (mark_any m.ap m.cp q.prep id w6.drew HT7.out.op HT7.out.good.sp (by have := HPL.out; omega))
          unfold InsAtI idV at HM
          refine wp_region_last_held (S := fun w' => w'.cell? ⟨p1, 0, none⟩ = some (.int .i64 id.n) ∧ w'.cell? ⟨p1, 1, none⟩ = some (.int .i64 id.c) ∧ w'.cell? ⟨d, 3, none⟩ = some (.slice m.ap q.prep.length m.cp)) (ops := #[{ dst := some 29, op := Op.move (Operand.tmp 0), type := 23, pos := "locks.go:141", after := #[], guard := none }, { dst := some 30, op := Op.move (Operand.tmp 0), type := 23, pos := "locks.go:141", after := #[], guard := none }, { dst := some 31, op := Op.nilCheck (Operand.tmp 30), type := 0, pos := "locks.go:141", after := #[{ on := 1, ground := Ground.data }], guard := none }, { dst := some 32, op := Op.fieldAddr 47 (Operand.tmp 31) 3, type := 0, pos := "locks.go:141", after := #[{ on := 2, ground := Ground.data }], guard := none }, { dst := some 33, op := Op.load 36 (Operand.tmp 32), type := 36, pos := "locks.go:141", after := #[{ on := 3, ground := Ground.data }], guard := none }, { dst := some 34, op := Op.load 29 (Operand.tmp 3), type := 29, pos := "locks.go:141", after := #[], guard := none }, { dst := some 35, op := Op.call { callee := Callee.value (Operand.func 43), args := #[Operand.tmp 33, Operand.tmp 34], argTypes := #[36, 29] }, type := 36, pos := "locks.go:141", after := #[{ on := 4, ground := Ground.data }, { on := 5, ground := Ground.data }], guard := none }, { dst := some 36, op := Op.nilCheck (Operand.tmp 29), type := 0, pos := "locks.go:141", after := #[{ on := 0, ground := Ground.data }, { on := 0, ground := Ground.phase }, { on := 1, ground := Ground.phase }, { on := 2, ground := Ground.phase }, { on := 3, ground := Ground.phase }, { on := 4, ground := Ground.phase }, { on := 5, ground := Ground.phase }, { on := 6, ground := Ground.phase }], guard := none }, { dst := some 37, op := Op.fieldAddr 47 (Operand.tmp 36) 3, type := 0, pos := "locks.go:141", after := #[{ on := 7, ground := Ground.data }, { on := 0, ground := Ground.phase }, { on := 1, ground := Ground.phase }, { on := 2, ground := Ground.phase }, { on := 3, ground := Ground.phase }, { on := 4, ground := Ground.phase }, { on := 5, ground := Ground.phase }, { on := 6, ground := Ground.phase }], guard := none }]) (o := { dst := none, op := Op.store 36 (Operand.tmp 37) (Operand.tmp 35), type := 0, pos := "locks.go:141", after := #[{ on := 8, ground := Ground.data }, { on := 6, ground := Ground.data }, { on := 6, ground := Ground.chain }, { on := 0, ground := Ground.phase }, { on := 1, ground := Ground.phase }, { on := 2, ground := Ground.phase }, { on := 3, ground := Ground.phase }, { on := 4, ground := Ground.phase }, { on := 5, ground := Ground.phase }, { on := 6, ground := Ground.phase }], guard := none }) rfl (by kernel_rfl) (by kernel_rfl) (by kernel_rfl) hS (fun hHeld => ?_)
          refine takes [0, 1, 2, 3, 4, 5] 3 (by kernel_rfl) (by assumption) ?_
          iterate 6 (refine tkY rfl (fun _ _ _ h => h) rfl (by ((intro w hSw); (try dsimp only at hSw); go_simp; (try with_reducible rfl))) ?_; try simp only [Act.put, List.setIfInBounds_toArray, List.set_cons_zero, List.set_cons_succ])
          refine tkE ?_
          refine wpAnyH_ready (rs := [6]) (by kernel_rfl) (by simp) ?_
          refine readyC rfl (fun K hK => ?_) ?_
          ·
            go_simp
            go_at_call 43
            refine HM.out.mono ?_
            rintro e w8 ⟨A1, c1, rfl, ho8, hm8⟩
            have HO8 := Lib.hid ho8
            have HM8 := Lib.hid hm8
            clear ho8 hm8
            have hc8 : w8.cell? ⟨p1, 0, none⟩ = some (.int .i64 id.n) ∧ w8.cell? ⟨p1, 1, none⟩ = some (.int .i64 id.c) ∧ w8.cell? ⟨d, 3, none⟩ = some (.slice m.ap q.prep.length m.cp) := by
              have z1 := HM8.out.kept.blk HK7.out (fun hm => by have := own_lt HH.out.op _ hm; have := HPX.out; omega)
              have z2 := HM8.out.kept.blk HT7.out.blk HT7.out.dp
              exact ⟨z1.cell 0, z1.cell 1, z2.cell 3⟩
            have HD8 := Lib.hid (HM8.out.kept.blk HT7.out.blk HT7.out.dp)
            go_wp2_with fail
            refine hK.out _ _ (hc8) (fun hHeld => ?_)
            clear hK K
            try simp only [Act.put, List.setIfInBounds_toArray, List.set_cons_zero, List.set_cons_succ]
            refine takes [7, 8] 0 (by kernel_rfl) (by assumption) ?_
            iterate 2 (refine tkY rfl (fun _ _ _ h => h) rfl (by ((intro w hSw); (try dsimp only at hSw); go_simp; (try with_reducible rfl))) ?_; try simp only [Act.put, List.setIfInBounds_toArray, List.set_cons_zero, List.set_cons_succ])
            refine tkE ?_
            refine wpAnyH_done (by kernel_rfl) ?_ _
            have f3 := HD8.out.frozen 3
            have z3 := hHeld.2.2
            have HF := Lib.hid (HT7.out.setP HO8.out HM8.out (by have := HGP.out; rw [prepT_0 HR.out] at this; exact this) ⟨by have := ins_len (lt := ol) (x := id) q.prep; have := HPL.out; omega, HH.out.fm.2⟩)
            rw [← prepT_0 HR.out] at HF
            refine withLast_go (fun K hK => ?_)
            clear hHeld
            go_simp
            refine hK _ _ ?_
            clear hK K f3 z3
            go_wp2
            go_ret
            unfold PrepEnds
            rw [HR.out]
            exact ⟨rfl, _, HF.out.1, Moves.below_left HB7.out HF.out.2⟩
          exact AllReadyH.nil
        exact AllReadyH.nil
end Go.Proofs.YtpidpdbjjdkhoaaGreat
