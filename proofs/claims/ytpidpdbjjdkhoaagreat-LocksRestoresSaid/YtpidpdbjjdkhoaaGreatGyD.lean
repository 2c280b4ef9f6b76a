/- Locks, Restore: both walks. -/
import Derived.Test.YtpidpdbjjdkhoaaGreatGyF
import Derived.Test.YtpidpdbjjdkhoaaGreatGzL
namespace Go.Proofs.YtpidpdbjjdkhoaaGreat
open Go.RowKit
set_option linter.unusedSimpArgs false
set_option linter.unusedVariables false
attribute [local go_sem ↓] Go.wp_at_zero Go.wp_at_succ

/-- a new table in memory newer than w0 -/
structure Lay (w0 w : World) (d : Nat) (q : Tb) (m : TbM) (t : TypeId) : Prop where
  blk : Blk w d t (tbC q m)
  oh : w.ownsRow 0 62 4 (.slice m.ah q.held.length m.ch) q.held.length (rc lkR q.held)
  ow : w.ownsRow 0 62 4 (.slice m.aw q.wait.length m.cw) q.wait.length (rc lkR q.wait)
  op : w.ownsRow 0 29 2 (.slice m.ap q.prep.length m.cp) q.prep.length (rc idR q.prep)
  ou : w.ownsRow 0 29 2 (.slice m.au q.hurt.length m.cu) q.hurt.length (rc idR q.hurt)
  shw : ∀ k ∈ ob m.ah, k ∉ ob m.aw
  spu : ∀ k ∈ ob m.ap, k ∉ ob m.au
  new : ∀ k ∈ fpT d m, w0.heap.size ≤ k
  bel : Below w0.heap.size w0 w
section
variable {w0 w w' : World} {d : Nat} {q : Tb} {m : TbM} {t : TypeId}
theorem Lay.below (h : Lay w0 w d q m t) (hb : Below w.heap.size w w') : Lay w0 w' d q m t :=
  have hk := Kept.of_below (S := []) hb
  ⟨hk.blk h.blk (by simp), hk.own h.oh (by simp), hk.own h.ow (by simp), hk.own h.op (by simp), hk.own h.ou (by simp), h.shw, h.spu, h.new, h.bel.trans (hb.mono h.bel.size)⟩
theorem Lay.lt (h : Lay w0 w d q m t) : ∀ k ∈ fpT d m, k < w.heap.size := by
  intro k hk
  simp only [fpT, List.mem_cons, List.mem_append] at hk
  rcases hk with rfl | hk | hk | hk | hk
  · exact h.blk.lt
  · exact own_lt h.oh k hk
  · exact own_lt h.ow k hk
  · exact own_lt h.op k hk
  · exact own_lt h.ou k hk
theorem Lay.start (w : World) (most : Int) (t : TypeId) : Lay w (w.alloc (.cells (tbC (tb0 most) tm0) t)) w.heap.size (tb0 most) tm0 t :=
  ⟨Blk.new _ _ _, World.ownsRow_nil _ _ _ _, World.ownsRow_nil _ _ _ _, World.ownsRow_nil _ _ _ _, World.ownsRow_nil _ _ _ _, by simp [tm0, ob], by simp [tm0, ob], by simp [fpT, tm0, ob], below_alloc w _⟩
theorem Lay.set_held (h : Lay w0 w d q m t) (hT1 : 62 ≠ t) (hT2 : 29 ≠ t) {l : List Lk} {A1 : Option Addr} {c1 : Nat} (ho : w.ownsRow 0 62 4 (.slice A1 l.length c1) l.length (rc lkR l)) (hd : ∀ k ∈ ob A1, k ∉ fpT d m ∧ w0.heap.size ≤ k) :
    Lay w0 (w.setCell ⟨d, 1, none⟩ (.slice A1 l.length c1)) d ⟨q.most, l, q.wait, q.prep, q.hurt⟩ ⟨A1, c1, m.aw, m.cw, m.ap, m.cp, m.au, m.cu⟩ t := by
  have hB := h.blk
  have hk : Kept [d] w (w.setCell ⟨d, 1, none⟩ (.slice A1 l.length c1)) := (Kept.refl [d] w).setCell _ (.inl (List.mem_singleton.2 rfl))
  have hdn : w0.heap.size ≤ d := h.new d (by simp [fpT])
  refine ⟨h.blk.set_ 1 _, hk.own ho (fun g hg hm => own_blk_ne ho hB hT1 (by rw [hg, List.mem_singleton.1 hm])), hk.own h.ow (fun g hg hm => own_blk_ne h.ow hB hT1 (by rw [hg, List.mem_singleton.1 hm])), hk.own h.op (fun g hg hm => own_blk_ne h.op hB hT2 (by rw [hg, List.mem_singleton.1 hm])), hk.own h.ou (fun g hg hm => own_blk_ne h.ou hB hT2 (by rw [hg, List.mem_singleton.1 hm])), fun k hk hk2 => (hd k hk).1 (by simp only [fpT, List.mem_cons, List.mem_append]; exact .inr (.inr (.inl hk2))), h.spu, fun k hk => ?_, h.bel.trans (hk.below (by have := h.bel.size; omega) (fun y hy => by rw [List.mem_singleton.1 hy]; exact hdn))⟩
  have hn := h.new k
  simp only [fpT, List.mem_cons, List.mem_append] at hk hn
  rcases hk with hk | hk | hk | hk | hk
  · exact hn (.inl hk)
  · exact (hd k hk).2
  · exact hn (.inr (.inr (.inl hk)))
  · exact hn (.inr (.inr (.inr (.inl hk))))
  · exact hn (.inr (.inr (.inr (.inr hk))))
theorem Lay.set_wait (h : Lay w0 w d q m t) (hT1 : 62 ≠ t) (hT2 : 29 ≠ t) {l : List Lk} {A1 : Option Addr} {c1 : Nat} (ho : w.ownsRow 0 62 4 (.slice A1 l.length c1) l.length (rc lkR l)) (hd : ∀ k ∈ ob A1, k ∉ fpT d m ∧ w0.heap.size ≤ k) :
    Lay w0 (w.setCell ⟨d, 2, none⟩ (.slice A1 l.length c1)) d ⟨q.most, q.held, l, q.prep, q.hurt⟩ ⟨m.ah, m.ch, A1, c1, m.ap, m.cp, m.au, m.cu⟩ t := by
  have hB := h.blk
  have hk : Kept [d] w (w.setCell ⟨d, 2, none⟩ (.slice A1 l.length c1)) := (Kept.refl [d] w).setCell _ (.inl (List.mem_singleton.2 rfl))
  have hdn : w0.heap.size ≤ d := h.new d (by simp [fpT])
  refine ⟨h.blk.set_ 2 _, hk.own h.oh (fun g hg hm => own_blk_ne h.oh hB hT1 (by rw [hg, List.mem_singleton.1 hm])), hk.own ho (fun g hg hm => own_blk_ne ho hB hT1 (by rw [hg, List.mem_singleton.1 hm])), hk.own h.op (fun g hg hm => own_blk_ne h.op hB hT2 (by rw [hg, List.mem_singleton.1 hm])), hk.own h.ou (fun g hg hm => own_blk_ne h.ou hB hT2 (by rw [hg, List.mem_singleton.1 hm])), fun k hk hk2 => (hd k hk2).1 (by simp only [fpT, List.mem_cons, List.mem_append]; exact .inr (.inl hk)), h.spu, fun k hk => ?_, h.bel.trans (hk.below (by have := h.bel.size; omega) (fun y hy => by rw [List.mem_singleton.1 hy]; exact hdn))⟩
  have hn := h.new k
  simp only [fpT, List.mem_cons, List.mem_append] at hk hn
  rcases hk with hk | hk | hk | hk | hk
  · exact hn (.inl hk)
  · exact hn (.inr (.inl hk))
  · exact (hd k hk).2
  · exact hn (.inr (.inr (.inr (.inl hk))))
  · exact hn (.inr (.inr (.inr (.inr hk))))
theorem Lay.set_prep (h : Lay w0 w d q m t) (hT1 : 62 ≠ t) (hT2 : 29 ≠ t) {l : List Idn} {A1 : Option Addr} {c1 : Nat} (ho : w.ownsRow 0 29 2 (.slice A1 l.length c1) l.length (rc idR l)) (hd : ∀ k ∈ ob A1, k ∉ fpT d m ∧ w0.heap.size ≤ k) :
    Lay w0 (w.setCell ⟨d, 3, none⟩ (.slice A1 l.length c1)) d ⟨q.most, q.held, q.wait, l, q.hurt⟩ ⟨m.ah, m.ch, m.aw, m.cw, A1, c1, m.au, m.cu⟩ t := by
  have hB := h.blk
  have hk : Kept [d] w (w.setCell ⟨d, 3, none⟩ (.slice A1 l.length c1)) := (Kept.refl [d] w).setCell _ (.inl (List.mem_singleton.2 rfl))
  have hdn : w0.heap.size ≤ d := h.new d (by simp [fpT])
  refine ⟨h.blk.set_ 3 _, hk.own h.oh (fun g hg hm => own_blk_ne h.oh hB hT1 (by rw [hg, List.mem_singleton.1 hm])), hk.own h.ow (fun g hg hm => own_blk_ne h.ow hB hT1 (by rw [hg, List.mem_singleton.1 hm])), hk.own ho (fun g hg hm => own_blk_ne ho hB hT2 (by rw [hg, List.mem_singleton.1 hm])), hk.own h.ou (fun g hg hm => own_blk_ne h.ou hB hT2 (by rw [hg, List.mem_singleton.1 hm])), h.shw, fun k hk hk2 => (hd k hk).1 (by simp only [fpT, List.mem_cons, List.mem_append]; exact .inr (.inr (.inr (.inr hk2)))), fun k hk => ?_, h.bel.trans (hk.below (by have := h.bel.size; omega) (fun y hy => by rw [List.mem_singleton.1 hy]; exact hdn))⟩
  have hn := h.new k
  simp only [fpT, List.mem_cons, List.mem_append] at hk hn
  rcases hk with hk | hk | hk | hk | hk
  · exact hn (.inl hk)
  · exact hn (.inr (.inl hk))
  · exact hn (.inr (.inr (.inl hk)))
  · exact (hd k hk).2
  · exact hn (.inr (.inr (.inr (.inr hk))))
theorem Lay.set_hurt (h : Lay w0 w d q m t) (hT1 : 62 ≠ t) (hT2 : 29 ≠ t) {l : List Idn} {A1 : Option Addr} {c1 : Nat} (ho : w.ownsRow 0 29 2 (.slice A1 l.length c1) l.length (rc idR l)) (hd : ∀ k ∈ ob A1, k ∉ fpT d m ∧ w0.heap.size ≤ k) :
    Lay w0 (w.setCell ⟨d, 4, none⟩ (.slice A1 l.length c1)) d ⟨q.most, q.held, q.wait, q.prep, l⟩ ⟨m.ah, m.ch, m.aw, m.cw, m.ap, m.cp, A1, c1⟩ t := by
  have hB := h.blk
  have hk : Kept [d] w (w.setCell ⟨d, 4, none⟩ (.slice A1 l.length c1)) := (Kept.refl [d] w).setCell _ (.inl (List.mem_singleton.2 rfl))
  have hdn : w0.heap.size ≤ d := h.new d (by simp [fpT])
  refine ⟨h.blk.set_ 4 _, hk.own h.oh (fun g hg hm => own_blk_ne h.oh hB hT1 (by rw [hg, List.mem_singleton.1 hm])), hk.own h.ow (fun g hg hm => own_blk_ne h.ow hB hT1 (by rw [hg, List.mem_singleton.1 hm])), hk.own h.op (fun g hg hm => own_blk_ne h.op hB hT2 (by rw [hg, List.mem_singleton.1 hm])), hk.own ho (fun g hg hm => own_blk_ne ho hB hT2 (by rw [hg, List.mem_singleton.1 hm])), h.shw, fun k hk hk2 => (hd k hk2).1 (by simp only [fpT, List.mem_cons, List.mem_append]; exact .inr (.inr (.inr (.inl hk)))), fun k hk => ?_, h.bel.trans (hk.below (by have := h.bel.size; omega) (fun y hy => by rw [List.mem_singleton.1 hy]; exact hdn))⟩
  have hn := h.new k
  simp only [fpT, List.mem_cons, List.mem_append] at hk hn
  rcases hk with hk | hk | hk | hk | hk
  · exact hn (.inl hk)
  · exact hn (.inr (.inl hk))
  · exact hn (.inr (.inr (.inl hk)))
  · exact hn (.inr (.inr (.inr (.inl hk))))
  · exact (hd k hk).2
theorem Lay.tb (h : Lay w0 w d q m 47) (h1 : q.held.length + q.wait.length ≤ 1000) (h2 : q.prep.length ≤ 8796093022208 ∧ q.hurt.length ≤ 8796093022208) : TbW w d q m := ⟨h.blk, h.oh, h.ow, h.op, h.ou, h.shw, h.spu, h1, h2⟩
theorem Lay.rf (h : Lay w0 w d q m 49) (h1 : q.held.length + q.wait.length ≤ 1000) (h2 : q.prep.length ≤ 8796093022208 ∧ q.hurt.length ≤ 8796093022208) : RfAt w d q m := ⟨h.blk, h.oh, h.ow, h.op, h.ou, h1, h2⟩
end
/-- what Restore answers, ok: it may; the table lies in new memory -/
def rstE (ok : Bool) (q : Tb) : Int := if ok then (if q.most < (q.held.length : Int) + q.wait.length then 151 else 0) else 6
def RstEnds (ok : Bool) (q : Tb) (t : TypeId) (w : World) (e : Ending) (w' : World) : Prop :=
  Below w.heap.size w w' ∧ ((rstE ok q ≠ 0 ∧ e = .returned (.tuple #[.pointer none, .int .i64 (rstE ok q)])) ∨
    (rstE ok q = 0 ∧ ∃ d m, e = .returned (.tuple #[.pointer (some ⟨d, 0, none⟩), .int .i64 0]) ∧ Lay w w' d q m t))
theorem rst6 (q : Tb) : rstE false q = 6 := rfl
theorem rst151 {q : Tb} (h : q.most < (q.held.length : Int) + q.wait.length) : rstE true q = 151 := by unfold rstE; rw [if_pos rfl, if_pos h]
theorem rst0 {q : Tb} (h : ¬ q.most < (q.held.length : Int) + q.wait.length) : rstE true q = 0 := by unfold rstE; rw [if_pos rfl, if_neg h]
theorem good_lists {q : Tb} (h : listsB q = true) : Good q ∧ ∀ i, i ∈ q.prep ∨ i ∈ q.hurt → idOk i = true := by
  unfold listsB at h
  simp only [Bool.and_eq_true, Bool.not_eq_true', List.any_eq_false] at h
  obtain ⟨h1, h2, h3, h4, h5, h6, h7, h8⟩ := h
  have rs : ∀ {α : Type} {R : RowT α} {lt : α → α → Bool} {l : List α}, Ord' lt → riseB R lt l = true → Srt lt l := fun O hr => srt_adj O (fun j hj => List.all_eq_true.1 hr j (List.mem_range.2 (by omega)))
  have s1 : ∀ {l : List Lk}, (∀ x ∈ l, ¬ badL x = true) → ∀ x ∈ l, soundE x = 0 := fun h x hx => by have := h x hx; unfold badL at this; simpa using this
  have s2 : ∀ {l : List Idn}, (∀ x ∈ l, ¬ badI x = true) → ∀ x ∈ l, idOk x = true := fun h x hx => by
    have := h x hx
    unfold badI idE at this
    by_cases hi : idOk x = true
    · exact hi
    · rw [if_neg hi] at this; simp at this
  exact ⟨⟨rs ah_ord h5, rs ah_ord h6, rs ol_ord h7, rs ol_ord h8, s1 h1, s1 h2⟩, fun i hi => hi.elim (s2 h3 i) (s2 h4 i)⟩
set_option maxHeartbeats 16000000 in
set_option maxRecDepth 100000 in
theorem restore_any (most : Int) (Ah Aw Ap Au : Option Addr) (ch cw cp cu : Nat) (H W : List Lk) (P U : List Idn) (w : World) (hh : Reads w w.heap.size 4 Ah H.length (rc lkR H)) (hw : Reads w w.heap.size 4 Aw W.length (rc lkR W))
    (hp : Reads w w.heap.size 2 Ap P.length (rc idR P)) (hu : Reads w w.heap.size 2 Au U.length (rc idR U)) (h1 : H.length + W.length ≤ 1000) (h2 : P.length ≤ 8796093022208 ∧ U.length ≤ 8796093022208) :
    Calls Tryz.prog 9 #[.int .i64 most, .slice Ah H.length ch, .slice Aw W.length cw, .slice Ap P.length cp, .slice Au U.length cu] w (RstEnds (listsB ⟨max 0 most, H, W, P, U⟩ && fitsB ⟨max 0 most, H, W, P, U⟩) ⟨max 0 most, H, W, P, U⟩ 47 w) := by
  obtain ⟨q, hq⟩ : ∃ q : Tb, q = ⟨max 0 most, H, W, P, U⟩ := ⟨_, rfl⟩
  rw [← hq]
  obtain ⟨OK, hok⟩ : ∃ OK : Bool, OK = (listsB q && fitsB q) := ⟨_, rfl⟩
  rw [← hok]
  have HQ := Lib.hid hq
  have HOKK := Lib.hid hok
  clear hq hok
  have HH := Lib.hid hh
  have HW := Lib.hid hw
  have HP := Lib.hid hp
  have HU := Lib.hid hu
  clear hh hw hp hu
  go_enter Tryz.func9, Tryz.ntmps9
  go_wp2_with fail
  refine (new_any most w).mono ?_
  rintro e w1_ ⟨rfl, rfl⟩
  have HL1 := Lib.hid (Lay.start w most 47)
  obtain ⟨w1, hw1⟩ : ∃ w1 : World, w1 = w.alloc (.cells (tbC (tb0 most) tm0) 47) := ⟨_, rfl⟩
  obtain ⟨d, hd⟩ : ∃ d, d = w.heap.size := ⟨_, rfl⟩
  rw [← hw1, ← hd] at HL1
  rw [← hw1, ← hd]
  clear hw1 hd
  go_wp2_with fail
  refine (cloneL Ah ch w.heap.size H w1 (HH.out.below HL1.out.bel) HL1.out.bel.size (by omega)).mono ?_
  rintro e w2 ⟨A1, k1, rfl, ho1, hb1, hf1⟩
  have HX := Lib.hid (HL1.out.below hb1)
  have HO1 := Lib.hid ho1
  have HF1 : Hid (∀ k ∈ ob A1, k ∉ fpT d tm0 ∧ w.heap.size ≤ k) := Lib.hid (fun k hk => ⟨fun hm => by have h3 := HL1.out.lt k hm; have h4 := hf1 k hk; omega, Nat.le_trans HL1.out.bel.size (hf1 k hk)⟩)
  have HFZ := Lib.hid hf1
  clear ho1 hb1 hf1
  go_wp2_with fail
  refine (cloneL Aw cw w.heap.size W w2 (HW.out.below HX.out.bel) HX.out.bel.size (by omega)).mono ?_
  rintro e w3 ⟨A2, k2, rfl, ho2, hb2, hf2⟩
  have HY := Lib.hid (HX.out.below hb2)
  have HO3 := Lib.hid ((Kept.of_below (S := []) hb2).own HO1.out (by simp))
  have HO2 := Lib.hid ho2
  have HZ := Lib.hid (HY.out.set_held (by decide) (by decide) HO3.out HF1.out)
  have HKD : Hid (Kept [d] w3 (w3.setCell ⟨d, 1, none⟩ (.slice A1 H.length k1))) := Lib.hid ((Kept.refl [d] w3).setCell _ (.inl (List.mem_singleton.2 rfl)))
  have HZ2 := Lib.hid (HZ.out.set_wait (by decide) (by decide) (HKD.out.own HO2.out (fun g hg hm => own_blk_ne HO2.out HY.out.blk (by decide) (by rw [hg, List.mem_singleton.1 hm]))) (fun k hk => ⟨fun hm => by
    have h4 := hf2 k hk
    have h5 := HX.out.lt k
    have h6 := own_lt HO1.out k
    simp only [fpT, List.mem_cons, List.mem_append] at hm h5
    rcases hm with hm | hm | hm | hm | hm
    · have := h5 (.inl hm); omega
    · have := h6 hm; omega
    · have := h5 (.inr (.inr (.inl hm))); omega
    · have := h5 (.inr (.inr (.inr (.inl hm)))); omega
    · have := h5 (.inr (.inr (.inr (.inr hm)))); omega, Nat.le_trans HX.out.bel.size (hf2 k hk)⟩))
  clear ho2 hf2
  have y1 := HY.out.blk.cell 1
  have y2 := HY.out.blk.cell 2
  have f1 := HY.out.blk.frozen 1
  have f2 := HY.out.blk.frozen 2
  change w3.cell? ⟨d, 1, none⟩ = some (.slice none 0 0) at y1
  change w3.cell? ⟨d, 2, none⟩ = some (.slice none 0 0) at y2
  clear HX HY HZ HKD HO1 HO2 HO3 HF1 HFZ hb2 HL1
  go_upto_region 3 with fail
  clear y1 y2 f1 f2
  obtain ⟨w4, hnm⟩ : ∃ w4 : World, w4 = (w3.setCell ⟨d, 1, none⟩ (.slice A1 H.length k1)).setCell ⟨d, 2, none⟩ (.slice A2 W.length k2) := ⟨_, rfl⟩
  rw [← hnm] at HZ2
  rw [← hnm]
  clear hnm
  have HL4 := Lib.hid HZ2.out
  clear HZ2
  go_wp2_with fail
  refine (cloneI Ap cp w.heap.size P w4 (HP.out.below HL4.out.bel) HL4.out.bel.size (by omega)).mono ?_
  rintro e w5 ⟨A3, k3, rfl, ho1, hb1, hf1⟩
  have HX := Lib.hid (HL4.out.below hb1)
  have HO1 := Lib.hid ho1
  have HF1 : Hid (∀ k ∈ ob A3, k ∉ fpT d ⟨A1, k1, A2, k2, tm0.ap, tm0.cp, tm0.au, tm0.cu⟩ ∧ w.heap.size ≤ k) := Lib.hid (fun k hk => ⟨fun hm => by have h3 := HL4.out.lt k hm; have h4 := hf1 k hk; omega, Nat.le_trans HL4.out.bel.size (hf1 k hk)⟩)
  have HFZ := Lib.hid hf1
  clear ho1 hb1 hf1
  go_wp2_with fail
  refine (cloneI Au cu w.heap.size U w5 (HU.out.below HX.out.bel) HX.out.bel.size (by omega)).mono ?_
  rintro e w6 ⟨A4, k4, rfl, ho2, hb2, hf2⟩
  have HY := Lib.hid (HX.out.below hb2)
  have HO3 := Lib.hid ((Kept.of_below (S := []) hb2).own HO1.out (by simp))
  have HO2 := Lib.hid ho2
  have HZ := Lib.hid (HY.out.set_prep (by decide) (by decide) HO3.out HF1.out)
  have HKD : Hid (Kept [d] w6 (w6.setCell ⟨d, 3, none⟩ (.slice A3 P.length k3))) := Lib.hid ((Kept.refl [d] w6).setCell _ (.inl (List.mem_singleton.2 rfl)))
  have HZ2 := Lib.hid (HZ.out.set_hurt (by decide) (by decide) (HKD.out.own HO2.out (fun g hg hm => own_blk_ne HO2.out HY.out.blk (by decide) (by rw [hg, List.mem_singleton.1 hm]))) (fun k hk => ⟨fun hm => by
    have h4 := hf2 k hk
    have h5 := HX.out.lt k
    have h6 := own_lt HO1.out k
    simp only [fpT, List.mem_cons, List.mem_append] at hm h5
    rcases hm with hm | hm | hm | hm | hm
    · have := h5 (.inl hm); omega
    · have := h5 (.inr (.inl hm)); omega
    · have := h5 (.inr (.inr (.inl hm))); omega
    · have := h6 hm; omega
    · have := h5 (.inr (.inr (.inr (.inr hm)))); omega, Nat.le_trans HX.out.bel.size (hf2 k hk)⟩))
  clear ho2 hf2
  have y1 := HY.out.blk.cell 3
  have y2 := HY.out.blk.cell 4
  have f1 := HY.out.blk.frozen 3
  have f2 := HY.out.blk.frozen 4
  change w6.cell? ⟨d, 3, none⟩ = some (.slice none 0 0) at y1
  change w6.cell? ⟨d, 4, none⟩ = some (.slice none 0 0) at y2
  clear HX HY HZ HKD HO1 HO2 HO3 HF1 HFZ hb2 HL4
  go_upto_block 0 with fail
  clear y1 y2 f1 f2
  obtain ⟨w7, hnm⟩ : ∃ w7 : World, w7 = (w6.setCell ⟨d, 3, none⟩ (.slice A3 P.length k3)).setCell ⟨d, 4, none⟩ (.slice A4 U.length k4) := ⟨_, rfl⟩
  rw [← hnm] at HZ2
  rw [← hnm]
  clear hnm
  have HL7 := Lib.hid HZ2.out
  clear HZ2
  have HQ7 : Hid (Lay w w7 d ⟨max 0 most, H, W, P, U⟩ ⟨A1, k1, A2, k2, A3, k3, A4, k4⟩ 47) := Lib.hid HL7.out
  clear HL7
  have hq := HQ.out
  have hq1 : q.held.length + q.wait.length ≤ 1000 := by rw [hq]; exact h1
  have hq2 : q.prep.length ≤ 8796093022208 ∧ q.hurt.length ≤ 8796093022208 := by rw [hq]; exact h2
  have hqm : q.most = max 0 most := by rw [hq]
  have hqh : q.held.length = H.length := by rw [hq]
  have hqw : q.wait.length = W.length := by rw [hq]
  rw [← hq] at HQ7
  have HT7 := Lib.hid (HQ7.out.tb hq1 hq2)
  have HQM := Lib.hid hqm
  have HQH := Lib.hid hqh
  have HQW := Lib.hid hqw
  clear hq hqm hqh hqw hq1 hq2 h1 h2
  obtain ⟨m, hm⟩ : ∃ m : TbM, m = ⟨A1, k1, A2, k2, A3, k3, A4, k4⟩ := ⟨_, rfl⟩
  rw [← hm] at HQ7 HT7
  clear hm
  have HLI := Lib.hid (lists_any HT7.out)
  cases e1 : listsB q with
  | false =>
    go_wp2_with fail
    refine HLI.out.mono ?_
    rintro e w8 ⟨he, hb8⟩
    rw [e1] at he
    subst he
    have HQ8 := Lib.hid (HQ7.out.below hb8)
    clear hb8 HLI
    have HZ : Hid (OK = false) := Lib.hid (by rw [HOKK.out]; rw [e1]; rfl)
    go_wp2
    go_ret2
    refine ⟨HQ8.out.bel, .inl ?_⟩
    rw [HZ.out]
    exact ⟨by rw [rst6]; decide, rfl⟩
  | true =>
    go_wp2_with fail
    refine HLI.out.mono ?_
    rintro e w8 ⟨he, hb8⟩
    rw [e1] at he
    subst he
    have HQ8 := Lib.hid (HQ7.out.below hb8)
    clear hb8 HLI
    have HFI := Lib.hid (fits_any ((HQ8.out.tb HT7.out.fh HT7.out.fm).good (good_lists e1).1))
    cases e2 : fitsB q with
    | false =>
      go_wp2_with fail
      refine HFI.out.mono ?_
      rintro e w9 ⟨he, hb9⟩
      rw [e2] at he
      subst he
      have HQ9 := Lib.hid (HQ8.out.below hb9)
      clear hb9 HFI
      have HZ : Hid (OK = false) := Lib.hid (by rw [HOKK.out]; rw [e1, e2]; rfl)
      go_wp2
      go_ret2
      refine ⟨HQ9.out.bel, .inl ?_⟩
      rw [HZ.out]
      exact ⟨by rw [rst6]; decide, rfl⟩
    | true =>
      go_wp2_with fail
      refine HFI.out.mono ?_
      rintro e w9 ⟨he, hb9⟩
      rw [e2] at he
      subst he
      have HQ9 := Lib.hid (HQ8.out.below hb9)
      clear hb9 HFI
      have y0 := HQ9.out.blk.cell 0
      change w9.cell? ⟨d, 0, none⟩ = some (.int .i64 q.most) at y0
      have hfh := HT7.out.fh
      rw [HQH.out, HQW.out] at hfh
      have HOK : Hid (OK = true) := Lib.hid (by rw [HOKK.out, e1, e2]; rfl)
      clear e1 e2
      obtain ⟨M, hM⟩ : ∃ M, M = q.most := ⟨_, rfl⟩
      rw [← hM] at y0
      have HM := Lib.hid hM
      clear hM
      by_cases hz : M < (H.length : Int) + (W.length : Int)
      ·
        have z1 : decide (M < (H.length : Int) + (W.length : Int)) = true := decide_eq_true hz
        go_wp2
        go_ret2
        refine ⟨HQ9.out.bel, .inl ?_⟩
        rw [HOK.out, rst151 (by rw [← HM.out, HQH.out, HQW.out]; exact hz)]
        exact ⟨by decide, rfl⟩
      ·
        have z1 : decide (M < (H.length : Int) + (W.length : Int)) = false := decide_eq_false hz
        go_wp2
        go_ret2
        refine ⟨HQ9.out.bel, .inr ?_⟩
        rw [HOK.out, rst0 (by rw [← HM.out, HQH.out, HQW.out]; omega)]
        exact ⟨rfl, d, m, rfl, HQ9.out⟩
theorem kept_none {w w' : World} (h : Kept (ob none) w w') : Below w.heap.size w w' := h.below (Nat.le_refl _) (by simp [ob])
theorem Lay.grow_held {w0 w w2 : World} {d : Nat} {q : Tb} {m : TbM} {t : TypeId} (h : Lay w0 w d q m t) (hT1 : 62 ≠ t) (hT2 : 29 ≠ t) {l : List Lk} {A1 : Option Addr} {c1 : Nat} (hb : Below w.heap.size w w2) (ho : w2.ownsRow 0 62 4 (.slice A1 l.length c1) l.length (rc lkR l)) (hf : ∀ x ∈ ob A1, x ∈ ob none ∨ w.heap.size ≤ x) :
    Lay w0 (w2.setCell ⟨d, 1, none⟩ (.slice A1 l.length c1)) d ⟨q.most, l, q.wait, q.prep, q.hurt⟩ ⟨A1, c1, m.aw, m.cw, m.ap, m.cp, m.au, m.cu⟩ t :=
  (h.below hb).set_held hT1 hT2 ho (fun k hk => by
    have h1 : w.heap.size ≤ k := (hf k hk).elim (fun hm => by simp [ob] at hm) id
    exact ⟨fun hm => by have := h.lt k hm; omega, Nat.le_trans h.bel.size h1⟩)
theorem Lay.grow_wait {w0 w w2 : World} {d : Nat} {q : Tb} {m : TbM} {t : TypeId} (h : Lay w0 w d q m t) (hT1 : 62 ≠ t) (hT2 : 29 ≠ t) {l : List Lk} {A1 : Option Addr} {c1 : Nat} (hb : Below w.heap.size w w2) (ho : w2.ownsRow 0 62 4 (.slice A1 l.length c1) l.length (rc lkR l)) (hf : ∀ x ∈ ob A1, x ∈ ob none ∨ w.heap.size ≤ x) :
    Lay w0 (w2.setCell ⟨d, 2, none⟩ (.slice A1 l.length c1)) d ⟨q.most, q.held, l, q.prep, q.hurt⟩ ⟨m.ah, m.ch, A1, c1, m.ap, m.cp, m.au, m.cu⟩ t :=
  (h.below hb).set_wait hT1 hT2 ho (fun k hk => by
    have h1 : w.heap.size ≤ k := (hf k hk).elim (fun hm => by simp [ob] at hm) id
    exact ⟨fun hm => by have := h.lt k hm; omega, Nat.le_trans h.bel.size h1⟩)
theorem Lay.grow_prep {w0 w w2 : World} {d : Nat} {q : Tb} {m : TbM} {t : TypeId} (h : Lay w0 w d q m t) (hT1 : 62 ≠ t) (hT2 : 29 ≠ t) {l : List Idn} {A1 : Option Addr} {c1 : Nat} (hb : Below w.heap.size w w2) (ho : w2.ownsRow 0 29 2 (.slice A1 l.length c1) l.length (rc idR l)) (hf : ∀ x ∈ ob A1, x ∈ ob none ∨ w.heap.size ≤ x) :
    Lay w0 (w2.setCell ⟨d, 3, none⟩ (.slice A1 l.length c1)) d ⟨q.most, q.held, q.wait, l, q.hurt⟩ ⟨m.ah, m.ch, m.aw, m.cw, A1, c1, m.au, m.cu⟩ t :=
  (h.below hb).set_prep hT1 hT2 ho (fun k hk => by
    have h1 : w.heap.size ≤ k := (hf k hk).elim (fun hm => by simp [ob] at hm) id
    exact ⟨fun hm => by have := h.lt k hm; omega, Nat.le_trans h.bel.size h1⟩)
theorem Lay.grow_hurt {w0 w w2 : World} {d : Nat} {q : Tb} {m : TbM} {t : TypeId} (h : Lay w0 w d q m t) (hT1 : 62 ≠ t) (hT2 : 29 ≠ t) {l : List Idn} {A1 : Option Addr} {c1 : Nat} (hb : Below w.heap.size w w2) (ho : w2.ownsRow 0 29 2 (.slice A1 l.length c1) l.length (rc idR l)) (hf : ∀ x ∈ ob A1, x ∈ ob none ∨ w.heap.size ≤ x) :
    Lay w0 (w2.setCell ⟨d, 4, none⟩ (.slice A1 l.length c1)) d ⟨q.most, q.held, q.wait, q.prep, l⟩ ⟨m.ah, m.ch, m.aw, m.cw, m.ap, m.cp, A1, c1⟩ t :=
  (h.below hb).set_hurt hT1 hT2 ho (fun k hk => by
    have h1 : w.heap.size ≤ k := (hf k hk).elim (fun hm => by simp [ob] at hm) id
    exact ⟨fun hm => by have := h.lt k hm; omega, Nat.le_trans h.bel.size h1⟩)
set_option maxHeartbeats 16000000 in
set_option maxRecDepth 100000 in
theorem rrestore_any (most : Int) (Ah Aw Ap Au : Option Addr) (ch cw cp cu : Nat) (H W : List Lk) (P U : List Idn) (w : World) (hh : Reads w w.heap.size 4 Ah H.length (rc lkR H)) (hw : Reads w w.heap.size 4 Aw W.length (rc lkR W))
    (hp : Reads w w.heap.size 2 Ap P.length (rc idR P)) (hu : Reads w w.heap.size 2 Au U.length (rc idR U)) (h1 : H.length + W.length ≤ 1000) (h2 : P.length ≤ 8796093022208 ∧ U.length ≤ 8796093022208) :
    Calls Tryz.prog 10 #[.int .i64 most, .slice Ah H.length ch, .slice Aw W.length cw, .slice Ap P.length cp, .slice Au U.length cu] w (RstEnds (goodB ⟨max 0 most, H, W, P, U⟩ && markB ⟨max 0 most, H, W, P, U⟩) ⟨max 0 most, H, W, P, U⟩ 49 w) := by
  obtain ⟨q, hq⟩ : ∃ q : Tb, q = ⟨max 0 most, H, W, P, U⟩ := ⟨_, rfl⟩
  rw [← hq]
  obtain ⟨OK, hok⟩ : ∃ OK : Bool, OK = (goodB q && markB q) := ⟨_, rfl⟩
  rw [← hok]
  have HQ := Lib.hid hq
  have HOKK := Lib.hid hok
  clear hq hok
  have HH := Lib.hid hh
  have HW := Lib.hid hw
  have HP := Lib.hid hp
  have HU := Lib.hid hu
  clear hh hw hp hu
  obtain ⟨iL, hiL, hzL, hyL, hxL⟩ := info_parts Tryz.infoLk
  obtain ⟨iI, hiI, hzI, hyI, hxI⟩ := info_parts Tryz.infoId
  go_enter Tryz.func10, Tryz.ntmps10
  go_wp2_with fail
  refine (rnew_any most w).mono ?_
  rintro e w1_ ⟨rfl, rfl⟩
  have HL1 := Lib.hid (Lay.start w most 49)
  obtain ⟨w1, hw1⟩ : ∃ w1 : World, w1 = w.alloc (.cells (tbC (tb0 most) tm0) 49) := ⟨_, rfl⟩
  obtain ⟨d, hd⟩ : ∃ d, d = w.heap.size := ⟨_, rfl⟩
  rw [← hw1, ← hd] at HL1
  rw [← hw1, ← hd]
  clear hw1 hd
  have y0 := HL1.out.blk.cell 1
  change w1.cell? ⟨d, 1, none⟩ = some (.slice none 0 0) at y0
  go_upto_region 3 with (at_builtin; refine wpList_app rfl (.tmp 19) (.tmp 20) 34 34 rfl 62 iL _ 4 40 Tryz.underlying34 hiL hzL hyL hxL rfl (by omega) none 0 0 [] rfl (World.ownsRow_nil w1 0 62 4) _ H.length (rc lkR H) rfl (Src.ofReads Tryz.underlying34 (HH.out.below HL1.out.bel) (rc_one _)) (by simp only [maxLen]; omega) (by omega) ?_; intro A1 k1 u1 ho_ hk_ hf_; rw [Nat.zero_add, List.nil_append] at ho_; have HB_ := Lib.hid (kept_none hk_); have HLu := Lib.hid (HL1.out.below HB_.out); have HM1 := Lib.hid (HL1.out.grow_held (by decide) (by decide) HB_.out ho_ hf_); have y1 := HLu.out.blk.cell 1; have f1 := HLu.out.blk.frozen 1; change u1.cell? ⟨d, 1, none⟩ = some (.slice none 0 0) at y1; clear ho_ hk_ hf_ HB_ HLu)
  clear y0 y1 f1
  obtain ⟨v1, hnm⟩ : ∃ v1 : World, v1 = u1.setCell ⟨d, 1, none⟩ (.slice A1 H.length k1) := ⟨_, rfl⟩
  rw [← hnm] at HM1
  rw [← hnm]
  clear hnm
  clear HL1
  have y0 := HM1.out.blk.cell 2
  change v1.cell? ⟨d, 2, none⟩ = some (.slice none 0 0) at y0
  go_upto_region 4 with (at_builtin; refine wpList_app rfl (.tmp 28) (.tmp 29) 34 34 rfl 62 iL _ 4 40 Tryz.underlying34 hiL hzL hyL hxL rfl (by omega) none 0 0 [] rfl (World.ownsRow_nil v1 0 62 4) _ W.length (rc lkR W) rfl (Src.ofReads Tryz.underlying34 (HW.out.below HM1.out.bel) (rc_one _)) (by simp only [maxLen]; omega) (by omega) ?_; intro A2 k2 u2 ho_ hk_ hf_; rw [Nat.zero_add, List.nil_append] at ho_; have HB_ := Lib.hid (kept_none hk_); have HLu := Lib.hid (HM1.out.below HB_.out); have HM2 := Lib.hid (HM1.out.grow_wait (by decide) (by decide) HB_.out ho_ hf_); have y1 := HLu.out.blk.cell 2; have f1 := HLu.out.blk.frozen 2; change u2.cell? ⟨d, 2, none⟩ = some (.slice none 0 0) at y1; clear ho_ hk_ hf_ HB_ HLu)
  clear y0 y1 f1
  obtain ⟨v2, hnm⟩ : ∃ v2 : World, v2 = u2.setCell ⟨d, 2, none⟩ (.slice A2 W.length k2) := ⟨_, rfl⟩
  rw [← hnm] at HM2
  rw [← hnm]
  clear hnm
  clear HM1
  have y0 := HM2.out.blk.cell 3
  change v2.cell? ⟨d, 3, none⟩ = some (.slice none 0 0) at y0
  go_upto_region 5 with (at_builtin; refine wpList_app rfl (.tmp 37) (.tmp 38) 36 36 rfl 29 iI _ 2 16 Tryz.underlying36 hiI hzI hyI hxI rfl (by omega) none 0 0 [] rfl (World.ownsRow_nil v2 0 29 2) _ P.length (rc idR P) rfl (Src.ofReads Tryz.underlying36 (HP.out.below HM2.out.bel) (rc_one _)) (by simp only [maxLen]; omega) (by omega) ?_; intro A3 k3 u3 ho_ hk_ hf_; rw [Nat.zero_add, List.nil_append] at ho_; have HB_ := Lib.hid (kept_none hk_); have HLu := Lib.hid (HM2.out.below HB_.out); have HM3 := Lib.hid (HM2.out.grow_prep (by decide) (by decide) HB_.out ho_ hf_); have y1 := HLu.out.blk.cell 3; have f1 := HLu.out.blk.frozen 3; change u3.cell? ⟨d, 3, none⟩ = some (.slice none 0 0) at y1; clear ho_ hk_ hf_ HB_ HLu)
  clear y0 y1 f1
  obtain ⟨v3, hnm⟩ : ∃ v3 : World, v3 = u3.setCell ⟨d, 3, none⟩ (.slice A3 P.length k3) := ⟨_, rfl⟩
  rw [← hnm] at HM3
  rw [← hnm]
  clear hnm
  clear HM2
  have y0 := HM3.out.blk.cell 4
  change v3.cell? ⟨d, 4, none⟩ = some (.slice none 0 0) at y0
  go_upto_region 6 with (at_builtin; refine wpList_app rfl (.tmp 46) (.tmp 47) 36 36 rfl 29 iI _ 2 16 Tryz.underlying36 hiI hzI hyI hxI rfl (by omega) none 0 0 [] rfl (World.ownsRow_nil v3 0 29 2) _ U.length (rc idR U) rfl (Src.ofReads Tryz.underlying36 (HU.out.below HM3.out.bel) (rc_one _)) (by simp only [maxLen]; omega) (by omega) ?_; intro A4 k4 u4 ho_ hk_ hf_; rw [Nat.zero_add, List.nil_append] at ho_; have HB_ := Lib.hid (kept_none hk_); have HLu := Lib.hid (HM3.out.below HB_.out); have HM4 := Lib.hid (HM3.out.grow_hurt (by decide) (by decide) HB_.out ho_ hf_); have y1 := HLu.out.blk.cell 4; have f1 := HLu.out.blk.frozen 4; change u4.cell? ⟨d, 4, none⟩ = some (.slice none 0 0) at y1; clear ho_ hk_ hf_ HB_ HLu)
  clear y0 y1 f1
  obtain ⟨v4, hnm⟩ : ∃ v4 : World, v4 = u4.setCell ⟨d, 4, none⟩ (.slice A4 U.length k4) := ⟨_, rfl⟩
  rw [← hnm] at HM4
  rw [← hnm]
  clear hnm
  clear HM3
  have HQ7 : Hid (Lay w v4 d ⟨max 0 most, H, W, P, U⟩ ⟨A1, k1, A2, k2, A3, k3, A4, k4⟩ 49) := Lib.hid HM4.out
  clear HM4
  have hq := HQ.out
  have hq1 : q.held.length + q.wait.length ≤ 1000 := by rw [hq]; exact h1
  have hq2 : q.prep.length ≤ 8796093022208 ∧ q.hurt.length ≤ 8796093022208 := by rw [hq]; exact h2
  have hqm : q.most = max 0 most := by rw [hq]
  have hqh : q.held.length = H.length := by rw [hq]
  have hqw : q.wait.length = W.length := by rw [hq]
  rw [← hq] at HQ7
  have HT7 := Lib.hid (HQ7.out.rf hq1 hq2)
  have HQM := Lib.hid hqm
  have HQH := Lib.hid hqh
  have HQW := Lib.hid hqw
  clear hq hqm hqh hqw hq1 hq2 h1 h2 hiL hzL hyL hxL hiI hzI hyI hxI
  obtain ⟨m, hm⟩ : ∃ m : TbM, m = ⟨A1, k1, A2, k2, A3, k3, A4, k4⟩ := ⟨_, rfl⟩
  rw [← hm] at HQ7 HT7
  clear hm
  have HLI := Lib.hid (good_any HT7.out)
  cases e1 : goodB q with
  | false =>
    go_wp2_with fail
    refine HLI.out.mono ?_
    rintro e w8 ⟨he, hb8⟩
    rw [e1] at he
    subst he
    have HQ8 := Lib.hid (HQ7.out.below hb8)
    clear hb8 HLI
    have HZ : Hid (OK = false) := Lib.hid (by rw [HOKK.out]; rw [e1]; rfl)
    go_wp2
    go_ret2
    refine ⟨HQ8.out.bel, .inl ?_⟩
    rw [HZ.out]
    exact ⟨by rw [rst6]; decide, rfl⟩
  | true =>
    go_wp2_with fail
    refine HLI.out.mono ?_
    rintro e w8 ⟨he, hb8⟩
    rw [e1] at he
    subst he
    have HQ8 := Lib.hid (HQ7.out.below hb8)
    clear hb8 HLI
    have HFI := Lib.hid (marked_any (HQ8.out.rf HT7.out.fh HT7.out.fm))
    cases e2 : markB q with
    | false =>
      go_wp2_with fail
      refine HFI.out.mono ?_
      rintro e w9 ⟨he, hb9⟩
      rw [e2] at he
      subst he
      have HQ9 := Lib.hid (HQ8.out.below hb9)
      clear hb9 HFI
      have HZ : Hid (OK = false) := Lib.hid (by rw [HOKK.out]; rw [e1, e2]; rfl)
      go_wp2
      go_ret2
      refine ⟨HQ9.out.bel, .inl ?_⟩
      rw [HZ.out]
      exact ⟨by rw [rst6]; decide, rfl⟩
    | true =>
      go_wp2_with fail
      refine HFI.out.mono ?_
      rintro e w9 ⟨he, hb9⟩
      rw [e2] at he
      subst he
      have HQ9 := Lib.hid (HQ8.out.below hb9)
      clear hb9 HFI
      have y0 := HQ9.out.blk.cell 0
      change w9.cell? ⟨d, 0, none⟩ = some (.int .i64 q.most) at y0
      have hfh := HT7.out.fh
      rw [HQH.out, HQW.out] at hfh
      have HOK : Hid (OK = true) := Lib.hid (by rw [HOKK.out, e1, e2]; rfl)
      clear e1 e2
      obtain ⟨M, hM⟩ : ∃ M, M = q.most := ⟨_, rfl⟩
      rw [← hM] at y0
      have HM := Lib.hid hM
      clear hM
      by_cases hz : M < (H.length : Int) + (W.length : Int)
      ·
        have z1 : decide (M < (H.length : Int) + (W.length : Int)) = true := decide_eq_true hz
        go_wp2
        go_ret2
        refine ⟨HQ9.out.bel, .inl ?_⟩
        rw [HOK.out, rst151 (by rw [← HM.out, HQH.out, HQW.out]; exact hz)]
        exact ⟨by decide, rfl⟩
      ·
        have z1 : decide (M < (H.length : Int) + (W.length : Int)) = false := decide_eq_false hz
        go_wp2
        go_ret2
        refine ⟨HQ9.out.bel, .inr ?_⟩
        rw [HOK.out, rst0 (by rw [← HM.out, HQH.out, HQW.out]; omega)]
        exact ⟨rfl, d, m, rfl, HQ9.out⟩
end Go.Proofs.YtpidpdbjjdkhoaaGreat
