/- Locks, Restore: do the lists fit one another? -/
import Derived.Test.YtpidpdbjjdkhoaaGreatGyB
namespace Go.Proofs.YtpidpdbjjdkhoaaGreat
open Go.RowKit
set_option linter.unusedSimpArgs false
set_option linter.unusedVariables false
attribute [local go_sem ↓] Go.wp_at_zero Go.wp_at_succ

set_option maxHeartbeats 1000000 in
theorem fits11 (x : Lk) (id : Idn) (g : Nat) (w : World) (hg : Blk w g 29 #[.int .i64 id.n, .int .i64 id.c]) : Calls Tryz.prog 73 #[lkV x, .pointer (some ⟨g, 0, none⟩)] w (BoolIs (eqI x.id id) w) := by
  have he := run_eqI x.id id
  have hgl := hg.lt
  unfold lkV
  go_enter Tryz.func73, Tryz.ntmps73
  go_upto_region 1 with fail
  have hg2 := hg.alloc (.cells #[.string x.key, .int .i64 x.id.n, .int .i64 x.id.c, .int .i64 x.mode] 62)
  have k1 := Blk.new w 62 #[.string x.key, .int .i64 x.id.n, .int .i64 x.id.c, .int .i64 x.mode]
  have HB := Lib.hid (below_alloc w (.cells #[.string x.key, .int .i64 x.id.n, .int .i64 x.id.c, .int .i64 x.mode] 62))
  obtain ⟨w2, hw2⟩ : ∃ w2, w2 = (w.alloc (.cells #[.string x.key, .int .i64 x.id.n, .int .i64 x.id.c, .int .i64 x.mode] 62)) := ⟨_, rfl⟩
  obtain ⟨p1, hp1⟩ : ∃ p1, p1 = w.heap.size := ⟨_, rfl⟩
  rw [← hw2] at HB k1 hg2
  rw [← hp1] at k1
  rw [← hw2]
  rw [← hp1]
  clear hw2 hp1
  have x10 : w2.cell? ⟨p1, 0, none⟩ = some (.string x.key) := k1.cell 0
  have x11 : w2.cell? ⟨p1, 1, none⟩ = some (.int .i64 x.id.n) := k1.cell 1
  have x12 : w2.cell? ⟨p1, 2, none⟩ = some (.int .i64 x.id.c) := k1.cell 2
  have x13 : w2.cell? ⟨p1, 3, none⟩ = some (.int .i64 x.mode) := k1.cell 3
  have y0 : w2.cell? ⟨g, 0, none⟩ = some (.int .i64 id.n) := hg2.cell 0
  have y1 : w2.cell? ⟨g, 1, none⟩ = some (.int .i64 id.c) := hg2.cell 1
  clear k1 hg2 hg hgl
  go_wp2
  go_ret
  exact ⟨rfl, HB.out⟩
/-- what 'has' asks: does an id wait, or hold a lock? -/
def hasB (q : Tb) (L : List Idn) (i : Idn) : Bool := hasI L i || q.held.any fun y => eqI y.id i
/-- the variables that the closure holds -/
structure FitAt (w : World) (d : Nat) (q : Tb) (m : TbM) (tv mv mb : Nat) (L : List Idn) : Prop where
  tb : TbAt w d q m
  tv : Blk w tv 23 #[.pointer (some ⟨d, 0, none⟩)]
  mv : Blk w mv 92 #[.map (some mb)]
  mp : MapAt w mb L
theorem FitAt.below {w w' : World} {d : Nat} {q : Tb} {m : TbM} {tv mv mb : Nat} {L : List Idn} (h : FitAt w d q m tv mv mb L) (hb : Below w.heap.size w w') : FitAt w' d q m tv mv mb L :=
  ⟨h.tb.below hb, h.tv.below hb h.tv.lt, h.mv.below hb h.mv.lt, h.mp.below hb⟩
theorem blk_ne_map {w : World} {g b : Nat} {t : TypeId} {cs : Array Value} {L : List Idn} (h : Blk w g t cs) (hm : MapAt w b L) : g ≠ b := by
  rintro rfl
  obtain ⟨es, c, h2, _⟩ := hm
  have h1 : w.heap[g]? = some _ := h
  rw [h1] at h2
  cases h2
set_option maxHeartbeats 4000000 in
set_option maxRecDepth 100000 in
theorem fits1 {w : World} {d : Nat} {q : Tb} {m : TbM} {tv mv mb : Nat} {L : List Idn} (h : FitAt w d q m tv mv mb L) (id : Idn) :
    Calls Tryz.prog 72 #[idV id, .pointer (some ⟨mv, 0, none⟩), .pointer (some ⟨tv, 0, none⟩)] w (BoolIs (hasB q L id) w) := by
  have HH := Lib.hid h
  clear h
  unfold idV
  go_enter Tryz.func72, Tryz.ntmps72
  go_upto_region 1 with fail
  have k1 := Blk.new w 29 #[.int .i64 id.n, .int .i64 id.c]
  have HB := Lib.hid (below_alloc w (.cells #[.int .i64 id.n, .int .i64 id.c] 29))
  obtain ⟨w2, hw2⟩ : ∃ w2, w2 = (w.alloc (.cells #[.int .i64 id.n, .int .i64 id.c] 29)) := ⟨_, rfl⟩
  obtain ⟨p1, hp1⟩ : ∃ p1, p1 = w.heap.size := ⟨_, rfl⟩
  rw [← hw2] at HB k1
  rw [← hp1] at k1
  rw [← hw2]
  rw [← hp1]
  clear hw2 hp1
  have HF2 := Lib.hid (HH.out.below HB.out)
  have HK1 := Lib.hid k1
  have x10 : w2.cell? ⟨p1, 0, none⟩ = some (.int .i64 id.n) := k1.cell 0
  have x11 : w2.cell? ⟨p1, 1, none⟩ = some (.int .i64 id.c) := k1.cell 1
  have y0 : w2.cell? ⟨mv, 0, none⟩ = some (.map (some mb)) := HF2.out.mv.cell 0
  have y1 : w2.cell? ⟨tv, 0, none⟩ = some (.pointer (some ⟨d, 0, none⟩)) := HF2.out.tv.cell 0
  have y2 := HF2.out.tb.c1
  have hlk := HF2.out.mp.look id
  unfold idV at hlk
  have HC := Lib.hid (anyQ 73 #[.pointer (some ⟨p1, 0, none⟩)] (enters_of Tryz.func73 (by kernel_rfl) rfl) (fun y => eqI y.id id) m.ah m.ch w2.heap.size q.held w2 (Reads.of_own HF2.out.tb.oh) (Nat.le_refl _) (by have := HF2.out.tb.fh; omega) (fun x W hb => fits11 x id p1 W (HK1.out.below hb HK1.out.lt)))
  clear k1
  cases e1 : hasI L id with
  | true =>
    have HR : Hid (hasB q L id = true) := Lib.hid (by unfold hasB; rw [e1]; rfl)
    rw [e1] at hlk
    clear e1 HC
    go_wp2
    go_ret
    exact ⟨ret_bool HR.out.symm, HB.out⟩
  | false =>
    have HR : Hid (hasB q L id = q.held.any fun y => eqI y.id id) := Lib.hid (by unfold hasB; rw [e1]; rfl)
    rw [e1] at hlk
    clear e1
    go_wp2_with fail
    refine HC.out.mono ?_
    rintro e w3 ⟨rfl, hb3⟩
    have HB3 := Lib.hid (HB.out.trans (hb3.mono HB.out.size))
    clear hb3
    go_wp2
    go_ret
    exact ⟨ret_bool HR.out.symm, HB3.out⟩
theorem rdEy {w : World} {B n : Nat} {A : Option Addr} {l : List Edg} (h : Reads w B 5 A n (rc edR l)) {k : Nat} (hk : k < l.length) :
    ∃ b off, A = some ⟨b, off, none⟩ ∧ b < B ∧ w.cell? ⟨b, off + k * 5, none⟩ = some (.string (gr edR l k).key) ∧ w.cell? ⟨b, off + k * 5 + 1, none⟩ = some (.int .i64 (gr edR l k).w.n) ∧ w.cell? ⟨b, off + k * 5 + 2, none⟩ = some (.int .i64 (gr edR l k).w.c) ∧ w.cell? ⟨b, off + k * 5 + 3, none⟩ = some (.int .i64 (gr edR l k).h.n) ∧ w.cell? ⟨b, off + k * 5 + 4, none⟩ = some (.int .i64 (gr edR l k).h.c) := by
  obtain ⟨b, off, hA, hb, hc⟩ := Reads.elt (R := edR) h hk
  exact ⟨b, off, hA, hb, hc 0 _ rfl, hc 1 _ rfl, hc 2 _ rfl, hc 3 _ rfl, hc 4 _ rfl⟩
/-- no member is such -/
def nb {α : Type} (R : RowT α) (l : List α) (p : Nat → α → Bool) : Bool := (List.range l.length).all fun j => !(p j (gr R l j))
theorem nb_yes {α : Type} {R : RowT α} {l : List α} {p : Nat → α → Bool} {k : Nat} (hk : l.length ≤ k) (h : ∀ j, j < k → p j (gr R l j) = false) : nb R l p = true := by
  unfold nb
  rw [List.all_eq_true]
  intro j hj
  rw [h j (by have := List.mem_range.1 hj; omega)]; rfl
theorem nb_no {α : Type} {R : RowT α} {l : List α} {p : Nat → α → Bool} {j : Nat} (hj : j < l.length) (h : p j (gr R l j) = true) : nb R l p = false := by
  unfold nb
  rw [List.all_eq_false]
  exact ⟨j, List.mem_range.2 hj, by rw [h]; simp⟩
def wt (q : Tb) (k : Nat) : List Idn := (q.wait.take k).map (·.id)
def f1 (q : Tb) (_ : Nat) (x : Lk) : Bool := q.held.any fun y => conf y x
def f2 (q : Tb) (k : Nat) (x : Lk) : Bool := hasI (wt q k) x.id || ((modeI q x.id x.key == 2) || (((modeI q x.id x.key == 1) && (x.mode == 1)) || freeB q x))
def f3 (q : Tb) (_ : Nat) (i : Idn) : Bool := hasI (wt q q.wait.length) i || (!(hasB q (wt q q.wait.length) i) || hasI q.hurt i)
def f4 (q : Tb) (_ : Nat) (i : Idn) : Bool := !(hasB q (wt q q.wait.length) i)
def f5 (q : Tb) (_ : Nat) (e : Edg) : Bool := !(ol e.h e.w) && (!(hasI q.prep e.h) && !(hasI q.hurt e.h))
def fitsB (q : Tb) : Bool := nb lkR q.held (f1 q) && (nb lkR q.wait (f2 q) && (nb idR q.prep (f3 q) && (nb idR q.hurt (f4 q) && nb edR (edges q) (f5 q))))
def FsRel {α : Type} (R : RowT α) (l : List α) (p : Nat → α → Bool) (K : Nat → World → Prop) (i : Value) (wr : World) : Prop :=
  ∃ k : Nat, i = .int .i64 k ∧ k ≤ l.length ∧ (∀ j, j < k → p j (gr R l j) = false) ∧ K k wr
theorem fs_on {α : Type} {R : RowT α} {l : List α} {p : Nat → α → Bool} {k : Nat} (h : ∀ j, j < k → p j (gr R l j) = false) (hk : p k (gr R l k) = false) : ∀ j, j < k + 1 → p j (gr R l j) = false := by
  intro j hj
  by_cases e : j = k
  · rw [e]; exact hk
  · exact h j (by omega)
set_option maxHeartbeats 16000000 in
set_option maxRecDepth 100000 in
theorem fits_any {w : World} {d : Nat} {q : Tb} {m : TbM} (h : TbAt w d q m) : Calls Tryz.prog 32 #[.pointer (some ⟨d, 0, none⟩)] w (BoolIs (fitsB q) w) := by
  have HH := Lib.hid h
  clear h
  go_enter Tryz.func32, Tryz.ntmps32
  go_upto_region 1 with fail
  have k1 := Blk.new w 23 #[.pointer (some ⟨d, 0, none⟩)]
  have HB := Lib.hid (below_alloc w (.cells #[.pointer (some ⟨d, 0, none⟩)] 23))
  obtain ⟨w2, hw2⟩ : ∃ w2, w2 = (w.alloc (.cells #[.pointer (some ⟨d, 0, none⟩)] 23)) := ⟨_, rfl⟩
  obtain ⟨tv, hp1⟩ : ∃ tv, tv = w.heap.size := ⟨_, rfl⟩
  rw [← hw2] at HB k1
  rw [← hp1] at k1
  rw [← hw2]
  rw [← hp1]
  clear hw2 hp1
  have HF2 := Lib.hid (HH.out.below HB.out)
  have HK1 := Lib.hid k1
  have hfh := HF2.out.fh
  have hfm := HF2.out.fm
  have y0 : w2.cell? ⟨tv, 0, none⟩ = some (.pointer (some ⟨d, 0, none⟩)) := k1.cell 0
  have y1 := HF2.out.c1
  clear k1
  go_wp2
  clear y0 y1
  go_loopw [21] (FsRel lkR q.held (f1 q) (fun _ wr => Below w2.heap.size w2 wr)) (fun i _ => q.held.length - (intOf i).toNat)
  case atStart => exact ⟨0, rfl, Nat.zero_le _, fun j hj => by omega, Below.refl _ _⟩
  case round =>
    obtain ⟨k, rfl, hk, hno, hb⟩ := hrel
    have HNO := Lib.hid hno
    have HBR := Lib.hid hb
    have HT := Lib.hid (HF2.out.below HBR.out)
    clear hno hb
    by_cases hlt : k < q.held.length
    ·
      obtain ⟨g, off, hA, _, a0, a1, a2, a3⟩ := rdL (Reads.of_own HT.out.oh) hlt
      rw [hA]
      obtain ⟨x, hx⟩ : ∃ x, x = gr lkR q.held k := ⟨_, rfl⟩
      rw [← hx] at a0 a1 a2 a3
      have HX := Lib.hid hx
      have kL : (0 : Int) ≤ (k : Int) := by omega
      have kU : (k : Int) < (q.held.length : Int) := by omega
      clear hx
      have HK5 := Lib.hid (Blk.new wr 62 #[.string x.key, .int .i64 x.id.n, .int .i64 x.id.c, .int .i64 x.mode])
      have HB5 := Lib.hid (below_alloc wr (.cells #[.string x.key, .int .i64 x.id.n, .int .i64 x.id.c, .int .i64 x.mode] 62))
      go_upto_region 4 with fail
      obtain ⟨w5, hw5⟩ : ∃ w5, w5 = wr.alloc (.cells #[.string x.key, .int .i64 x.id.n, .int .i64 x.id.c, .int .i64 x.mode] 62) := ⟨_, rfl⟩
      obtain ⟨p5, hp5⟩ : ∃ p5, p5 = wr.heap.size := ⟨_, rfl⟩
      rw [← hw5]
      rw [← hp5]
      rw [← hw5] at HK5 HB5
      rw [← hp5] at HK5
      clear hw5 hp5
      clear a0 a1 a2 a3
      have HT5 := Lib.hid (HT.out.below HB5.out)
      have HV5 := Lib.hid (HK1.out.below (HBR.out.trans (HB5.out.mono HBR.out.size)) HK1.out.lt)
      have hS : Hid (∀ w', Below w5.heap.size w5 w' → (w'.cell? ⟨tv, 0, none⟩ = some (.pointer (some ⟨d, 0, none⟩)) ∧ w'.cell? ⟨d, 1, none⟩ = some (.slice m.ah q.held.length m.ch) ∧ w'.cell? ⟨p5, 0, none⟩ = some (.string x.key) ∧ w'.cell? ⟨p5, 1, none⟩ = some (.int .i64 x.id.n) ∧ w'.cell? ⟨p5, 2, none⟩ = some (.int .i64 x.id.c) ∧ w'.cell? ⟨p5, 3, none⟩ = some (.int .i64 x.mode))) := Lib.hid (fun w' hb => ⟨(HV5.out.below hb HV5.out.lt).cell 0, (HT5.out.below hb).c1, (HK5.out.below hb HK5.out.lt).cell 0, (HK5.out.below hb HK5.out.lt).cell 1, (HK5.out.below hb HK5.out.lt).cell 2, (HK5.out.below hb HK5.out.lt).cell 3⟩)
      have hD : Below w5.heap.size w5 w5.drew := below_drewN (Below.refl _ _) 1
      have HA1 := Lib.hid (fun f lb w' => ag_any x f lb w')
      unfold lkV AgEnds at HA1
      have HY1 := Lib.hid (fun g1 g2 W (hb : Below w5.heap.size w5 W) h1 h2 => any1 x g1 g2 m.ah m.ch W.heap.size q.held W (Reads.of_own (HT5.out.below hb).oh) (Nat.le_refl _) (by have := HT5.out.fh; omega) h1 h2)
      rw [hA] at HY1
      cases hq : (q.held.any fun y => conf y x) with
      | true =>
        have HR : Hid (fitsB q = false) := Lib.hid (by unfold fitsB; rw [nb_no hlt (p := f1 q) (by rw [← HX.out]; exact hq)]; rfl)
        go_wp2_with fail
        refine wp_region_heldH (by kernel_rfl) hS (hD) (fun hHeld => ?_)
        refine takes [0, 1, 2, 3, 4] 2 (by kernel_rfl) (by assumption) ?_
        iterate 5 (refine tkY rfl (fun _ _ _ h => h) rfl (by ((intro w hSw); (try dsimp only at hSw); go_simp; (try with_reducible rfl))) ?_; try simp only [Act.put, List.setIfInBounds_toArray, List.set_cons_zero, List.set_cons_succ])
        refine tkE ?_
        refine wpAnyH_ready (rs := [5]) (by kernel_rfl) (by simp) ?_
        refine readyC rfl (fun K hK => ?_) ?_
        ·
          go_simp
          go_at_call 38
          refine (HA1.out _ _ _).mono ?_
          rintro e w6 ⟨g6, u6, rfl, ka6, kb6, hb6⟩
          have HB6 := Lib.hid (hD.trans (hb6.mono hD.size))
          clear hb6
          go_wp2_with fail
          refine hK.out _ _ (by with_reducible exact hS.out _ HB6.out) (fun hHeld => ?_)
          clear hK K
          try simp only [Act.put, List.setIfInBounds_toArray, List.set_cons_zero, List.set_cons_succ]
          refine wpAnyH_ready (rs := [6]) (by kernel_rfl) (by simp) ?_
          refine readyC rfl (fun K hK => ?_) ?_
          ·
            go_simp
            go_at_call 40
            refine (HY1.out _ _ _ HB6.out ka6 kb6).mono ?_
            rintro e w7 ⟨he, hb7⟩
            rw [hq] at he
            subst he
            have HB7 := Lib.hid (HB6.out.trans (hb7.mono HB6.out.size))
            clear hb7 ka6 kb6
            go_wp2_with fail
            refine hK.out _ _ (by with_reducible exact hS.out _ HB7.out) (fun hHeld => ?_)
            clear hK K
            try simp only [Act.put, List.setIfInBounds_toArray, List.set_cons_zero, List.set_cons_succ]
            refine wpAnyH_done (by kernel_rfl) ?_ _
            have HBE := Lib.hid (HB.out.trans ((HBR.out.trans ((HB5.out.trans (HB7.out.mono HB5.out.size)).mono HBR.out.size)).mono HB.out.size))
            go_wp2
            go_ret
            exact ⟨ret_bool HR.out.symm, HBE.out⟩
          exact AllReadyH.nil
        exact AllReadyH.nil
      | false =>
        have HP : Hid (f1 q k (gr lkR q.held k) = false) := Lib.hid (by rw [← HX.out]; exact hq)
        go_wp2_with fail
        refine wp_region_heldH (by kernel_rfl) hS (hD) (fun hHeld => ?_)
        refine takes [0, 1, 2, 3, 4] 2 (by kernel_rfl) (by assumption) ?_
        iterate 5 (refine tkY rfl (fun _ _ _ h => h) rfl (by ((intro w hSw); (try dsimp only at hSw); go_simp; (try with_reducible rfl))) ?_; try simp only [Act.put, List.setIfInBounds_toArray, List.set_cons_zero, List.set_cons_succ])
        refine tkE ?_
        refine wpAnyH_ready (rs := [5]) (by kernel_rfl) (by simp) ?_
        refine readyC rfl (fun K hK => ?_) ?_
        ·
          go_simp
          go_at_call 38
          refine (HA1.out _ _ _).mono ?_
          rintro e w6 ⟨g6, u6, rfl, ka6, kb6, hb6⟩
          have HB6 := Lib.hid (hD.trans (hb6.mono hD.size))
          clear hb6
          go_wp2_with fail
          refine hK.out _ _ (by with_reducible exact hS.out _ HB6.out) (fun hHeld => ?_)
          clear hK K
          try simp only [Act.put, List.setIfInBounds_toArray, List.set_cons_zero, List.set_cons_succ]
          refine wpAnyH_ready (rs := [6]) (by kernel_rfl) (by simp) ?_
          refine readyC rfl (fun K hK => ?_) ?_
          ·
            go_simp
            go_at_call 40
            refine (HY1.out _ _ _ HB6.out ka6 kb6).mono ?_
            rintro e w7 ⟨he, hb7⟩
            rw [hq] at he
            subst he
            have HB7 := Lib.hid (HB6.out.trans (hb7.mono HB6.out.size))
            clear hb7 ka6 kb6
            go_wp2_with fail
            refine hK.out _ _ (by with_reducible exact hS.out _ HB7.out) (fun hHeld => ?_)
            clear hK K
            try simp only [Act.put, List.setIfInBounds_toArray, List.set_cons_zero, List.set_cons_succ]
            refine wpAnyH_done (by kernel_rfl) ?_ _
            have HBE := Lib.hid (HBR.out.trans ((HB5.out.trans (HB7.out.mono HB5.out.size)).mono HBR.out.size))
            go_wp2
            go_roundw
            case rel => exact ⟨k + 1, by go_num, by omega, fs_on HNO.out HP.out, HBE.out⟩
            case measure => simp [intOf]; omega
          exact AllReadyH.nil
        exact AllReadyH.nil
    ·
      have kU : ¬ (k : Int) < (q.held.length : Int) := by omega
      have HN1 : Hid (nb lkR q.held (f1 q) = true) := Lib.hid (nb_yes (k := k) (by omega) HNO.out)
      have hmm := @run_makeMap Tryz.prog 92
      have HTW := Lib.hid (HF2.out.below HBR.out)
      have HVW := Lib.hid (HK1.out.below HBR.out HK1.out.lt)
      clear HT HNO hk hlt
      go_upto_region 8 with fail
      clear hmm
      have HW0 := Lib.hid (below_alloc wr (.map #[] 0))
      have HW1 := Lib.hid (HW0.out.alloc (by simp) (.cells #[.map (some wr.heap.size)] 92))
      have HMP := Lib.hid ((MapAt.new wr).below (below_alloc (wr.alloc (.map #[] 0)) (.cells #[.map (some wr.heap.size)] 92)))
      have HMV := Lib.hid (Blk.new (wr.alloc (.map #[] 0)) 92 #[.map (some wr.heap.size)])
      simp only [World.size_alloc] at HMV
      obtain ⟨w3, hw3⟩ : ∃ w3, w3 = (wr.alloc (.map #[] 0)).alloc (.cells #[.map (some wr.heap.size)] 92) := ⟨_, rfl⟩
      obtain ⟨mv, hmv⟩ : ∃ mv, mv = wr.heap.size + 1 := ⟨_, rfl⟩
      rw [← hw3] at HW1 HMP HMV
      rw [← hw3]
      rw [← hmv] at HMV
      rw [← hmv]
      have HMB : Hid (w2.heap.size ≤ wr.heap.size) := Lib.hid HBR.out.size
      obtain ⟨mb, hmb⟩ : ∃ mb, mb = wr.heap.size := ⟨_, rfl⟩
      rw [← hmb] at HMV HMP HMB
      have HF3 : Hid (FitAt w3 d q m tv mv mb []) := Lib.hid ⟨HTW.out.below HW1.out, HVW.out.below HW1.out HVW.out.lt, HMV.out, HMP.out⟩
      have HB3 : Hid (Below w2.heap.size w2 w3) := Lib.hid (HBR.out.trans (HW1.out.mono HBR.out.size))
      clear hw3 hmv hmb HW0 HW1 HMP HMV HTW HVW HBR
      have y0 := HF3.out.tv.cell 0
      change w3.cell? ⟨tv, 0, none⟩ = some (.pointer (some ⟨d, 0, none⟩)) at y0
      have y1 := HF3.out.tb.c2
      go_wp2
      clear y0 y1 kU
      go_loopw [39] (FsRel lkR q.wait (f2 q) (fun k wr => FitAt wr d q m tv mv mb (wt q k) ∧ Below w2.heap.size w2 wr)) (fun i _ => q.wait.length - (intOf i).toNat)
      case atStart => exact ⟨0, rfl, Nat.zero_le _, fun j hj => by omega, HF3.out, HB3.out⟩
      case round =>
        clear HF3 HB3
        obtain ⟨k, rfl, hk, hno, hft, hb⟩ := hrel
        have HNO := Lib.hid hno
        have HBR := Lib.hid hb
        have HFT := Lib.hid hft
        have HT := Lib.hid hft.tb
        clear hno hb hft
        by_cases hlt : k < q.wait.length
        ·
          obtain ⟨g, off, hA, _, a0, a1, a2, a3⟩ := rdL (Reads.of_own HT.out.ow) hlt
          rw [hA]
          obtain ⟨x, hx⟩ : ∃ x, x = gr lkR q.wait k := ⟨_, rfl⟩
          rw [← hx] at a0 a1 a2 a3
          have HX := Lib.hid hx
          have kL : (0 : Int) ≤ (k : Int) := by omega
          have kU : (k : Int) < (q.wait.length : Int) := by omega
          clear hx
          have HK5 := Lib.hid (Blk.new wr 62 #[.string x.key, .int .i64 x.id.n, .int .i64 x.id.c, .int .i64 x.mode])
          have HB5 := Lib.hid (below_alloc wr (.cells #[.string x.key, .int .i64 x.id.n, .int .i64 x.id.c, .int .i64 x.mode] 62))
          go_upto_region 11 with fail
          obtain ⟨w5, hw5⟩ : ∃ w5, w5 = wr.alloc (.cells #[.string x.key, .int .i64 x.id.n, .int .i64 x.id.c, .int .i64 x.mode] 62) := ⟨_, rfl⟩
          obtain ⟨p5, hp5⟩ : ∃ p5, p5 = wr.heap.size := ⟨_, rfl⟩
          rw [← hw5]
          rw [← hp5]
          rw [← hw5] at HK5 HB5
          rw [← hp5] at HK5
          clear hw5 hp5
          clear a0 a1 a2 a3
          have HK_w5 := HK5
          have HF5 := Lib.hid (HFT.out.below HB5.out)
          have HBB := Lib.hid (HBR.out.trans (HB5.out.mono HBR.out.size))
          have c0 : w5.cell? ⟨p5, 0, none⟩ = some (.string x.key) := HK_w5.out.cell 0
          have c1 : w5.cell? ⟨p5, 1, none⟩ = some (.int .i64 x.id.n) := HK_w5.out.cell 1
          have c2 : w5.cell? ⟨p5, 2, none⟩ = some (.int .i64 x.id.c) := HK_w5.out.cell 2
          have c3 : w5.cell? ⟨p5, 3, none⟩ = some (.int .i64 x.mode) := HK_w5.out.cell 3
          have y0 := HF5.out.tv.cell 0
          change w5.cell? ⟨tv, 0, none⟩ = some (.pointer (some ⟨d, 0, none⟩)) at y0
          have HM := Lib.hid (mode_any HF5.out.tb x.id x.key)
          unfold idV at HM
          obtain ⟨M, hM⟩ : ∃ M, M = modeI q x.id x.key := ⟨_, rfl⟩
          rw [← hM] at HM
          have HME := Lib.hid hM
          clear hM
          go_wp2_with fail
          clear c0 c1 c2 c3 y0
          refine HM.out.mono ?_
          rintro e w6 ⟨rfl, hb6⟩
          have HF6 := Lib.hid (HF5.out.below hb6)
          have HK_w6 := Lib.hid (HK_w5.out.below hb6 HK_w5.out.lt)
          have HBB6 := Lib.hid (HBB.out.trans (hb6.mono HBB.out.size))
          clear hb6 HM HBB HF5 HK5 HK_w5 HB5 HFT HT
          have c0 : w6.cell? ⟨p5, 0, none⟩ = some (.string x.key) := HK_w6.out.cell 0
          have c1 : w6.cell? ⟨p5, 1, none⟩ = some (.int .i64 x.id.n) := HK_w6.out.cell 1
          have c2 : w6.cell? ⟨p5, 2, none⟩ = some (.int .i64 x.id.c) := HK_w6.out.cell 2
          have c3 : w6.cell? ⟨p5, 3, none⟩ = some (.int .i64 x.mode) := HK_w6.out.cell 3
          have y0 := HF6.out.tv.cell 0
          change w6.cell? ⟨tv, 0, none⟩ = some (.pointer (some ⟨d, 0, none⟩)) at y0
          have y1 := HF6.out.mv.cell 0
          change w6.cell? ⟨mv, 0, none⟩ = some (.map (some mb)) at y1
          have hlk := HF6.out.mp.look x.id
          unfold idV at hlk
          cases e1 : hasI (wt q k) x.id with
          | true =>
            have HR : Hid (fitsB q = false) := Lib.hid (by unfold fitsB; rw [HN1.out, nb_no hlt (p := f2 q) (by rw [← HX.out]; unfold f2; rw [e1]; rfl)]; rfl)
            rw [e1] at hlk
            clear e1
            go_wp2
            go_ret
            exact ⟨ret_bool HR.out.symm, HB.out.trans (HBB6.out.mono HB.out.size)⟩
          | false =>
            by_cases n2 : M = 2
            ·
              have z2 : (M == 2) = true := beq_iff_eq.2 n2
              have zd2 : decide (M = 2) = true := decide_eq_true n2
              have HR : Hid (fitsB q = false) := Lib.hid (by unfold fitsB; rw [HN1.out, nb_no hlt (p := f2 q) (by rw [← HX.out]; unfold f2; rw [e1, ← HME.out, z2]; rfl)]; rfl)
              rw [e1] at hlk
              clear e1 n2
              go_wp2
              go_ret
              exact ⟨ret_bool HR.out.symm, HB.out.trans (HBB6.out.mono HB.out.size)⟩
            ·
              have z2 : (M == 2) = false := beq_eq_false_iff_ne.2 n2
              have zd2 : decide (M = 2) = false := decide_eq_false n2
              clear n2
              by_cases n1 : M = 1
              ·
                have z1 : (M == 1) = true := beq_iff_eq.2 n1
                have zd1 : decide (M = 1) = true := decide_eq_true n1
                clear n1
                by_cases n3 : x.mode = 1
                ·
                  have z3 : (x.mode == 1) = true := beq_iff_eq.2 n3
                  have zd3 : decide (x.mode = 1) = true := decide_eq_true n3
                  have HR : Hid (fitsB q = false) := Lib.hid (by unfold fitsB; rw [HN1.out, nb_no hlt (p := f2 q) (by rw [← HX.out]; unfold f2; rw [e1, ← HME.out]; simp only [z1, z2, z3]; rfl)]; rfl)
                  rw [e1] at hlk
                  clear e1 n3
                  go_wp2
                  go_ret
                  exact ⟨ret_bool HR.out.symm, HB.out.trans (HBB6.out.mono HB.out.size)⟩
                ·
                  have z3 : (x.mode == 1) = false := beq_eq_false_iff_ne.2 n3
                  have zd3 : decide (x.mode = 1) = false := decide_eq_false n3
                  clear n3
                  have HFR := Lib.hid (free_any HF6.out.tb x)
                  unfold lkV at HFR
                  cases e4 : freeB q x with
                  | true =>
                    have HR : Hid (fitsB q = false) := Lib.hid (by unfold fitsB; rw [HN1.out, nb_no hlt (p := f2 q) (by rw [← HX.out]; unfold f2; rw [e1, ← HME.out]; simp only [z1, z2, z3, e4]; rfl)]; rfl)
                    rw [e1] at hlk
                    go_wp2_with fail
                    refine HFR.out.mono ?_
                    rintro e w7 ⟨he, hb7⟩
                    rw [e4] at he
                    subst he
                    have HBB7 := Lib.hid (HBB6.out.trans (hb7.mono HBB6.out.size))
                    clear hb7 e4 e1
                    go_wp2
                    go_ret
                    exact ⟨ret_bool HR.out.symm, HB.out.trans (HBB7.out.mono HB.out.size)⟩
                  | false =>
                    have HP : Hid (f2 q k (gr lkR q.wait k) = false) := Lib.hid (by rw [← HX.out]; unfold f2; rw [e1, ← HME.out]; simp only [z1, z2, z3, e4]; rfl)
                    rw [e1] at hlk
                    go_wp2_with fail
                    refine HFR.out.mono ?_
                    rintro e w7 ⟨he, hb7⟩
                    rw [e4] at he
                    subst he
                    have HBB7 := Lib.hid (HBB6.out.trans (hb7.mono HBB6.out.size))
                    have HF7 := Lib.hid (HF6.out.below hb7)
                    have HK_w7 := Lib.hid (HK_w6.out.below hb7 HK_w6.out.lt)
                    clear hb7 e4 c0 c1 c2 c3 y0 y1 hlk
                    have c0 : w7.cell? ⟨p5, 0, none⟩ = some (.string x.key) := HK_w7.out.cell 0
                    have c1 : w7.cell? ⟨p5, 1, none⟩ = some (.int .i64 x.id.n) := HK_w7.out.cell 1
                    have c2 : w7.cell? ⟨p5, 2, none⟩ = some (.int .i64 x.id.c) := HK_w7.out.cell 2
                    have c3 : w7.cell? ⟨p5, 3, none⟩ = some (.int .i64 x.mode) := HK_w7.out.cell 3
                    have y1 := HF7.out.mv.cell 0
                    change w7.cell? ⟨mv, 0, none⟩ = some (.map (some mb)) at y1
                    obtain ⟨w8, hpu, hmp, hkp⟩ := HF7.out.mp.put e1
                    unfold idV at hpu
                    have HF8 : Hid (FitAt w8 d q m tv mv mb (wt q (k + 1))) := Lib.hid (by
                      refine ⟨HF7.out.tb.kept hkp (fun y hy hm => ?_), hkp.blk HF7.out.tv (fun hm => ?_), hkp.blk HF7.out.mv (fun hm => ?_), ?_⟩
                      · have h1 := List.mem_singleton.1 hm
                        have h2 := HF2.out.lt y hy
                        have h3 := HMB.out
                        omega
                      · have h1 := List.mem_singleton.1 hm
                        have h2 := HK1.out.lt
                        have h3 := HMB.out
                        omega
                      · exact blk_ne_map HF7.out.mv HF7.out.mp (List.mem_singleton.1 hm)
                      · have h1 : wt q (k + 1) = wt q k ++ [x.id] := by unfold wt; rw [take_on (gr_get (R := lkR) hlt), List.map_append, ← HX.out]; rfl
                        rw [h1]; exact hmp)
                    have HBB8 : Hid (Below w2.heap.size w2 w8) := Lib.hid (HBB7.out.trans (hkp.below (Nat.le_trans HBB7.out.size (Nat.le_refl _)) (fun y hy => by rw [List.mem_singleton.1 hy]; exact HMB.out)))
                    clear hmp hkp e1
                    go_wp2
                    go_roundw
                    case rel => exact ⟨k + 1, by go_num, by omega, fs_on HNO.out HP.out, HF8.out, HBB8.out⟩
                    case measure => simp [intOf]; omega
              ·
                have z1 : (M == 1) = false := beq_eq_false_iff_ne.2 n1
                have zd1 : decide (M = 1) = false := decide_eq_false n1
                clear n1
                have HFR := Lib.hid (free_any HF6.out.tb x)
                unfold lkV at HFR
                cases e4 : freeB q x with
                | true =>
                  have HR : Hid (fitsB q = false) := Lib.hid (by unfold fitsB; rw [HN1.out, nb_no hlt (p := f2 q) (by rw [← HX.out]; unfold f2; rw [e1, ← HME.out]; simp only [z1, z2, e4]; rfl)]; rfl)
                  rw [e1] at hlk
                  go_wp2_with fail
                  refine HFR.out.mono ?_
                  rintro e w7 ⟨he, hb7⟩
                  rw [e4] at he
                  subst he
                  have HBB7 := Lib.hid (HBB6.out.trans (hb7.mono HBB6.out.size))
                  clear hb7 e4 e1
                  go_wp2
                  go_ret
                  exact ⟨ret_bool HR.out.symm, HB.out.trans (HBB7.out.mono HB.out.size)⟩
                | false =>
                  have HP : Hid (f2 q k (gr lkR q.wait k) = false) := Lib.hid (by rw [← HX.out]; unfold f2; rw [e1, ← HME.out]; simp only [z1, z2, e4]; rfl)
                  rw [e1] at hlk
                  go_wp2_with fail
                  refine HFR.out.mono ?_
                  rintro e w7 ⟨he, hb7⟩
                  rw [e4] at he
                  subst he
                  have HBB7 := Lib.hid (HBB6.out.trans (hb7.mono HBB6.out.size))
                  have HF7 := Lib.hid (HF6.out.below hb7)
                  have HK_w7 := Lib.hid (HK_w6.out.below hb7 HK_w6.out.lt)
                  clear hb7 e4 c0 c1 c2 c3 y0 y1 hlk
                  have c0 : w7.cell? ⟨p5, 0, none⟩ = some (.string x.key) := HK_w7.out.cell 0
                  have c1 : w7.cell? ⟨p5, 1, none⟩ = some (.int .i64 x.id.n) := HK_w7.out.cell 1
                  have c2 : w7.cell? ⟨p5, 2, none⟩ = some (.int .i64 x.id.c) := HK_w7.out.cell 2
                  have c3 : w7.cell? ⟨p5, 3, none⟩ = some (.int .i64 x.mode) := HK_w7.out.cell 3
                  have y1 := HF7.out.mv.cell 0
                  change w7.cell? ⟨mv, 0, none⟩ = some (.map (some mb)) at y1
                  obtain ⟨w8, hpu, hmp, hkp⟩ := HF7.out.mp.put e1
                  unfold idV at hpu
                  have HF8 : Hid (FitAt w8 d q m tv mv mb (wt q (k + 1))) := Lib.hid (by
                    refine ⟨HF7.out.tb.kept hkp (fun y hy hm => ?_), hkp.blk HF7.out.tv (fun hm => ?_), hkp.blk HF7.out.mv (fun hm => ?_), ?_⟩
                    · have h1 := List.mem_singleton.1 hm
                      have h2 := HF2.out.lt y hy
                      have h3 := HMB.out
                      omega
                    · have h1 := List.mem_singleton.1 hm
                      have h2 := HK1.out.lt
                      have h3 := HMB.out
                      omega
                    · exact blk_ne_map HF7.out.mv HF7.out.mp (List.mem_singleton.1 hm)
                    · have h1 : wt q (k + 1) = wt q k ++ [x.id] := by unfold wt; rw [take_on (gr_get (R := lkR) hlt), List.map_append, ← HX.out]; rfl
                      rw [h1]; exact hmp)
                  have HBB8 : Hid (Below w2.heap.size w2 w8) := Lib.hid (HBB7.out.trans (hkp.below (Nat.le_trans HBB7.out.size (Nat.le_refl _)) (fun y hy => by rw [List.mem_singleton.1 hy]; exact HMB.out)))
                  clear hmp hkp e1
                  go_wp2
                  go_roundw
                  case rel => exact ⟨k + 1, by go_num, by omega, fs_on HNO.out HP.out, HF8.out, HBB8.out⟩
                  case measure => simp [intOf]; omega
        ·
          have kU : ¬ (k : Int) < (q.wait.length : Int) := by omega
          have HN2 : Hid (nb lkR q.wait (f2 q) = true) := Lib.hid (nb_yes (k := k) (by omega) HNO.out)
          have HFW : Hid (FitAt wr d q m tv mv mb (wt q q.wait.length)) := Lib.hid (by have h := HFT.out; rw [show k = q.wait.length by omega] at h; exact h)
          have HWB := Lib.hid HBR.out
          clear HNO HFT HT hk hlt HBR
          obtain ⟨w9, hw9⟩ : ∃ w9, w9 = wr := ⟨_, rfl⟩
          rw [← hw9] at HFW HWB
          rw [← hw9]
          clear hw9
          have y0 := HFW.out.tv.cell 0
          change w9.cell? ⟨tv, 0, none⟩ = some (.pointer (some ⟨d, 0, none⟩)) at y0
          have y1 := HFW.out.tb.c3
          go_wp2
          clear y0 y1 kU
          go_loopw [81] (FsRel idR q.prep (f3 q) (fun _ wr => Below w9.heap.size w9 wr)) (fun i _ => q.prep.length - (intOf i).toNat)
          case atStart => exact ⟨0, rfl, Nat.zero_le _, fun j hj => by omega, Below.refl _ _⟩
          case round =>
            obtain ⟨k, rfl, hk, hno, hb⟩ := hrel
            have HNO := Lib.hid hno
            have HBR := Lib.hid hb
            have HFX := Lib.hid (HFW.out.below hb)
            have HT := Lib.hid HFX.out.tb
            clear hno hb
            by_cases hlt : k < q.prep.length
            ·
              obtain ⟨g, off, hA, _, a0, a1⟩ := rdI (Reads.of_own HT.out.op) hlt
              rw [hA]
              obtain ⟨x, hx⟩ : ∃ x, x = gr idR q.prep k := ⟨_, rfl⟩
              rw [← hx] at a0 a1
              have HX := Lib.hid hx
              have kL : (0 : Int) ≤ (k : Int) := by omega
              have kU : (k : Int) < (q.prep.length : Int) := by omega
              clear hx
              have HK5 := Lib.hid (Blk.new wr 29 #[.int .i64 x.n, .int .i64 x.c])
              have HB5 := Lib.hid (below_alloc wr (.cells #[.int .i64 x.n, .int .i64 x.c] 29))
              go_upto_region 20 with fail
              obtain ⟨w5, hw5⟩ : ∃ w5, w5 = wr.alloc (.cells #[.int .i64 x.n, .int .i64 x.c] 29) := ⟨_, rfl⟩
              obtain ⟨p5, hp5⟩ : ∃ p5, p5 = wr.heap.size := ⟨_, rfl⟩
              rw [← hw5]
              rw [← hp5]
              rw [← hw5] at HK5 HB5
              rw [← hp5] at HK5
              clear hw5 hp5
              clear a0 a1
              have HF5 := Lib.hid (HFX.out.below HB5.out)
              have hD : Below w5.heap.size w5 w5.drew := below_drewN (Below.refl _ _) 1
              have HHAS := Lib.hid (fun W (hb : Below w5.heap.size w5 W) => fits1 (HF5.out.below hb) x)
              unfold idV at HHAS
              have HCON := Lib.hid (fun W (hb : Below w5.heap.size w5 W) => contains_any m.au m.cu q.hurt x W (Reads.of_own (HF5.out.below hb).tb.ou) hfm.2)
              unfold idV at HCON
              cases e1 : hasI (wt q q.wait.length) x with
              | true =>
                have HR : Hid (fitsB q = false) := Lib.hid (by unfold fitsB; rw [HN1.out, HN2.out, nb_no hlt (p := f3 q) (by rw [← HX.out]; unfold f3; rw [e1]; rfl)]; rfl)
                have hS : Hid (∀ w', Below w5.heap.size w5 w' → (w'.cell? ⟨mv, 0, none⟩ = some (.map (some mb)) ∧ w'.cell? ⟨p5, 0, none⟩ = some (.int .i64 x.n) ∧ w'.cell? ⟨p5, 1, none⟩ = some (.int .i64 x.c) ∧ w'.cell? ⟨tv, 0, none⟩ = some (.pointer (some ⟨d, 0, none⟩)) ∧ w'.cell? ⟨d, 4, none⟩ = some (.slice m.au q.hurt.length m.cu) ∧ (Instr.lookup 92 (.map (some mb)) (.agg #[.int .i64 x.n, .int .i64 x.c]) false).run Tryz.prog w' = .ok (.bool true) w')) := Lib.hid (fun w' hb => ⟨(HF5.out.below hb).mv.cell 0, (HK5.out.below hb HK5.out.lt).cell 0, (HK5.out.below hb HK5.out.lt).cell 1, (HF5.out.below hb).tv.cell 0, (HF5.out.below hb).tb.c4, by have h := (HF5.out.below hb).mp.look x; rw [e1] at h; exact h⟩)
                clear e1
                go_wp2_with fail
                refine wp_region_heldH (by kernel_rfl) hS (hD) (fun hHeld => ?_)
                refine takes [0, 1, 2, 3, 4, 5, 6, 7, 8, 9, 10, 11, 12, 13, 14, 15, 16] 0 (by kernel_rfl) (by assumption) ?_
                iterate 4 (refine tkY rfl (fun _ _ _ h => h) rfl (by ((intro w hSw); (try dsimp only at hSw); go_simp; (try with_reducible rfl))) ?_; try simp only [Act.put, List.setIfInBounds_toArray, List.set_cons_zero, List.set_cons_succ])
                iterate 4 (refine tkN rfl (fun _ _ _ h => h) rfl ?_; try simp only [Act.put, List.setIfInBounds_toArray, List.set_cons_zero, List.set_cons_succ])
                iterate 2 (refine tkY rfl (fun _ _ _ h => h) rfl (by ((intro w hSw); (try dsimp only at hSw); go_simp; (try with_reducible rfl))) ?_; try simp only [Act.put, List.setIfInBounds_toArray, List.set_cons_zero, List.set_cons_succ])
                iterate 6 (refine tkN rfl (fun _ _ _ h => h) rfl ?_; try simp only [Act.put, List.setIfInBounds_toArray, List.set_cons_zero, List.set_cons_succ])
                refine tkY rfl (fun _ _ _ h => h) rfl (by ((intro w hSw); (try dsimp only at hSw); go_simp; (try with_reducible rfl))) ?_; try simp only [Act.put, List.setIfInBounds_toArray, List.set_cons_zero, List.set_cons_succ]
                refine tkE ?_
                refine wpAnyH_done (by kernel_rfl) ?_ _
                have HBE := Lib.hid (HB.out.trans ((HWB.out.trans ((HBR.out.trans ((HB5.out.trans (hD.mono HB5.out.size)).mono HBR.out.size)).mono HWB.out.size)).mono HB.out.size))
                go_wp2
                go_ret
                exact ⟨ret_bool HR.out.symm, HBE.out⟩
              | false =>
                cases e2 : hasB q (wt q q.wait.length) x with
                | false =>
                  have HR : Hid (fitsB q = false) := Lib.hid (by unfold fitsB; rw [HN1.out, HN2.out, nb_no hlt (p := f3 q) (by rw [← HX.out]; unfold f3; rw [e1, e2]; rfl)]; rfl)
                  have hS : Hid (∀ w', Below w5.heap.size w5 w' → (w'.cell? ⟨mv, 0, none⟩ = some (.map (some mb)) ∧ w'.cell? ⟨p5, 0, none⟩ = some (.int .i64 x.n) ∧ w'.cell? ⟨p5, 1, none⟩ = some (.int .i64 x.c) ∧ w'.cell? ⟨tv, 0, none⟩ = some (.pointer (some ⟨d, 0, none⟩)) ∧ w'.cell? ⟨d, 4, none⟩ = some (.slice m.au q.hurt.length m.cu) ∧ (Instr.lookup 92 (.map (some mb)) (.agg #[.int .i64 x.n, .int .i64 x.c]) false).run Tryz.prog w' = .ok (.bool false) w')) := Lib.hid (fun w' hb => ⟨(HF5.out.below hb).mv.cell 0, (HK5.out.below hb HK5.out.lt).cell 0, (HK5.out.below hb HK5.out.lt).cell 1, (HF5.out.below hb).tv.cell 0, (HF5.out.below hb).tb.c4, by have h := (HF5.out.below hb).mp.look x; rw [e1] at h; exact h⟩)
                  clear e1
                  go_wp2_with fail
                  refine wp_region_heldH (by kernel_rfl) hS (hD) (fun hHeld => ?_)
                  refine takes [0, 1, 2, 3, 4, 5] 11 (by kernel_rfl) (by assumption) ?_
                  iterate 6 (refine tkY rfl (fun _ _ _ h => h) rfl (by ((intro w hSw); (try dsimp only at hSw); go_simp; (try with_reducible rfl))) ?_; try simp only [Act.put, List.setIfInBounds_toArray, List.set_cons_zero, List.set_cons_succ])
                  refine tkE ?_
                  refine wpAnyH_ready (rs := [6]) (by kernel_rfl) (by simp) ?_
                  refine readyC rfl (fun K hK => ?_) ?_
                  ·
                    go_simp
                    go_at_call 72
                    refine (HHAS.out _ hD).mono ?_
                    rintro e w6 ⟨he, hb_⟩
                    rw [e2] at he
                    subst he
                    have HB_w6 := Lib.hid (hD.trans (hb_.mono hD.size))
                    clear hb_
                    go_wp2_with fail
                    refine hK.out _ _ (by with_reducible exact hS.out _ HB_w6.out) (fun hHeld => ?_)
                    clear hK K
                    try simp only [Act.put, List.setIfInBounds_toArray, List.set_cons_zero, List.set_cons_succ]
                    refine takes [7, 8, 9, 10, 11, 12, 13, 14, 15, 16] 0 (by kernel_rfl) (by assumption) ?_
                    iterate 3 (refine tkY rfl (fun _ _ _ h => h) rfl (by ((intro w hSw); (try dsimp only at hSw); go_simp; (try with_reducible rfl))) ?_; try simp only [Act.put, List.setIfInBounds_toArray, List.set_cons_zero, List.set_cons_succ])
                    iterate 6 (refine tkN rfl (fun _ _ _ h => h) rfl ?_; try simp only [Act.put, List.setIfInBounds_toArray, List.set_cons_zero, List.set_cons_succ])
                    refine tkY rfl (fun _ _ _ h => h) rfl (by ((intro w hSw); (try dsimp only at hSw); go_simp; (try with_reducible rfl))) ?_; try simp only [Act.put, List.setIfInBounds_toArray, List.set_cons_zero, List.set_cons_succ]
                    refine tkE ?_
                    refine wpAnyH_done (by kernel_rfl) ?_ _
                    have HBE := Lib.hid (HB.out.trans ((HWB.out.trans ((HBR.out.trans ((HB5.out.trans (HB_w6.out.mono HB5.out.size)).mono HBR.out.size)).mono HWB.out.size)).mono HB.out.size))
                    go_wp2
                    go_ret
                    exact ⟨ret_bool HR.out.symm, HBE.out⟩
                  exact AllReadyH.nil
                | true =>
                  cases e3 : hasI q.hurt x with
                  | true =>
                    have HR : Hid (fitsB q = false) := Lib.hid (by unfold fitsB; rw [HN1.out, HN2.out, nb_no hlt (p := f3 q) (by rw [← HX.out]; unfold f3; rw [e1, e2, e3]; rfl)]; rfl)
                    have hS : Hid (∀ w', Below w5.heap.size w5 w' → (w'.cell? ⟨mv, 0, none⟩ = some (.map (some mb)) ∧ w'.cell? ⟨p5, 0, none⟩ = some (.int .i64 x.n) ∧ w'.cell? ⟨p5, 1, none⟩ = some (.int .i64 x.c) ∧ w'.cell? ⟨tv, 0, none⟩ = some (.pointer (some ⟨d, 0, none⟩)) ∧ w'.cell? ⟨d, 4, none⟩ = some (.slice m.au q.hurt.length m.cu) ∧ (Instr.lookup 92 (.map (some mb)) (.agg #[.int .i64 x.n, .int .i64 x.c]) false).run Tryz.prog w' = .ok (.bool false) w')) := Lib.hid (fun w' hb => ⟨(HF5.out.below hb).mv.cell 0, (HK5.out.below hb HK5.out.lt).cell 0, (HK5.out.below hb HK5.out.lt).cell 1, (HF5.out.below hb).tv.cell 0, (HF5.out.below hb).tb.c4, by have h := (HF5.out.below hb).mp.look x; rw [e1] at h; exact h⟩)
                    clear e1
                    go_wp2_with fail
                    refine wp_region_heldH (by kernel_rfl) hS (hD) (fun hHeld => ?_)
                    refine takes [0, 1, 2, 3, 4, 5] 11 (by kernel_rfl) (by assumption) ?_
                    iterate 6 (refine tkY rfl (fun _ _ _ h => h) rfl (by ((intro w hSw); (try dsimp only at hSw); go_simp; (try with_reducible rfl))) ?_; try simp only [Act.put, List.setIfInBounds_toArray, List.set_cons_zero, List.set_cons_succ])
                    refine tkE ?_
                    refine wpAnyH_ready (rs := [6]) (by kernel_rfl) (by simp) ?_
                    refine readyC rfl (fun K hK => ?_) ?_
                    ·
                      go_simp
                      go_at_call 72
                      refine (HHAS.out _ hD).mono ?_
                      rintro e w6 ⟨he, hb_⟩
                      rw [e2] at he
                      subst he
                      have HB_w6 := Lib.hid (hD.trans (hb_.mono hD.size))
                      clear hb_
                      go_wp2_with fail
                      refine hK.out _ _ (by with_reducible exact hS.out _ HB_w6.out) (fun hHeld => ?_)
                      clear hK K
                      try simp only [Act.put, List.setIfInBounds_toArray, List.set_cons_zero, List.set_cons_succ]
                      refine takes [7, 8, 9, 10, 11, 12, 13, 14] 2 (by kernel_rfl) (by assumption) ?_
                      iterate 8 (refine tkY rfl (fun _ _ _ h => h) rfl (by ((intro w hSw); (try dsimp only at hSw); go_simp; (try with_reducible rfl))) ?_; try simp only [Act.put, List.setIfInBounds_toArray, List.set_cons_zero, List.set_cons_succ])
                      refine tkE ?_
                      refine wpAnyH_ready (rs := [15]) (by kernel_rfl) (by simp) ?_
                      refine readyC rfl (fun K hK => ?_) ?_
                      ·
                        go_simp
                        go_at_call 37
                        refine (HCON.out _ HB_w6.out).mono ?_
                        rintro e w7 ⟨he, hb_⟩
                        rw [e3] at he
                        subst he
                        have HB_w7 := Lib.hid (HB_w6.out.trans (hb_.mono HB_w6.out.size))
                        clear hb_
                        go_wp2_with fail
                        refine hK.out _ _ (by with_reducible exact hS.out _ HB_w7.out) (fun hHeld => ?_)
                        clear hK K
                        try simp only [Act.put, List.setIfInBounds_toArray, List.set_cons_zero, List.set_cons_succ]
                        refine takes [16] 0 (by kernel_rfl) (by assumption) ?_
                        refine tkY rfl (fun _ _ _ h => h) rfl (by ((intro w hSw); (try dsimp only at hSw); go_simp; (try with_reducible rfl))) ?_; try simp only [Act.put, List.setIfInBounds_toArray, List.set_cons_zero, List.set_cons_succ]
                        refine tkE ?_
                        refine wpAnyH_done (by kernel_rfl) ?_ _
                        have HBE := Lib.hid (HB.out.trans ((HWB.out.trans ((HBR.out.trans ((HB5.out.trans (HB_w7.out.mono HB5.out.size)).mono HBR.out.size)).mono HWB.out.size)).mono HB.out.size))
                        go_wp2
                        go_ret
                        exact ⟨ret_bool HR.out.symm, HBE.out⟩
                      exact AllReadyH.nil
                    exact AllReadyH.nil
                  | false =>
                    have HP : Hid (f3 q k (gr idR q.prep k) = false) := Lib.hid (by rw [← HX.out]; unfold f3; rw [e1, e2, e3]; rfl)
                    have hS : Hid (∀ w', Below w5.heap.size w5 w' → (w'.cell? ⟨mv, 0, none⟩ = some (.map (some mb)) ∧ w'.cell? ⟨p5, 0, none⟩ = some (.int .i64 x.n) ∧ w'.cell? ⟨p5, 1, none⟩ = some (.int .i64 x.c) ∧ w'.cell? ⟨tv, 0, none⟩ = some (.pointer (some ⟨d, 0, none⟩)) ∧ w'.cell? ⟨d, 4, none⟩ = some (.slice m.au q.hurt.length m.cu) ∧ (Instr.lookup 92 (.map (some mb)) (.agg #[.int .i64 x.n, .int .i64 x.c]) false).run Tryz.prog w' = .ok (.bool false) w')) := Lib.hid (fun w' hb => ⟨(HF5.out.below hb).mv.cell 0, (HK5.out.below hb HK5.out.lt).cell 0, (HK5.out.below hb HK5.out.lt).cell 1, (HF5.out.below hb).tv.cell 0, (HF5.out.below hb).tb.c4, by have h := (HF5.out.below hb).mp.look x; rw [e1] at h; exact h⟩)
                    clear e1
                    go_wp2_with fail
                    refine wp_region_heldH (by kernel_rfl) hS (hD) (fun hHeld => ?_)
                    refine takes [0, 1, 2, 3, 4, 5] 11 (by kernel_rfl) (by assumption) ?_
                    iterate 6 (refine tkY rfl (fun _ _ _ h => h) rfl (by ((intro w hSw); (try dsimp only at hSw); go_simp; (try with_reducible rfl))) ?_; try simp only [Act.put, List.setIfInBounds_toArray, List.set_cons_zero, List.set_cons_succ])
                    refine tkE ?_
                    refine wpAnyH_ready (rs := [6]) (by kernel_rfl) (by simp) ?_
                    refine readyC rfl (fun K hK => ?_) ?_
                    ·
                      go_simp
                      go_at_call 72
                      refine (HHAS.out _ hD).mono ?_
                      rintro e w6 ⟨he, hb_⟩
                      rw [e2] at he
                      subst he
                      have HB_w6 := Lib.hid (hD.trans (hb_.mono hD.size))
                      clear hb_
                      go_wp2_with fail
                      refine hK.out _ _ (by with_reducible exact hS.out _ HB_w6.out) (fun hHeld => ?_)
                      clear hK K
                      try simp only [Act.put, List.setIfInBounds_toArray, List.set_cons_zero, List.set_cons_succ]
                      refine takes [7, 8, 9, 10, 11, 12, 13, 14] 2 (by kernel_rfl) (by assumption) ?_
                      iterate 8 (refine tkY rfl (fun _ _ _ h => h) rfl (by ((intro w hSw); (try dsimp only at hSw); go_simp; (try with_reducible rfl))) ?_; try simp only [Act.put, List.setIfInBounds_toArray, List.set_cons_zero, List.set_cons_succ])
                      refine tkE ?_
                      refine wpAnyH_ready (rs := [15]) (by kernel_rfl) (by simp) ?_
                      refine readyC rfl (fun K hK => ?_) ?_
                      ·
                        go_simp
                        go_at_call 37
                        refine (HCON.out _ HB_w6.out).mono ?_
                        rintro e w7 ⟨he, hb_⟩
                        rw [e3] at he
                        subst he
                        have HB_w7 := Lib.hid (HB_w6.out.trans (hb_.mono HB_w6.out.size))
                        clear hb_
                        go_wp2_with fail
                        refine hK.out _ _ (by with_reducible exact hS.out _ HB_w7.out) (fun hHeld => ?_)
                        clear hK K
                        try simp only [Act.put, List.setIfInBounds_toArray, List.set_cons_zero, List.set_cons_succ]
                        refine takes [16] 0 (by kernel_rfl) (by assumption) ?_
                        refine tkY rfl (fun _ _ _ h => h) rfl (by ((intro w hSw); (try dsimp only at hSw); go_simp; (try with_reducible rfl))) ?_; try simp only [Act.put, List.setIfInBounds_toArray, List.set_cons_zero, List.set_cons_succ]
                        refine tkE ?_
                        refine wpAnyH_done (by kernel_rfl) ?_ _
                        have HBE := Lib.hid (HBR.out.trans ((HB5.out.trans (HB_w7.out.mono HB5.out.size)).mono HBR.out.size))
                        go_wp2
                        go_roundw
                        case rel => exact ⟨k + 1, by go_num, by omega, fs_on HNO.out HP.out, HBE.out⟩
                        case measure => simp [intOf]; omega
                      exact AllReadyH.nil
                    exact AllReadyH.nil
            ·
              have kU : ¬ (k : Int) < (q.prep.length : Int) := by omega
              have HN3 : Hid (nb idR q.prep (f3 q) = true) := Lib.hid (nb_yes (k := k) (by omega) HNO.out)
              have HFw10 := Lib.hid (HFW.out.below HBR.out)
              have HBw10 := Lib.hid (HB.out.trans ((HWB.out.trans (HBR.out.mono HWB.out.size)).mono HB.out.size))
              clear HFX HFW HWB
              clear HNO HT hk hlt HBR
              obtain ⟨w10, hnw⟩ : ∃ w10, w10 = wr := ⟨_, rfl⟩
              rw [← hnw] at HFw10 HBw10
              rw [← hnw]
              clear hnw
              have y0 := HFw10.out.tv.cell 0
              change w10.cell? ⟨tv, 0, none⟩ = some (.pointer (some ⟨d, 0, none⟩)) at y0
              have y1 := HFw10.out.tb.c4
              go_wp2
              clear y0 y1 kU
              go_loopw [108] (FsRel idR q.hurt (f4 q) (fun _ wr => Below w10.heap.size w10 wr)) (fun i _ => q.hurt.length - (intOf i).toNat)
              case atStart => exact ⟨0, rfl, Nat.zero_le _, fun j hj => by omega, Below.refl _ _⟩
              case round =>
                obtain ⟨k, rfl, hk, hno, hb⟩ := hrel
                have HNO := Lib.hid hno
                have HBR := Lib.hid hb
                have HFX := Lib.hid (HFw10.out.below hb)
                have HT := Lib.hid HFX.out.tb
                clear hno hb
                by_cases hlt : k < q.hurt.length
                ·
                  obtain ⟨g, off, hA, _, a0, a1⟩ := rdI (Reads.of_own HT.out.ou) hlt
                  rw [hA]
                  obtain ⟨x, hx⟩ : ∃ x, x = gr idR q.hurt k := ⟨_, rfl⟩
                  rw [← hx] at a0 a1
                  have HX := Lib.hid hx
                  have kL : (0 : Int) ≤ (k : Int) := by omega
                  have kU : (k : Int) < (q.hurt.length : Int) := by omega
                  clear hx
                  have HK5 := Lib.hid (Blk.new wr 29 #[.int .i64 x.n, .int .i64 x.c])
                  have HB5 := Lib.hid (below_alloc wr (.cells #[.int .i64 x.n, .int .i64 x.c] 29))
                  go_upto_region 26 with fail
                  obtain ⟨w5, hw5⟩ : ∃ w5, w5 = wr.alloc (.cells #[.int .i64 x.n, .int .i64 x.c] 29) := ⟨_, rfl⟩
                  obtain ⟨p5, hp5⟩ : ∃ p5, p5 = wr.heap.size := ⟨_, rfl⟩
                  rw [← hw5]
                  rw [← hp5]
                  rw [← hw5] at HK5 HB5
                  rw [← hp5] at HK5
                  clear hw5 hp5
                  clear a0 a1
                  have HF5 := Lib.hid (HFX.out.below HB5.out)
                  have c0 : w5.cell? ⟨p5, 0, none⟩ = some (.int .i64 x.n) := HK5.out.cell 0
                  have c1 : w5.cell? ⟨p5, 1, none⟩ = some (.int .i64 x.c) := HK5.out.cell 1
                  have HHAS := Lib.hid (fits1 HF5.out x)
                  unfold idV at HHAS
                  cases e2 : hasB q (wt q q.wait.length) x with
                  | false =>
                    have HR : Hid (fitsB q = false) := Lib.hid (by unfold fitsB; rw [HN1.out, HN2.out, HN3.out, nb_no hlt (p := f4 q) (by rw [← HX.out]; unfold f4; rw [e2]; rfl)]; rfl)
                    go_wp2_with fail
                    clear c0 c1
                    refine HHAS.out.mono ?_
                    rintro e w6 ⟨he, hb6⟩
                    rw [e2] at he
                    subst he
                    have HBE := Lib.hid (HBR.out.trans ((HB5.out.trans (hb6.mono HB5.out.size)).mono HBR.out.size))
                    clear hb6
                    clear e2
                    go_wp2
                    go_ret
                    exact ⟨ret_bool HR.out.symm, HBw10.out.trans (HBE.out.mono HBw10.out.size)⟩
                  | true =>
                    have HP : Hid (f4 q k (gr idR q.hurt k) = false) := Lib.hid (by rw [← HX.out]; unfold f4; rw [e2]; rfl)
                    go_wp2_with fail
                    clear c0 c1
                    refine HHAS.out.mono ?_
                    rintro e w6 ⟨he, hb6⟩
                    rw [e2] at he
                    subst he
                    have HBE := Lib.hid (HBR.out.trans ((HB5.out.trans (hb6.mono HB5.out.size)).mono HBR.out.size))
                    clear hb6
                    clear e2
                    go_wp2
                    go_roundw
                    case rel => exact ⟨k + 1, by go_num, by omega, fs_on HNO.out HP.out, HBE.out⟩
                    case measure => simp [intOf]; omega
                ·
                  have kU : ¬ (k : Int) < (q.hurt.length : Int) := by omega
                  have HN4 : Hid (nb idR q.hurt (f4 q) = true) := Lib.hid (nb_yes (k := k) (by omega) HNO.out)
                  have HFw11 := Lib.hid (HFw10.out.below HBR.out)
                  have HBw11 := Lib.hid (HBw10.out.trans (HBR.out.mono HBw10.out.size))
                  clear HFX HFw10 HBw10
                  clear HNO HT hk hlt HBR
                  obtain ⟨w11, hnw⟩ : ∃ w11, w11 = wr := ⟨_, rfl⟩
                  rw [← hnw] at HFw11 HBw11
                  rw [← hnw]
                  clear hnw
                  have y0 := HFw11.out.tv.cell 0
                  change w11.cell? ⟨tv, 0, none⟩ = some (.pointer (some ⟨d, 0, none⟩)) at y0
                  have HED := Lib.hid (edges_any HFw11.out.tb)
                  go_wp2_with fail
                  clear y0
                  refine HED.out.mono ?_
                  clear HED
                  rintro e w12 ⟨Ae, ce, rfl, hoe, hfe, hbe⟩
                  have hel : (edges q).length ≤ 1000000 := by
                    have h1 := eds_len q.held q.wait
                    rw [edges_eq]
                    have h3 : q.wait.length * q.held.length ≤ 1000 * 1000 := Nat.mul_le_mul (by omega) (by omega)
                    omega
                  obtain ⟨ES, hES⟩ : ∃ ES, ES = edges q := ⟨_, rfl⟩
                  rw [← hES] at hoe hel
                  rw [← hES]
                  have HFT2 := Lib.hid (HFw11.out.below hbe)
                  have HB12 := Lib.hid (HBw11.out.trans (hbe.mono HBw11.out.size))
                  have HRE := Lib.hid (Reads.of_own hoe)
                  have HES := Lib.hid hES
                  clear hoe hfe hbe hES HFw11 HBw11
                  go_wp2
                  clear kU
                  go_loopw [120] (FsRel edR ES (f5 q) (fun _ wr => Below w12.heap.size w12 wr)) (fun i _ => ES.length - (intOf i).toNat)
                  case atStart => exact ⟨0, rfl, Nat.zero_le _, fun j hj => by omega, Below.refl _ _⟩
                  case round =>
                    obtain ⟨k, rfl, hk, hno, hb⟩ := hrel
                    have HNO := Lib.hid hno
                    have HBR := Lib.hid hb
                    have HFX := Lib.hid (HFT2.out.below hb)
                    clear hno hb
                    by_cases hlt : k < ES.length
                    ·
                      obtain ⟨g, off, hA, _, a0, a1, a2, a3, a4⟩ := rdEy (HRE.out.below HBR.out) hlt
                      rw [hA]
                      obtain ⟨x, hx⟩ : ∃ x, x = gr edR ES k := ⟨_, rfl⟩
                      rw [← hx] at a0 a1 a2 a3 a4
                      have HX := Lib.hid hx
                      have kL : (0 : Int) ≤ (k : Int) := by omega
                      have kU : (k : Int) < (ES.length : Int) := by omega
                      clear hx
                      have HK5 := Lib.hid (Blk.new wr 66 #[.string x.key, .int .i64 x.w.n, .int .i64 x.w.c, .int .i64 x.h.n, .int .i64 x.h.c])
                      have HB5 := Lib.hid (below_alloc wr (.cells #[.string x.key, .int .i64 x.w.n, .int .i64 x.w.c, .int .i64 x.h.n, .int .i64 x.h.c] 66))
                      go_upto_region 32 with fail
                      obtain ⟨w5, hw5⟩ : ∃ w5, w5 = wr.alloc (.cells #[.string x.key, .int .i64 x.w.n, .int .i64 x.w.c, .int .i64 x.h.n, .int .i64 x.h.c] 66) := ⟨_, rfl⟩
                      obtain ⟨p5, hp5⟩ : ∃ p5, p5 = wr.heap.size := ⟨_, rfl⟩
                      rw [← hw5]
                      rw [← hp5]
                      rw [← hw5] at HK5 HB5
                      rw [← hp5] at HK5
                      clear hw5 hp5
                      clear a0 a1 a2 a3 a4
                      have HF5 := Lib.hid (HFX.out.below HB5.out)
                      have hD : Below w5.heap.size w5 w5.drew := below_drewN (Below.refl _ _) 1
                      have hS : Hid (∀ w', Below w5.heap.size w5 w' → (w'.cell? ⟨p5, 0, none⟩ = some (.string x.key) ∧ w'.cell? ⟨p5, 1, none⟩ = some (.int .i64 x.w.n) ∧ w'.cell? ⟨p5, 2, none⟩ = some (.int .i64 x.w.c) ∧ w'.cell? ⟨p5, 3, none⟩ = some (.int .i64 x.h.n) ∧ w'.cell? ⟨p5, 4, none⟩ = some (.int .i64 x.h.c) ∧ w'.cell? ⟨tv, 0, none⟩ = some (.pointer (some ⟨d, 0, none⟩)) ∧ w'.cell? ⟨d, 3, none⟩ = some (.slice m.ap q.prep.length m.cp) ∧ w'.cell? ⟨d, 4, none⟩ = some (.slice m.au q.hurt.length m.cu))) := Lib.hid (fun w' hb => ⟨(HK5.out.below hb HK5.out.lt).cell 0, (HK5.out.below hb HK5.out.lt).cell 1, (HK5.out.below hb HK5.out.lt).cell 2, (HK5.out.below hb HK5.out.lt).cell 3, (HK5.out.below hb HK5.out.lt).cell 4, (HF5.out.below hb).tv.cell 0, (HF5.out.below hb).tb.c3, (HF5.out.below hb).tb.c4⟩)
                      have HOL := Lib.hid (fun W => older_any x.h x.w W)
                      have HC1 := Lib.hid (fun W (hb : Below w5.heap.size w5 W) => contains_any m.ap m.cp q.prep x.h W (Reads.of_own (HF5.out.below hb).tb.op) hfm.1)
                      have HC2 := Lib.hid (fun W (hb : Below w5.heap.size w5 W) => contains_any m.au m.cu q.hurt x.h W (Reads.of_own (HF5.out.below hb).tb.ou) hfm.2)
                      unfold idV at HOL HC1 HC2
                      cases e1 : ol x.h x.w with
                      | true =>
                        have HP : Hid (f5 q k (gr edR ES k) = false) := Lib.hid (by rw [← HX.out]; unfold f5; rw [e1]; rfl)
                        go_wp2_with fail
                        refine wp_region_heldH (by kernel_rfl) hS (hD) (fun hHeld => ?_)
                        refine takes [0, 1, 2, 3] 22 (by kernel_rfl) (by assumption) ?_
                        iterate 4 (refine tkY rfl (fun _ _ _ h => h) rfl (by ((intro w hSw); (try dsimp only at hSw); go_simp; (try with_reducible rfl))) ?_; try simp only [Act.put, List.setIfInBounds_toArray, List.set_cons_zero, List.set_cons_succ])
                        refine tkE ?_
                        refine wpAnyH_ready (rs := [4]) (by kernel_rfl) (by simp) ?_
                        refine readyC rfl (fun K hK => ?_) ?_
                        ·
                          go_simp
                          go_at_call 42
                          refine (HOL.out _).mono ?_
                          rintro e w6 ⟨he, hb_⟩
                          rw [e1] at he
                          subst he
                          have HB_w6 := Lib.hid (hD.trans (hb_.mono hD.size))
                          clear hb_
                          go_wp2_with fail
                          refine hK.out _ _ (by with_reducible exact hS.out _ HB_w6.out) (fun hHeld => ?_)
                          clear hK K
                          try simp only [Act.put, List.setIfInBounds_toArray, List.set_cons_zero, List.set_cons_succ]
                          refine takes [5, 6, 7, 8, 9, 10, 11, 12, 13, 14, 15, 16, 17, 18, 19, 20, 21, 22, 23, 24, 25] 0 (by kernel_rfl) (by assumption) ?_
                          iterate 2 (refine tkY rfl (fun _ _ _ h => h) rfl (by ((intro w hSw); (try dsimp only at hSw); go_simp; (try with_reducible rfl))) ?_; try simp only [Act.put, List.setIfInBounds_toArray, List.set_cons_zero, List.set_cons_succ])
                          iterate 8 (refine tkN rfl (fun _ _ _ h => h) rfl ?_; try simp only [Act.put, List.setIfInBounds_toArray, List.set_cons_zero, List.set_cons_succ])
                          iterate 2 (refine tkY rfl (fun _ _ _ h => h) rfl (by ((intro w hSw); (try dsimp only at hSw); go_simp; (try with_reducible rfl))) ?_; try simp only [Act.put, List.setIfInBounds_toArray, List.set_cons_zero, List.set_cons_succ])
                          iterate 8 (refine tkN rfl (fun _ _ _ h => h) rfl ?_; try simp only [Act.put, List.setIfInBounds_toArray, List.set_cons_zero, List.set_cons_succ])
                          refine tkY rfl (fun _ _ _ h => h) rfl (by ((intro w hSw); (try dsimp only at hSw); go_simp; (try with_reducible rfl))) ?_; try simp only [Act.put, List.setIfInBounds_toArray, List.set_cons_zero, List.set_cons_succ]
                          refine tkE ?_
                          refine wpAnyH_done (by kernel_rfl) ?_ _
                          have HBE := Lib.hid (HBR.out.trans ((HB5.out.trans (HB_w6.out.mono HB5.out.size)).mono HBR.out.size))
                          go_wp2
                          go_roundw
                          case rel => exact ⟨k + 1, by go_num, by omega, fs_on HNO.out HP.out, HBE.out⟩
                          case measure => simp [intOf]; omega
                        exact AllReadyH.nil
                      | false =>
                        cases e2 : hasI q.prep x.h with
                        | true =>
                          have HP : Hid (f5 q k (gr edR ES k) = false) := Lib.hid (by rw [← HX.out]; unfold f5; rw [e1, e2]; rfl)
                          go_wp2_with fail
                          refine wp_region_heldH (by kernel_rfl) hS (hD) (fun hHeld => ?_)
                          refine takes [0, 1, 2, 3] 22 (by kernel_rfl) (by assumption) ?_
                          iterate 4 (refine tkY rfl (fun _ _ _ h => h) rfl (by ((intro w hSw); (try dsimp only at hSw); go_simp; (try with_reducible rfl))) ?_; try simp only [Act.put, List.setIfInBounds_toArray, List.set_cons_zero, List.set_cons_succ])
                          refine tkE ?_
                          refine wpAnyH_ready (rs := [4]) (by kernel_rfl) (by simp) ?_
                          refine readyC rfl (fun K hK => ?_) ?_
                          ·
                            go_simp
                            go_at_call 42
                            refine (HOL.out _).mono ?_
                            rintro e w6 ⟨he, hb_⟩
                            rw [e1] at he
                            subst he
                            have HB_w6 := Lib.hid (hD.trans (hb_.mono hD.size))
                            clear hb_
                            go_wp2_with fail
                            refine hK.out _ _ (by with_reducible exact hS.out _ HB_w6.out) (fun hHeld => ?_)
                            clear hK K
                            try simp only [Act.put, List.setIfInBounds_toArray, List.set_cons_zero, List.set_cons_succ]
                            refine takes [5, 6, 7, 8, 9, 10, 11, 12] 13 (by kernel_rfl) (by assumption) ?_
                            iterate 8 (refine tkY rfl (fun _ _ _ h => h) rfl (by ((intro w hSw); (try dsimp only at hSw); go_simp; (try with_reducible rfl))) ?_; try simp only [Act.put, List.setIfInBounds_toArray, List.set_cons_zero, List.set_cons_succ])
                            refine tkE ?_
                            refine wpAnyH_ready (rs := [13]) (by kernel_rfl) (by simp) ?_
                            refine readyC rfl (fun K hK => ?_) ?_
                            ·
                              go_simp
                              go_at_call 37
                              refine (HC1.out _ HB_w6.out).mono ?_
                              rintro e w7 ⟨he, hb_⟩
                              rw [e2] at he
                              subst he
                              have HB_w7 := Lib.hid (HB_w6.out.trans (hb_.mono HB_w6.out.size))
                              clear hb_
                              go_wp2_with fail
                              refine hK.out _ _ (by with_reducible exact hS.out _ HB_w7.out) (fun hHeld => ?_)
                              clear hK K
                              try simp only [Act.put, List.setIfInBounds_toArray, List.set_cons_zero, List.set_cons_succ]
                              refine takes [14, 15, 16, 17, 18, 19, 20, 21, 22, 23, 24, 25] 0 (by kernel_rfl) (by assumption) ?_
                              iterate 3 (refine tkY rfl (fun _ _ _ h => h) rfl (by ((intro w hSw); (try dsimp only at hSw); go_simp; (try with_reducible rfl))) ?_; try simp only [Act.put, List.setIfInBounds_toArray, List.set_cons_zero, List.set_cons_succ])
                              iterate 8 (refine tkN rfl (fun _ _ _ h => h) rfl ?_; try simp only [Act.put, List.setIfInBounds_toArray, List.set_cons_zero, List.set_cons_succ])
                              refine tkY rfl (fun _ _ _ h => h) rfl (by ((intro w hSw); (try dsimp only at hSw); go_simp; (try with_reducible rfl))) ?_; try simp only [Act.put, List.setIfInBounds_toArray, List.set_cons_zero, List.set_cons_succ]
                              refine tkE ?_
                              refine wpAnyH_done (by kernel_rfl) ?_ _
                              have HBE := Lib.hid (HBR.out.trans ((HB5.out.trans (HB_w7.out.mono HB5.out.size)).mono HBR.out.size))
                              go_wp2
                              go_roundw
                              case rel => exact ⟨k + 1, by go_num, by omega, fs_on HNO.out HP.out, HBE.out⟩
                              case measure => simp [intOf]; omega
                            exact AllReadyH.nil
                          exact AllReadyH.nil
                        | false =>
                          cases e3 : hasI q.hurt x.h with
                          | true =>
                            have HP : Hid (f5 q k (gr edR ES k) = false) := Lib.hid (by rw [← HX.out]; unfold f5; rw [e1, e2, e3]; rfl)
                            go_wp2_with fail
                            refine wp_region_heldH (by kernel_rfl) hS (hD) (fun hHeld => ?_)
                            refine takes [0, 1, 2, 3] 22 (by kernel_rfl) (by assumption) ?_
                            iterate 4 (refine tkY rfl (fun _ _ _ h => h) rfl (by ((intro w hSw); (try dsimp only at hSw); go_simp; (try with_reducible rfl))) ?_; try simp only [Act.put, List.setIfInBounds_toArray, List.set_cons_zero, List.set_cons_succ])
                            refine tkE ?_
                            refine wpAnyH_ready (rs := [4]) (by kernel_rfl) (by simp) ?_
                            refine readyC rfl (fun K hK => ?_) ?_
                            ·
                              go_simp
                              go_at_call 42
                              refine (HOL.out _).mono ?_
                              rintro e w6 ⟨he, hb_⟩
                              rw [e1] at he
                              subst he
                              have HB_w6 := Lib.hid (hD.trans (hb_.mono hD.size))
                              clear hb_
                              go_wp2_with fail
                              refine hK.out _ _ (by with_reducible exact hS.out _ HB_w6.out) (fun hHeld => ?_)
                              clear hK K
                              try simp only [Act.put, List.setIfInBounds_toArray, List.set_cons_zero, List.set_cons_succ]
                              refine takes [5, 6, 7, 8, 9, 10, 11, 12] 13 (by kernel_rfl) (by assumption) ?_
                              iterate 8 (refine tkY rfl (fun _ _ _ h => h) rfl (by ((intro w hSw); (try dsimp only at hSw); go_simp; (try with_reducible rfl))) ?_; try simp only [Act.put, List.setIfInBounds_toArray, List.set_cons_zero, List.set_cons_succ])
                              refine tkE ?_
                              refine wpAnyH_ready (rs := [13]) (by kernel_rfl) (by simp) ?_
                              refine readyC rfl (fun K hK => ?_) ?_
                              ·
                                go_simp
                                go_at_call 37
                                refine (HC1.out _ HB_w6.out).mono ?_
                                rintro e w7 ⟨he, hb_⟩
                                rw [e2] at he
                                subst he
                                have HB_w7 := Lib.hid (HB_w6.out.trans (hb_.mono HB_w6.out.size))
                                clear hb_
                                go_wp2_with fail
                                refine hK.out _ _ (by with_reducible exact hS.out _ HB_w7.out) (fun hHeld => ?_)
                                clear hK K
                                try simp only [Act.put, List.setIfInBounds_toArray, List.set_cons_zero, List.set_cons_succ]
                                refine takes [14, 15, 16, 17, 18, 19, 20, 21, 22] 3 (by kernel_rfl) (by assumption) ?_
                                iterate 9 (refine tkY rfl (fun _ _ _ h => h) rfl (by ((intro w hSw); (try dsimp only at hSw); go_simp; (try with_reducible rfl))) ?_; try simp only [Act.put, List.setIfInBounds_toArray, List.set_cons_zero, List.set_cons_succ])
                                refine tkE ?_
                                refine wpAnyH_ready (rs := [23]) (by kernel_rfl) (by simp) ?_
                                refine readyC rfl (fun K hK => ?_) ?_
                                ·
                                  go_simp
                                  go_at_call 37
                                  refine (HC2.out _ HB_w7.out).mono ?_
                                  rintro e w8 ⟨he, hb_⟩
                                  rw [e3] at he
                                  subst he
                                  have HB_w8 := Lib.hid (HB_w7.out.trans (hb_.mono HB_w7.out.size))
                                  clear hb_
                                  go_wp2_with fail
                                  refine hK.out _ _ (by with_reducible exact hS.out _ HB_w8.out) (fun hHeld => ?_)
                                  clear hK K
                                  try simp only [Act.put, List.setIfInBounds_toArray, List.set_cons_zero, List.set_cons_succ]
                                  refine takes [24, 25] 0 (by kernel_rfl) (by assumption) ?_
                                  iterate 2 (refine tkY rfl (fun _ _ _ h => h) rfl (by ((intro w hSw); (try dsimp only at hSw); go_simp; (try with_reducible rfl))) ?_; try simp only [Act.put, List.setIfInBounds_toArray, List.set_cons_zero, List.set_cons_succ])
                                  refine tkE ?_
                                  refine wpAnyH_done (by kernel_rfl) ?_ _
                                  have HBE := Lib.hid (HBR.out.trans ((HB5.out.trans (HB_w8.out.mono HB5.out.size)).mono HBR.out.size))
                                  go_wp2
                                  go_roundw
                                  case rel => exact ⟨k + 1, by go_num, by omega, fs_on HNO.out HP.out, HBE.out⟩
                                  case measure => simp [intOf]; omega
                                exact AllReadyH.nil
                              exact AllReadyH.nil
                            exact AllReadyH.nil
                          | false =>
                            have HR : Hid (fitsB q = false) := Lib.hid (by unfold fitsB; rw [HN1.out, HN2.out, HN3.out, HN4.out, ← HES.out, nb_no hlt (p := f5 q) (by rw [← HX.out]; unfold f5; rw [e1, e2, e3]; rfl)]; rfl)
                            go_wp2_with fail
                            refine wp_region_heldH (by kernel_rfl) hS (hD) (fun hHeld => ?_)
                            refine takes [0, 1, 2, 3] 22 (by kernel_rfl) (by assumption) ?_
                            iterate 4 (refine tkY rfl (fun _ _ _ h => h) rfl (by ((intro w hSw); (try dsimp only at hSw); go_simp; (try with_reducible rfl))) ?_; try simp only [Act.put, List.setIfInBounds_toArray, List.set_cons_zero, List.set_cons_succ])
                            refine tkE ?_
                            refine wpAnyH_ready (rs := [4]) (by kernel_rfl) (by simp) ?_
                            refine readyC rfl (fun K hK => ?_) ?_
                            ·
                              go_simp
                              go_at_call 42
                              refine (HOL.out _).mono ?_
                              rintro e w6 ⟨he, hb_⟩
                              rw [e1] at he
                              subst he
                              have HB_w6 := Lib.hid (hD.trans (hb_.mono hD.size))
                              clear hb_
                              go_wp2_with fail
                              refine hK.out _ _ (by with_reducible exact hS.out _ HB_w6.out) (fun hHeld => ?_)
                              clear hK K
                              try simp only [Act.put, List.setIfInBounds_toArray, List.set_cons_zero, List.set_cons_succ]
                              refine takes [5, 6, 7, 8, 9, 10, 11, 12] 13 (by kernel_rfl) (by assumption) ?_
                              iterate 8 (refine tkY rfl (fun _ _ _ h => h) rfl (by ((intro w hSw); (try dsimp only at hSw); go_simp; (try with_reducible rfl))) ?_; try simp only [Act.put, List.setIfInBounds_toArray, List.set_cons_zero, List.set_cons_succ])
                              refine tkE ?_
                              refine wpAnyH_ready (rs := [13]) (by kernel_rfl) (by simp) ?_
                              refine readyC rfl (fun K hK => ?_) ?_
                              ·
                                go_simp
                                go_at_call 37
                                refine (HC1.out _ HB_w6.out).mono ?_
                                rintro e w7 ⟨he, hb_⟩
                                rw [e2] at he
                                subst he
                                have HB_w7 := Lib.hid (HB_w6.out.trans (hb_.mono HB_w6.out.size))
                                clear hb_
                                go_wp2_with fail
                                refine hK.out _ _ (by with_reducible exact hS.out _ HB_w7.out) (fun hHeld => ?_)
                                clear hK K
                                try simp only [Act.put, List.setIfInBounds_toArray, List.set_cons_zero, List.set_cons_succ]
                                refine takes [14, 15, 16, 17, 18, 19, 20, 21, 22] 3 (by kernel_rfl) (by assumption) ?_
                                iterate 9 (refine tkY rfl (fun _ _ _ h => h) rfl (by ((intro w hSw); (try dsimp only at hSw); go_simp; (try with_reducible rfl))) ?_; try simp only [Act.put, List.setIfInBounds_toArray, List.set_cons_zero, List.set_cons_succ])
                                refine tkE ?_
                                refine wpAnyH_ready (rs := [23]) (by kernel_rfl) (by simp) ?_
                                refine readyC rfl (fun K hK => ?_) ?_
                                ·
                                  go_simp
                                  go_at_call 37
                                  refine (HC2.out _ HB_w7.out).mono ?_
                                  rintro e w8 ⟨he, hb_⟩
                                  rw [e3] at he
                                  subst he
                                  have HB_w8 := Lib.hid (HB_w7.out.trans (hb_.mono HB_w7.out.size))
                                  clear hb_
                                  go_wp2_with fail
                                  refine hK.out _ _ (by with_reducible exact hS.out _ HB_w8.out) (fun hHeld => ?_)
                                  clear hK K
                                  try simp only [Act.put, List.setIfInBounds_toArray, List.set_cons_zero, List.set_cons_succ]
                                  refine takes [24, 25] 0 (by kernel_rfl) (by assumption) ?_
                                  iterate 2 (refine tkY rfl (fun _ _ _ h => h) rfl (by ((intro w hSw); (try dsimp only at hSw); go_simp; (try with_reducible rfl))) ?_; try simp only [Act.put, List.setIfInBounds_toArray, List.set_cons_zero, List.set_cons_succ])
                                  refine tkE ?_
                                  refine wpAnyH_done (by kernel_rfl) ?_ _
                                  have HBE := Lib.hid (HB12.out.trans ((HBR.out.trans ((HB5.out.trans (HB_w8.out.mono HB5.out.size)).mono HBR.out.size)).mono HB12.out.size))
                                  go_wp2
                                  go_ret
                                  exact ⟨ret_bool HR.out.symm, HBE.out⟩
                                exact AllReadyH.nil
                              exact AllReadyH.nil
                            exact AllReadyH.nil
                    ·
                      have kU : ¬ (k : Int) < (ES.length : Int) := by omega
                      have HR : Hid (fitsB q = true) := Lib.hid (by unfold fitsB; rw [HN1.out, HN2.out, HN3.out, HN4.out, ← HES.out, nb_yes (k := k) (by omega) HNO.out]; rfl)
                      have HBE := Lib.hid (HB12.out.trans (HBR.out.mono HB12.out.size))
                      go_wp2
                      go_ret
                      exact ⟨ret_bool HR.out.symm, HBE.out⟩
end Go.Proofs.YtpidpdbjjdkhoaaGreat
