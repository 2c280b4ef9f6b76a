/- Locks, Restore, the reference: good, marked. -/
import Derived.Test.YtpidpdbjjdkhoaaGreatGyE
import Derived.Test.YtpidpdbjjdkhoaaGreatGzI
namespace Go.Proofs.YtpidpdbjjdkhoaaGreat
open Go.RowKit
set_option linter.unusedSimpArgs false
set_option linter.unusedVariables false
attribute [local go_sem ↓] Go.wp_at_zero Go.wp_at_succ

theorem srt_adj {α : Type} {R : RowT α} {lt : α → α → Bool} (O : Ord' lt) {l : List α} (h : ∀ j, j + 1 < l.length → lt (gr R l j) (gr R l (j + 1)) = true) : Srt lt l := by
  have h2 : ∀ d i, i + (d + 1) < l.length → lt (gr R l i) (gr R l (i + (d + 1))) = true := by
    intro d
    induction d with
    | zero => intro i hi; exact h i hi
    | succ d ih => intro i hi; exact O.tr _ _ _ (ih i (by omega)) (h (i + (d + 1)) hi)
  unfold Srt
  rw [List.pairwise_iff_getElem]
  intro i j hi hj hij
  have h3 := h2 (j - i - 1) i (by omega)
  rw [show i + (j - i - 1 + 1) = j by omega, gr_at hi, gr_at hj] at h3
  exact h3
theorem nb_at {α : Type} {R : RowT α} {l : List α} {p : Nat → α → Bool} (h : nb R l p = true) {j : Nat} (hj : j < l.length) : p j (gr R l j) = false := by
  unfold nb at h
  have := List.all_eq_true.1 h j (List.mem_range.2 hj)
  simpa using this
theorem ord_of {l : List Lk} (h : nb lkR l (ordQ l) = true) : Srt ah l ∧ ∀ x ∈ l, soundE x = 0 := by
  refine ⟨srt_adj ah_ord (R := lkR) (fun j hj => ?_), fun x hx => ?_⟩
  · have h1 := nb_at h hj
    unfold ordQ at h1
    rw [show j + 1 - 1 = j by omega, decide_eq_true (show 0 < j + 1 by omega)] at h1
    simp at h1
    exact h1.2
  · obtain ⟨j, hj, rfl⟩ := List.mem_iff_getElem.1 hx
    have h1 := nb_at h hj
    unfold ordQ at h1
    rw [gr_at hj] at h1
    simp at h1
    exact h1.1
theorem ris_of {l : List Idn} (h : nb idR l (risQ l) = true) : Srt ol l ∧ ∀ x ∈ l, idOk x = true := by
  refine ⟨srt_adj ol_ord (R := idR) (fun j hj => ?_), fun x hx => ?_⟩
  · have h1 := nb_at h hj
    unfold risQ at h1
    rw [show j + 1 - 1 = j by omega, decide_eq_true (show 0 < j + 1 by omega)] at h1
    simp at h1
    exact h1.2
  · obtain ⟨j, hj, rfl⟩ := List.mem_iff_getElem.1 hx
    have h1 := nb_at h hj
    unfold risQ at h1
    rw [gr_at hj] at h1
    simp at h1
    exact h1.1
def ordB (q : Tb) : Bool := nb lkR q.held (ordQ q.held) && (nb lkR q.wait (ordQ q.wait) && (nb idR q.prep (risQ q.prep) && nb idR q.hurt (risQ q.hurt)))
theorem good_ord {q : Tb} (h : ordB q = true) : Good q := by
  unfold ordB at h
  simp only [Bool.and_eq_true] at h
  exact ⟨(ord_of h.1).1, (ord_of h.2.1).1, (ris_of h.2.2.1).1, (ris_of h.2.2.2).1, (ord_of h.1).2, (ord_of h.2.1).2⟩
def g1 (q : Tb) (_ : Nat) (x : Lk) : Bool := q.held.any fun y => confR y x
def mayR (q : Tb) (x : Lk) : Bool := !(q.wait.any fun y => confR y x && ol y.id x.id) && !(q.held.any fun y => confR y x)
def g2 (q : Tb) (k : Nat) (x : Lk) : Bool := hasI (wt q k) x.id || ((decide (0 < modeI q x.id x.key) && ((modeI q x.id x.key != 1) || (x.mode != 2))) || mayR q x)
def g5 (q : Tb) (_ : Nat) (e : Edg) : Bool := !rightB q e
def goodB (q : Tb) : Bool := ordB q && (nb lkR q.held (g1 q) && (nb lkR q.wait (g2 q) && nb edR (edges q) (g5 q)))
def m1 (q : Tb) (_ : Nat) (i : Idn) : Bool := hasI q.hurt i || ((wantsL q i).isSome || !knownB q i)
def m2 (q : Tb) (_ : Nat) (i : Idn) : Bool := !knownB q i
def markB (q : Tb) : Bool := nb idR q.prep (m1 q) && nb idR q.hurt (m2 q)
def InRel (q : Tb) (x : Lk) (k : Nat) (w : World) (i : Value) (wr : World) : Prop := ∃ j : Nat, i = .int .i64 j ∧ j ≤ k ∧ (∀ a, a < j → eqI (gr lkR q.wait a).id x.id = false) ∧ Below w.heap.size w wr
theorem wt_yes {q : Tb} {i : Idn} {j k : Nat} (hj : j < k) (hk : k ≤ q.wait.length) (h : eqI (gr lkR q.wait j).id i = true) : hasI (wt q k) i = true := by
  rw [hasI_iff, ← eqI_iff.1 h, gr_at (by omega)]
  unfold wt
  exact List.mem_map_of_mem (List.mem_take_iff_getElem.2 ⟨j, by omega, rfl⟩)
theorem wt_no {q : Tb} {i : Idn} {k : Nat} (h : ∀ a, a < k → eqI (gr lkR q.wait a).id i = false) : hasI (wt q k) i = false := by
  rw [hasI_no]
  unfold wt
  intro hm
  obtain ⟨y, hy, rfl⟩ := List.mem_map.1 hm
  obtain ⟨j, hj, rfl⟩ := List.mem_take_iff_getElem.1 hy
  have h1 := h j (by omega)
  rw [gr_at (by omega), eqI_iff.2 rfl] at h1
  cases h1
set_option maxHeartbeats 16000000 in
set_option maxRecDepth 100000 in
theorem good_any {w : World} {g : Nat} {q : Tb} {m : TbM} (h : RfAt w g q m) : Calls Tryz.prog 33 #[.pointer (some ⟨g, 0, none⟩)] w (BoolIs (goodB q) w) := by
  have HH := Lib.hid h
  have HB0 : Hid (Below w.heap.size w w) := Lib.hid (Below.refl _ _)
  have hfh := h.fh
  have hfm := h.fm
  clear h
  have H0 := Lib.hid (fun w' (hb : Below w.heap.size w w') => ordered_any m.ah m.ch q.held w' (Reads.of_own (HH.out.below hb).oh) (by have := HH.out.fh; omega))
  have H1 := Lib.hid (fun w' (hb : Below w.heap.size w w') => ordered_any m.aw m.cw q.wait w' (Reads.of_own (HH.out.below hb).ow) (by have := HH.out.fh; omega))
  have H2 := Lib.hid (fun w' (hb : Below w.heap.size w w') => rising_any m.ap m.cp q.prep w' (Reads.of_own (HH.out.below hb).op) (by have := HH.out.fm; omega))
  have H3 := Lib.hid (fun w' (hb : Below w.heap.size w w') => rising_any m.au m.cu q.hurt w' (Reads.of_own (HH.out.below hb).ou) (by have := HH.out.fm; omega))
  go_enter Tryz.func33, Tryz.ntmps33
  cases e0 : nb lkR q.held (ordQ q.held) with
  | false =>
    have HR : Hid (goodB q = false) := Lib.hid (by unfold goodB ordB; rw [e0]; rfl)
    rw [e0] at H0
    clear e0
    have y := HH.out.c1
    go_wp2_with fail
    clear y
    refine (H0.out w HB0.out).mono ?_
    rintro e w1 ⟨rfl, hb_⟩
    have HB1 := Lib.hid (HB0.out.trans (hb_.mono HB0.out.size))
    clear hb_
    go_wp2
    go_ret
    exact ⟨ret_bool HR.out.symm, HB1.out⟩
  | true =>
    cases e1 : nb lkR q.wait (ordQ q.wait) with
    | false =>
      have HR : Hid (goodB q = false) := Lib.hid (by unfold goodB ordB; rw [e0, e1]; rfl)
      rw [e0] at H0
      rw [e1] at H1
      clear e0 e1
      have y := HH.out.c1
      go_wp2_with fail
      clear y
      refine (H0.out w HB0.out).mono ?_
      rintro e w1 ⟨rfl, hb_⟩
      have HB1 := Lib.hid (HB0.out.trans (hb_.mono HB0.out.size))
      clear hb_
      have y : w1.cell? ⟨g, 2, none⟩ = some (.slice m.aw q.wait.length m.cw) := (HH.out.below HB1.out).c2
      go_wp2_with fail
      clear y
      refine (H1.out w1 HB1.out).mono ?_
      rintro e w2 ⟨rfl, hb_⟩
      have HB2 := Lib.hid (HB1.out.trans (hb_.mono HB1.out.size))
      clear hb_
      go_wp2
      go_ret
      exact ⟨ret_bool HR.out.symm, HB2.out⟩
    | true =>
      cases e2 : nb idR q.prep (risQ q.prep) with
      | false =>
        have HR : Hid (goodB q = false) := Lib.hid (by unfold goodB ordB; rw [e0, e1, e2]; rfl)
        rw [e0] at H0
        rw [e1] at H1
        rw [e2] at H2
        clear e0 e1 e2
        have y := HH.out.c1
        go_wp2_with fail
        clear y
        refine (H0.out w HB0.out).mono ?_
        rintro e w1 ⟨rfl, hb_⟩
        have HB1 := Lib.hid (HB0.out.trans (hb_.mono HB0.out.size))
        clear hb_
        have y : w1.cell? ⟨g, 2, none⟩ = some (.slice m.aw q.wait.length m.cw) := (HH.out.below HB1.out).c2
        go_wp2_with fail
        clear y
        refine (H1.out w1 HB1.out).mono ?_
        rintro e w2 ⟨rfl, hb_⟩
        have HB2 := Lib.hid (HB1.out.trans (hb_.mono HB1.out.size))
        clear hb_
        have y : w2.cell? ⟨g, 3, none⟩ = some (.slice m.ap q.prep.length m.cp) := (HH.out.below HB2.out).c3
        go_wp2_with fail
        clear y
        refine (H2.out w2 HB2.out).mono ?_
        rintro e w3 ⟨rfl, hb_⟩
        have HB3 := Lib.hid (HB2.out.trans (hb_.mono HB2.out.size))
        clear hb_
        go_wp2
        go_ret
        exact ⟨ret_bool HR.out.symm, HB3.out⟩
      | true =>
        cases e3 : nb idR q.hurt (risQ q.hurt) with
        | false =>
          have HR : Hid (goodB q = false) := Lib.hid (by unfold goodB ordB; rw [e0, e1, e2, e3]; rfl)
          rw [e0] at H0
          rw [e1] at H1
          rw [e2] at H2
          rw [e3] at H3
          clear e0 e1 e2 e3
          have y := HH.out.c1
          go_wp2_with fail
          clear y
          refine (H0.out w HB0.out).mono ?_
          rintro e w1 ⟨rfl, hb_⟩
          have HB1 := Lib.hid (HB0.out.trans (hb_.mono HB0.out.size))
          clear hb_
          have y : w1.cell? ⟨g, 2, none⟩ = some (.slice m.aw q.wait.length m.cw) := (HH.out.below HB1.out).c2
          go_wp2_with fail
          clear y
          refine (H1.out w1 HB1.out).mono ?_
          rintro e w2 ⟨rfl, hb_⟩
          have HB2 := Lib.hid (HB1.out.trans (hb_.mono HB1.out.size))
          clear hb_
          have y : w2.cell? ⟨g, 3, none⟩ = some (.slice m.ap q.prep.length m.cp) := (HH.out.below HB2.out).c3
          go_wp2_with fail
          clear y
          refine (H2.out w2 HB2.out).mono ?_
          rintro e w3 ⟨rfl, hb_⟩
          have HB3 := Lib.hid (HB2.out.trans (hb_.mono HB2.out.size))
          clear hb_
          have y : w3.cell? ⟨g, 4, none⟩ = some (.slice m.au q.hurt.length m.cu) := (HH.out.below HB3.out).c4
          go_wp2_with fail
          clear y
          refine (H3.out w3 HB3.out).mono ?_
          rintro e w4 ⟨rfl, hb_⟩
          have HB4 := Lib.hid (HB3.out.trans (hb_.mono HB3.out.size))
          clear hb_
          go_wp2
          go_ret
          exact ⟨ret_bool HR.out.symm, HB4.out⟩
        | true =>
          have HO : Hid (ordB q = true) := Lib.hid (by unfold ordB; rw [e0, e1, e2, e3]; rfl)
          have HGD := Lib.hid (good_ord HO.out)
          rw [e0] at H0
          rw [e1] at H1
          rw [e2] at H2
          rw [e3] at H3
          clear e0 e1 e2 e3
          have y := HH.out.c1
          go_wp2_with fail
          clear y
          refine (H0.out w HB0.out).mono ?_
          rintro e w1 ⟨rfl, hb_⟩
          have HB1 := Lib.hid (HB0.out.trans (hb_.mono HB0.out.size))
          clear hb_
          have y : w1.cell? ⟨g, 2, none⟩ = some (.slice m.aw q.wait.length m.cw) := (HH.out.below HB1.out).c2
          go_wp2_with fail
          clear y
          refine (H1.out w1 HB1.out).mono ?_
          rintro e w2 ⟨rfl, hb_⟩
          have HB2 := Lib.hid (HB1.out.trans (hb_.mono HB1.out.size))
          clear hb_
          have y : w2.cell? ⟨g, 3, none⟩ = some (.slice m.ap q.prep.length m.cp) := (HH.out.below HB2.out).c3
          go_wp2_with fail
          clear y
          refine (H2.out w2 HB2.out).mono ?_
          rintro e w3 ⟨rfl, hb_⟩
          have HB3 := Lib.hid (HB2.out.trans (hb_.mono HB2.out.size))
          clear hb_
          have y : w3.cell? ⟨g, 4, none⟩ = some (.slice m.au q.hurt.length m.cu) := (HH.out.below HB3.out).c4
          go_wp2_with fail
          clear y
          refine (H3.out w3 HB3.out).mono ?_
          rintro e w4 ⟨rfl, hb_⟩
          have HB4 := Lib.hid (HB3.out.trans (hb_.mono HB3.out.size))
          clear hb_
          clear H0 H1 H2 H3 HB0 HB1 HB2 HB3
          go_wp2
          go_loopw [3] (FsRel lkR q.held (g1 q) (fun _ wr => Below w.heap.size w wr)) (fun i _ => q.held.length - (intOf i).toNat)
          case atStart => exact ⟨0, rfl, Nat.zero_le _, fun j hj => by omega, HB4.out⟩
          case round =>
            clear HB4
            obtain ⟨k, rfl, hk, hno, hb⟩ := hrel
            have HNO := Lib.hid hno
            have HBR := Lib.hid hb
            have HT := Lib.hid (HH.out.below hb)
            clear hno hb
            have y1 := HT.out.c1
            by_cases hlt : k < q.held.length
            ·
              obtain ⟨b, off, hA, _, a0, a1, a2, a3⟩ := rdL (Reads.of_own HT.out.oh) hlt
              try rw [hA]
              obtain ⟨x, hx⟩ : ∃ x, x = gr lkR q.held k := ⟨_, rfl⟩
              rw [← hx] at a0 a1 a2 a3
              have HX := Lib.hid hx
              clear hx
              have kL : (0 : Int) ≤ (k : Int) := by omega
              have kU : (k : Int) < (q.held.length : Int) := by omega
              have HCL := Lib.hid (rclash_any HT.out x)
              unfold lkV at HCL
              cases e1 : (q.held.any fun y => confR y x) with
              | true =>
                have HR : Hid (goodB q = false) := Lib.hid (by unfold goodB; rw [HO.out, nb_no hlt (p := g1 q) (by rw [← HX.out]; unfold g1; exact e1)]; rfl)
                go_wp2_with fail
                refine HCL.out.mono ?_
                rintro e w6 ⟨he, hb6⟩
                rw [e1] at he
                subst he
                have HBE := Lib.hid (HBR.out.trans (hb6.mono HBR.out.size))
                clear hb6 e1 a0 a1 a2 a3 y1
                go_wp2
                go_ret
                exact ⟨ret_bool HR.out.symm, HBE.out⟩
              | false =>
                have HP : Hid (g1 q k (gr lkR q.held k) = false) := Lib.hid (by rw [← HX.out]; exact e1)
                go_wp2_with fail
                refine HCL.out.mono ?_
                rintro e w6 ⟨he, hb6⟩
                rw [e1] at he
                subst he
                have HBE := Lib.hid (HBR.out.trans (hb6.mono HBR.out.size))
                clear hb6 e1 a0 a1 a2 a3 y1
                go_wp2
                go_roundw
                case rel => exact ⟨k + 1, by go_num, by omega, fs_on HNO.out HP.out, HBE.out⟩
                case measure => simp [intOf]; omega
            ·
              have HN1 : Hid (nb lkR q.held (g1 q) = true) := Lib.hid (nb_yes (k := k) (by omega) HNO.out)
              have kU : ¬ (k : Int) < (q.held.length : Int) := by omega
              go_wp2
              clear kU y1
              go_loopw [4] (FsRel lkR q.wait (g2 q) (fun _ wr => Below w.heap.size w wr)) (fun i _ => q.wait.length - (intOf i).toNat)
              case atStart => exact ⟨0, rfl, Nat.zero_le _, fun j hj => by omega, HBR.out⟩
              case round =>
                clear HNO HT hk hlt HBR
                obtain ⟨k, rfl, hk, hno, hb⟩ := hrel
                have HNO := Lib.hid hno
                have HBR := Lib.hid hb
                have HT := Lib.hid (HH.out.below hb)
                clear hno hb
                have y1 := HT.out.c2
                by_cases hlt : k < q.wait.length
                ·
                  obtain ⟨b, off, hA, _, a0, a1, a2, a3⟩ := rdL (Reads.of_own HT.out.ow) hlt
                  try rw [hA]
                  obtain ⟨x, hx⟩ : ∃ x, x = gr lkR q.wait k := ⟨_, rfl⟩
                  rw [← hx] at a0 a1 a2 a3
                  have HX := Lib.hid hx
                  clear hx
                  have kL : (0 : Int) ≤ (k : Int) := by omega
                  have kU : (k : Int) < (q.wait.length : Int) := by omega
                  have HK5 := Lib.hid (Blk.new wr 62 #[.string x.key, .int .i64 x.id.n, .int .i64 x.id.c, .int .i64 x.mode])
                  have HB5 := Lib.hid (below_alloc wr (.cells #[.string x.key, .int .i64 x.id.n, .int .i64 x.id.c, .int .i64 x.mode] 62))
                  go_upto_block 4 with fail
                  obtain ⟨w5, hw5⟩ : ∃ w5, w5 = wr.alloc (.cells #[.string x.key, .int .i64 x.id.n, .int .i64 x.id.c, .int .i64 x.mode] 62) := ⟨_, rfl⟩
                  obtain ⟨p5, hp5⟩ : ∃ p5, p5 = wr.heap.size := ⟨_, rfl⟩
                  rw [← hw5]
                  rw [← hp5]
                  rw [← hw5] at HK5 HB5
                  rw [← hp5] at HK5
                  have HT5 := Lib.hid (HT.out.below HB5.out)
                  have HBB := Lib.hid (HBR.out.trans (HB5.out.mono HBR.out.size))
                  clear hw5 hp5 a0 a1 a2 a3 y1 HT HB5 HBR kL kU hA
                  go_wp2
                  go_loopw [6] (InRel q x k w5) (fun i _ => k - (intOf i).toNat)
                  case atStart => exact ⟨0, rfl, Nat.zero_le _, fun j hj => by omega, Below.refl _ _⟩
                  case round =>
                    obtain ⟨j, rfl, hj, hnj, hb⟩ := hrel
                    have HNJ := Lib.hid hnj
                    have HBI := Lib.hid hb
                    have HTI := Lib.hid (HT5.out.below hb)
                    have HKI := Lib.hid (HK5.out.below hb HK5.out.lt)
                    clear hnj hb
                    by_cases hjk : j < k
                    ·
                      have hjl : j < q.wait.length := by omega
                      obtain ⟨b, off, hA, _, a0, a1, a2, a3⟩ := rdL (Reads.of_own HTI.out.ow) hjl
                      obtain ⟨y, hy⟩ : ∃ y, y = gr lkR q.wait j := ⟨_, rfl⟩
                      have HY := Lib.hid hy
                      have hS : Hid (∀ w', Below wr.heap.size wr w' → (w'.cell? ⟨g, 2, none⟩ = some (.slice m.aw q.wait.length m.cw) ∧ w'.cell? ⟨b, off + j * 4 + 1, none⟩ = some (.int .i64 y.id.n) ∧ w'.cell? ⟨b, off + j * 4 + 2, none⟩ = some (.int .i64 y.id.c) ∧ w'.cell? ⟨p5, 1, none⟩ = some (.int .i64 x.id.n) ∧ w'.cell? ⟨p5, 2, none⟩ = some (.int .i64 x.id.c))) := Lib.hid (fun w' hb => by
                        obtain ⟨b1, off1, hA1, _, c0, c1, c2, c3⟩ := rdL (Reads.of_own (HTI.out.below hb).ow) hjl
                        rw [hA] at hA1
                        injection hA1 with hA1
                        injection hA1 with e1 e2
                        subst e1 e2
                        rw [← HY.out] at c1 c2
                        exact ⟨(HTI.out.below hb).c2, c1, c2, (HKI.out.below hb HKI.out.lt).cell 1, (HKI.out.below hb HKI.out.lt).cell 2⟩)
                      have hD : Below wr.heap.size wr wr.drew := below_drewN (Below.refl _ _) 1
                      have jL : (0 : Int) ≤ (j : Int) := by omega
                      have jU : (j : Int) < (q.wait.length : Int) := by omega
                      have jK : (j : Int) < (k : Int) := by omega
                      have he := run_eqI y.id x.id
                      clear hy a0 a1 a2 a3
                      cases e1 : eqI y.id x.id with
                      | true =>
                        have HR : Hid (goodB q = false) := Lib.hid (by unfold goodB; rw [HO.out, HN1.out, nb_no hlt (p := g2 q) (by rw [← HX.out]; unfold g2; rw [wt_yes hjk (by omega) (by rw [← HY.out]; exact e1)]; rfl)]; rfl)
                        rw [e1] at he
                        clear e1
                        go_wp2_with fail
                        refine wp_region_heldH (by kernel_rfl) hS (hD) (fun hHeld => ?_)
                        refine takes [0, 1, 2, 3, 4, 5, 6, 7, 8, 9, 10] 0 (by kernel_rfl) (by assumption) ?_
                        iterate 11 (refine tkY rfl (fun _ _ _ h => h) rfl (by ((intro w hSw); (try dsimp only at hSw); go_simp; (try with_reducible rfl))) ?_; try simp only [Act.put, List.setIfInBounds_toArray, List.set_cons_zero, List.set_cons_succ])
                        refine tkE ?_
                        refine wpAnyH_done (by kernel_rfl) ?_ _
                        have HBE := Lib.hid (HBB.out.trans ((HBI.out.trans (hD.mono HBI.out.size)).mono HBB.out.size))
                        go_wp2
                        go_ret
                        exact ⟨ret_bool HR.out.symm, HBE.out⟩
                      | false =>
                        have HQ : Hid (eqI (gr lkR q.wait j).id x.id = false) := Lib.hid (by rw [← HY.out]; exact e1)
                        rw [e1] at he
                        clear e1
                        go_wp2_with fail
                        refine wp_region_heldH (by kernel_rfl) hS (hD) (fun hHeld => ?_)
                        refine takes [0, 1, 2, 3, 4, 5, 6, 7, 8, 9, 10] 0 (by kernel_rfl) (by assumption) ?_
                        iterate 11 (refine tkY rfl (fun _ _ _ h => h) rfl (by ((intro w hSw); (try dsimp only at hSw); go_simp; (try with_reducible rfl))) ?_; try simp only [Act.put, List.setIfInBounds_toArray, List.set_cons_zero, List.set_cons_succ])
                        refine tkE ?_
                        refine wpAnyH_done (by kernel_rfl) ?_ _
                        have HBE := Lib.hid (HBI.out.trans (hD.mono HBI.out.size))
                        go_wp2
                        go_roundw
                        case rel =>
                          refine ⟨j + 1, by go_num, by omega, fun a ha => ?_, HBE.out⟩
                          by_cases e : a = j
                          · rw [e]; exact HQ.out
                          · exact HNJ.out a (by omega)
                        case measure => simp [intOf]; omega
                    ·
                      obtain rfl : k = j := by omega
                      have jK : ¬ (k : Int) < (k : Int) := by omega
                      have HNW := Lib.hid (wt_no HNJ.out)
                      have HM := Lib.hid (rmode_any HTI.out x.id x.key)
                      unfold idV at HM
                      obtain ⟨M, hM⟩ : ∃ M, M = modeI q x.id x.key := ⟨_, rfl⟩
                      rw [← hM] at HM
                      have HME := Lib.hid hM
                      clear hM hj hjk HNJ
                      have c0 : wr.cell? ⟨p5, 0, none⟩ = some (.string x.key) := HKI.out.cell 0
                      have c1 : wr.cell? ⟨p5, 1, none⟩ = some (.int .i64 x.id.n) := HKI.out.cell 1
                      have c2 : wr.cell? ⟨p5, 2, none⟩ = some (.int .i64 x.id.c) := HKI.out.cell 2
                      have c3 : wr.cell? ⟨p5, 3, none⟩ = some (.int .i64 x.mode) := HKI.out.cell 3
                      go_wp2_with fail
                      clear c0 c1 c2 c3 jK
                      refine HM.out.mono ?_
                      rintro e w7 ⟨rfl, hb7⟩
                      have HT7 := Lib.hid (HTI.out.below hb7)
                      have HK7 := Lib.hid (HKI.out.below hb7 HKI.out.lt)
                      have HB7 := Lib.hid (HBB.out.trans ((HBI.out.trans (hb7.mono HBI.out.size)).mono HBB.out.size))
                      clear hb7 HM HTI HKI HBI HBB HT5 HK5
                      have c0 : w7.cell? ⟨p5, 0, none⟩ = some (.string x.key) := HK7.out.cell 0
                      have c1 : w7.cell? ⟨p5, 1, none⟩ = some (.int .i64 x.id.n) := HK7.out.cell 1
                      have c2 : w7.cell? ⟨p5, 2, none⟩ = some (.int .i64 x.id.c) := HK7.out.cell 2
                      have c3 : w7.cell? ⟨p5, 3, none⟩ = some (.int .i64 x.mode) := HK7.out.cell 3
                      by_cases n0 : 0 < M
                      ·
                        have z0 : decide (0 < M) = true := decide_eq_true n0
                        by_cases n1 : M = 1
                        ·
                          have z1 : (M == 1) = true := beq_iff_eq.2 n1
                          have zd1 : decide (M = 1) = true := decide_eq_true n1
                          have zn1 : (M != 1) = false := by rw [bne, z1]; rfl
                          clear n1
                          by_cases n2 : x.mode = 2
                          ·
                            have z2 : (x.mode == 2) = true := beq_iff_eq.2 n2
                            have zd2 : decide (x.mode = 2) = true := decide_eq_true n2
                            have zn2 : (x.mode != 2) = false := by rw [bne, z2]; rfl
                            clear n2
                            have HMY := Lib.hid (rmay_any HT7.out x)
                            unfold lkV at HMY
                            have HMQ : Hid (mayR q x = (!(q.wait.any fun y => confR y x && ol y.id x.id) && !(q.held.any fun y => confR y x))) := Lib.hid rfl
                            rw [← HMQ.out] at HMY
                            cases e4 : mayR q x with
                            | true =>
                              have HR : Hid (goodB q = false) := Lib.hid (by unfold goodB; rw [HO.out, HN1.out, nb_no hlt (p := g2 q) (by rw [← HX.out]; unfold g2; rw [HNW.out, ← HME.out]; simp only [z0, zn1, zn2, e4]; rfl)]; rfl)
                              go_wp2_with fail
                              refine HMY.out.mono ?_
                              rintro e w8 ⟨he, hb8⟩
                              rw [e4] at he
                              subst he
                              have HBE := Lib.hid (HB7.out.trans (hb8.mono HB7.out.size))
                              clear hb8 e4 c0 c1 c2 c3 HMY HMQ
                              go_wp2
                              go_ret
                              exact ⟨ret_bool HR.out.symm, HBE.out⟩
                            | false =>
                              have HP : Hid (g2 q k (gr lkR q.wait k) = false) := Lib.hid (by rw [← HX.out]; unfold g2; rw [HNW.out, ← HME.out]; simp only [z0, zn1, zn2, e4]; rfl)
                              go_wp2_with fail
                              refine HMY.out.mono ?_
                              rintro e w8 ⟨he, hb8⟩
                              rw [e4] at he
                              subst he
                              have HBE := Lib.hid (HB7.out.trans (hb8.mono HB7.out.size))
                              clear hb8 e4 c0 c1 c2 c3 HMY HMQ
                              go_wp2
                              go_roundw
                              case rel => exact ⟨k + 1, by go_num, by omega, fs_on HNO.out HP.out, HBE.out⟩
                              case measure => simp [intOf]; omega
                          ·
                            have z2 : (x.mode == 2) = false := beq_eq_false_iff_ne.2 n2
                            have zd2 : decide (x.mode = 2) = false := decide_eq_false n2
                            have zn2 : (x.mode != 2) = true := by rw [bne, z2]; rfl
                            have HR : Hid (goodB q = false) := Lib.hid (by unfold goodB; rw [HO.out, HN1.out, nb_no hlt (p := g2 q) (by rw [← HX.out]; unfold g2; rw [HNW.out, ← HME.out]; simp only [z0, zn1, zn2]; rfl)]; rfl)
                            clear n2
                            go_wp2
                            go_ret
                            exact ⟨ret_bool HR.out.symm, HB7.out⟩
                        ·
                          have z1 : (M == 1) = false := beq_eq_false_iff_ne.2 n1
                          have zd1 : decide (M = 1) = false := decide_eq_false n1
                          have zn1 : (M != 1) = true := by rw [bne, z1]; rfl
                          have HR : Hid (goodB q = false) := Lib.hid (by unfold goodB; rw [HO.out, HN1.out, nb_no hlt (p := g2 q) (by rw [← HX.out]; unfold g2; rw [HNW.out, ← HME.out]; simp only [z0, zn1]; rfl)]; rfl)
                          clear n1
                          go_wp2
                          go_ret
                          exact ⟨ret_bool HR.out.symm, HB7.out⟩
                      ·
                        have z0 : decide (0 < M) = false := decide_eq_false n0
                        have HMY := Lib.hid (rmay_any HT7.out x)
                        unfold lkV at HMY
                        have HMQ : Hid (mayR q x = (!(q.wait.any fun y => confR y x && ol y.id x.id) && !(q.held.any fun y => confR y x))) := Lib.hid rfl
                        rw [← HMQ.out] at HMY
                        cases e4 : mayR q x with
                        | true =>
                          have HR : Hid (goodB q = false) := Lib.hid (by unfold goodB; rw [HO.out, HN1.out, nb_no hlt (p := g2 q) (by rw [← HX.out]; unfold g2; rw [HNW.out, ← HME.out]; simp only [z0, e4]; rfl)]; rfl)
                          go_wp2_with fail
                          refine HMY.out.mono ?_
                          rintro e w8 ⟨he, hb8⟩
                          rw [e4] at he
                          subst he
                          have HBE := Lib.hid (HB7.out.trans (hb8.mono HB7.out.size))
                          clear hb8 e4 c0 c1 c2 c3 HMY HMQ
                          go_wp2
                          go_ret
                          exact ⟨ret_bool HR.out.symm, HBE.out⟩
                        | false =>
                          have HP : Hid (g2 q k (gr lkR q.wait k) = false) := Lib.hid (by rw [← HX.out]; unfold g2; rw [HNW.out, ← HME.out]; simp only [z0, e4]; rfl)
                          go_wp2_with fail
                          refine HMY.out.mono ?_
                          rintro e w8 ⟨he, hb8⟩
                          rw [e4] at he
                          subst he
                          have HBE := Lib.hid (HB7.out.trans (hb8.mono HB7.out.size))
                          clear hb8 e4 c0 c1 c2 c3 HMY HMQ
                          go_wp2
                          go_roundw
                          case rel => exact ⟨k + 1, by go_num, by omega, fs_on HNO.out HP.out, HBE.out⟩
                          case measure => simp [intOf]; omega
                ·
                  have HN2 : Hid (nb lkR q.wait (g2 q) = true) := Lib.hid (nb_yes (k := k) (by omega) HNO.out)
                  have kU : ¬ (k : Int) < (q.wait.length : Int) := by omega
                  have HED := Lib.hid (redges_any HT.out HGD.out)
                  go_wp2_with fail
                  refine HED.out.mono ?_
                  clear HED y1
                  rintro e w6 ⟨o, rfl, Ae, ce, rfl, hoe, hfe, hbe⟩
                  have hel : (edges q).length ≤ 1000000 := by
                    have h1 := eds_len q.held q.wait
                    rw [edges_eq]
                    have h4 := HT.out.fh
                    have h3 : q.wait.length * q.held.length ≤ 1000 * 1000 := Nat.mul_le_mul (by omega) (by omega)
                    omega
                  obtain ⟨ES, hES⟩ : ∃ ES, ES = edges q := ⟨_, rfl⟩
                  rw [← hES] at hoe hel
                  rw [← hES]
                  have HT6 := Lib.hid (HT.out.below hbe)
                  have HB6 := Lib.hid (HBR.out.trans (hbe.mono HBR.out.size))
                  have HRE := Lib.hid (Reads.of_own hoe)
                  have HES := Lib.hid hES
                  clear hoe hfe hbe hES HT HBR HNO hk hlt kU
                  go_wp2
                  go_loopw [9] (FsRel edR ES (g5 q) (fun _ wr => Below w6.heap.size w6 wr)) (fun i _ => ES.length - (intOf i).toNat)
                  case atStart => exact ⟨0, rfl, Nat.zero_le _, fun j hj => by omega, Below.refl _ _⟩
                  case round =>
                    obtain ⟨k, rfl, hk, hno, hb⟩ := hrel
                    have HNO := Lib.hid hno
                    have HBR := Lib.hid hb
                    have HT := Lib.hid (HT6.out.below hb)
                    clear hno hb
                    by_cases hlt : k < ES.length
                    ·
                      obtain ⟨b, off, hA, _, a0, a1, a2, a3, a4⟩ := rdEy (HRE.out.below HBR.out) hlt
                      rw [hA]
                      obtain ⟨x, hx⟩ : ∃ x, x = gr edR ES k := ⟨_, rfl⟩
                      rw [← hx] at a0 a1 a2 a3 a4
                      have HX := Lib.hid hx
                      have kL : (0 : Int) ≤ (k : Int) := by omega
                      have kU : (k : Int) < (ES.length : Int) := by omega
                      clear hx
                      have HRI := Lib.hid (right_any HT.out x)
                      unfold edV at HRI
                      cases e1 : rightB q x with
                      | false =>
                        have HR : Hid (goodB q = false) := Lib.hid (by unfold goodB; rw [HO.out, HN1.out, HN2.out, ← HES.out, nb_no hlt (p := g5 q) (by rw [← HX.out]; unfold g5; rw [e1]; rfl)]; rfl)
                        go_wp2_with fail
                        refine HRI.out.mono ?_
                        rintro e w7 ⟨he, hb7⟩
                        rw [e1] at he
                        subst he
                        have HBE := Lib.hid (HBR.out.trans (hb7.mono HBR.out.size))
                        clear hb7 e1 a0 a1 a2 a3 a4
                        go_wp2
                        go_ret
                        exact ⟨ret_bool HR.out.symm, HB6.out.trans (HBE.out.mono HB6.out.size)⟩
                      | true =>
                        have HP : Hid (g5 q k (gr edR ES k) = false) := Lib.hid (by rw [← HX.out]; unfold g5; rw [e1]; rfl)
                        go_wp2_with fail
                        refine HRI.out.mono ?_
                        rintro e w7 ⟨he, hb7⟩
                        rw [e1] at he
                        subst he
                        have HBE := Lib.hid (HBR.out.trans (hb7.mono HBR.out.size))
                        clear hb7 e1 a0 a1 a2 a3 a4
                        go_wp2
                        go_roundw
                        case rel => exact ⟨k + 1, by go_num, by omega, fs_on HNO.out HP.out, HBE.out⟩
                        case measure => simp [intOf]; omega
                    ·
                      have kU : ¬ (k : Int) < (ES.length : Int) := by omega
                      have HR : Hid (goodB q = true) := Lib.hid (by unfold goodB; rw [HO.out, HN1.out, HN2.out, ← HES.out, nb_yes (k := k) (by omega) HNO.out]; rfl)
                      go_wp2
                      go_ret
                      exact ⟨ret_bool HR.out.symm, HB6.out.trans (HBR.out.mono HB6.out.size)⟩
set_option maxHeartbeats 16000000 in
set_option maxRecDepth 100000 in
theorem marked_any {w : World} {g : Nat} {q : Tb} {m : TbM} (h : RfAt w g q m) : Calls Tryz.prog 34 #[.pointer (some ⟨g, 0, none⟩)] w (BoolIs (markB q) w) := by
  have HH := Lib.hid h
  have hfm := h.fm
  clear h
  go_enter Tryz.func34, Tryz.ntmps34
  go_wp2
  go_loopw [3] (FsRel idR q.prep (m1 q) (fun _ wr => Below w.heap.size w wr)) (fun i _ => q.prep.length - (intOf i).toNat)
  case atStart => exact ⟨0, rfl, Nat.zero_le _, fun j hj => by omega, Below.refl _ _⟩
  case round =>
    obtain ⟨k, rfl, hk, hno, hb⟩ := hrel
    have HNO := Lib.hid hno
    have HBR := Lib.hid hb
    have HT := Lib.hid (HH.out.below hb)
    clear hno hb
    have y1 := HT.out.c3
    by_cases hlt : k < q.prep.length
    · 
      obtain ⟨b, off, hA, _, a0, a1⟩ := rdI (Reads.of_own HT.out.op) hlt
      try rw [hA]
      obtain ⟨x, hx⟩ : ∃ x, x = gr idR q.prep k := ⟨_, rfl⟩
      rw [← hx] at a0 a1
      have HX := Lib.hid hx
      clear hx
      have kL : (0 : Int) ≤ (k : Int) := by omega
      have kU : (k : Int) < (q.prep.length : Int) := by omega
      have HW := Lib.hid (rwaits_any HT.out x)
      unfold idV WantEnds lkV at HW
      obtain ⟨z, hz⟩ : ∃ z, z = (wantsL q x).getD zeroL := ⟨_, rfl⟩
      obtain ⟨v, hv⟩ : ∃ v, v = (wantsL q x).isSome := ⟨_, rfl⟩
      rw [← hz, ← hv] at HW
      have HV := Lib.hid hv
      clear hz hv
      go_wp2_with fail
      refine HW.out.mono ?_
      clear HW
      rintro e w4 ⟨rfl, hb4⟩
      have HB4 := Lib.hid hb4
      clear hb4 a0 a1 y1
      have HBW := Lib.hid (below_alloc w4 (.cells #[.string z.key, .int .i64 z.id.n, .int .i64 z.id.c, .int .i64 z.mode] 62))
      go_upto_region 5 with fail
      obtain ⟨w5, hw5⟩ : ∃ w5, w5 = w4.alloc (.cells #[.string z.key, .int .i64 z.id.n, .int .i64 z.id.c, .int .i64 z.mode] 62) := ⟨_, rfl⟩
      rw [← hw5]
      rw [← hw5] at HBW
      have HB5 : Hid (Below wr.heap.size wr w5) := Lib.hid (HB4.out.trans (HBW.out.mono HB4.out.size))
      have HBR5 := Lib.hid (HBR.out.trans (HB5.out.mono HBR.out.size))
      have HT5 := Lib.hid (HT.out.below HB5.out)
      clear hw5 HB4 HBW
      have hS : Hid (∀ w', Below w5.heap.size w5 w' → (w'.cell? ⟨g, 3, none⟩ = some (.slice m.ap q.prep.length m.cp) ∧ w'.cell? ⟨g, 4, none⟩ = some (.slice m.au q.hurt.length m.cu) ∧ w'.cell? ⟨b, off + k * 2, none⟩ = some (.int .i64 x.n) ∧ w'.cell? ⟨b, off + k * 2 + 1, none⟩ = some (.int .i64 x.c))) := Lib.hid (fun w' hb => by
        obtain ⟨b1, off1, hA1, _, c0, c1⟩ := rdI (Reads.of_own (HT5.out.below hb).op) hlt
        rw [hA] at hA1
        injection hA1 with hA1
        injection hA1 with e1 e2
        subst e1 e2
        rw [← HX.out] at c0 c1
        exact ⟨(HT5.out.below hb).c3, (HT5.out.below hb).c4, c0, c1⟩)
      have hD : Below w5.heap.size w5 w5.drew := below_drewN (Below.refl _ _) 1
      have HC1 := Lib.hid (fun W (hb : Below w5.heap.size w5 W) => has_any m.au m.cu q.hurt x W (Reads.of_own (HT5.out.below hb).ou) hfm.2)
      have HC2 := Lib.hid (fun W (hb : Below w5.heap.size w5 W) => known_any (HT5.out.below hb) x)
      unfold idV BoolIs at HC1 HC2
      cases e1 : hasI q.hurt x with
      | true =>
        have HR : Hid (markB q = false) := Lib.hid (by unfold markB; rw [nb_no hlt (p := m1 q) (by rw [← HX.out]; unfold m1; rw [e1]; rfl)]; rfl)
        go_wp2_with fail
        refine wp_region_heldH (by kernel_rfl) hS (hD) (fun hHeld => ?_)
        refine takes [0, 1, 2, 3, 4, 5, 6, 7, 8, 9, 10] 16 (by kernel_rfl) (by assumption) ?_
        iterate 11 (refine tkY rfl (fun _ _ _ h => h) rfl (by ((intro w hSw); (try dsimp only at hSw); go_simp; (try with_reducible rfl))) ?_; try simp only [Act.put, List.setIfInBounds_toArray, List.set_cons_zero, List.set_cons_succ])
        refine tkE ?_
        refine wpAnyH_ready (rs := [11]) (by kernel_rfl) (by simp) ?_
        refine readyC rfl (fun K hK => ?_) ?_
        ·
          go_simp
          go_at_call 49
          refine (HC1.out _ hD).mono ?_
          rintro e w6 ⟨he, hb_⟩
          rw [e1] at he
          subst he
          have HB_w6 := Lib.hid (hD.trans (hb_.mono hD.size))
          clear hb_
          go_wp2_with fail
          refine hK.out _ _ (by with_reducible exact hS.out _ HB_w6.out) (fun hHeld => ?_)
          clear hK K
          try simp only [Act.put, List.setIfInBounds_toArray, List.set_cons_zero, List.set_cons_succ]
          refine takes [12, 13, 14, 15, 16, 17, 18, 19, 20, 21, 22, 23, 24, 25, 26] 0 (by kernel_rfl) (by assumption) ?_
          refine tkY rfl (fun _ _ _ h => h) rfl (by ((intro w hSw); (try dsimp only at hSw); go_simp; (try with_reducible rfl))) ?_; try simp only [Act.put, List.setIfInBounds_toArray, List.set_cons_zero, List.set_cons_succ]
          refine tkN rfl (fun _ _ _ h => h) rfl ?_; try simp only [Act.put, List.setIfInBounds_toArray, List.set_cons_zero, List.set_cons_succ]
          iterate 2 (refine tkY rfl (fun _ _ _ h => h) rfl (by ((intro w hSw); (try dsimp only at hSw); go_simp; (try with_reducible rfl))) ?_; try simp only [Act.put, List.setIfInBounds_toArray, List.set_cons_zero, List.set_cons_succ])
          iterate 10 (refine tkN rfl (fun _ _ _ h => h) rfl ?_; try simp only [Act.put, List.setIfInBounds_toArray, List.set_cons_zero, List.set_cons_succ])
          refine tkY rfl (fun _ _ _ h => h) rfl (by ((intro w hSw); (try dsimp only at hSw); go_simp; (try with_reducible rfl))) ?_; try simp only [Act.put, List.setIfInBounds_toArray, List.set_cons_zero, List.set_cons_succ]
          refine tkE ?_
          refine wpAnyH_done (by kernel_rfl) ?_ _
          have HBE := Lib.hid (HBR5.out.trans (HB_w6.out.mono HBR5.out.size))
          go_wp2
          go_ret
          exact ⟨ret_bool HR.out.symm, HBE.out⟩
        exact AllReadyH.nil
      | false =>
        cases e2 : v with
        | true =>
          have HR : Hid (markB q = false) := Lib.hid (by unfold markB; rw [nb_no hlt (p := m1 q) (by rw [← HX.out]; unfold m1; rw [e1, ← HV.out, e2]; rfl)]; rfl)
          clear HV
          subst e2
          go_wp2_with fail
          refine wp_region_heldH (by kernel_rfl) hS (hD) (fun hHeld => ?_)
          refine takes [0, 1, 2, 3, 4, 5, 6, 7, 8, 9, 10] 16 (by kernel_rfl) (by assumption) ?_
          iterate 11 (refine tkY rfl (fun _ _ _ h => h) rfl (by ((intro w hSw); (try dsimp only at hSw); go_simp; (try with_reducible rfl))) ?_; try simp only [Act.put, List.setIfInBounds_toArray, List.set_cons_zero, List.set_cons_succ])
          refine tkE ?_
          refine wpAnyH_ready (rs := [11]) (by kernel_rfl) (by simp) ?_
          refine readyC rfl (fun K hK => ?_) ?_
          ·
            go_simp
            go_at_call 49
            refine (HC1.out _ hD).mono ?_
            rintro e w6 ⟨he, hb_⟩
            rw [e1] at he
            subst he
            have HB_w6 := Lib.hid (hD.trans (hb_.mono hD.size))
            clear hb_
            go_wp2_with fail
            refine hK.out _ _ (by with_reducible exact hS.out _ HB_w6.out) (fun hHeld => ?_)
            clear hK K
            try simp only [Act.put, List.setIfInBounds_toArray, List.set_cons_zero, List.set_cons_succ]
            refine takes [12, 13, 14, 15, 16, 17, 18, 19, 20, 21, 22, 23, 24, 25, 26] 0 (by kernel_rfl) (by assumption) ?_
            iterate 4 (refine tkY rfl (fun _ _ _ h => h) rfl (by ((intro w hSw); (try dsimp only at hSw); go_simp; (try with_reducible rfl))) ?_; try simp only [Act.put, List.setIfInBounds_toArray, List.set_cons_zero, List.set_cons_succ])
            iterate 10 (refine tkN rfl (fun _ _ _ h => h) rfl ?_; try simp only [Act.put, List.setIfInBounds_toArray, List.set_cons_zero, List.set_cons_succ])
            refine tkY rfl (fun _ _ _ h => h) rfl (by ((intro w hSw); (try dsimp only at hSw); go_simp; (try with_reducible rfl))) ?_; try simp only [Act.put, List.setIfInBounds_toArray, List.set_cons_zero, List.set_cons_succ]
            refine tkE ?_
            refine wpAnyH_done (by kernel_rfl) ?_ _
            have HBE := Lib.hid (HBR5.out.trans (HB_w6.out.mono HBR5.out.size))
            go_wp2
            go_ret
            exact ⟨ret_bool HR.out.symm, HBE.out⟩
          exact AllReadyH.nil
        | false =>
          cases e3 : knownB q x with
          | false =>
            have HR : Hid (markB q = false) := Lib.hid (by unfold markB; rw [nb_no hlt (p := m1 q) (by rw [← HX.out]; unfold m1; rw [e1, ← HV.out, e2, e3]; rfl)]; rfl)
            clear HV
            subst e2
            go_wp2_with fail
            refine wp_region_heldH (by kernel_rfl) hS (hD) (fun hHeld => ?_)
            refine takes [0, 1, 2, 3, 4, 5, 6, 7, 8, 9, 10] 16 (by kernel_rfl) (by assumption) ?_
            iterate 11 (refine tkY rfl (fun _ _ _ h => h) rfl (by ((intro w hSw); (try dsimp only at hSw); go_simp; (try with_reducible rfl))) ?_; try simp only [Act.put, List.setIfInBounds_toArray, List.set_cons_zero, List.set_cons_succ])
            refine tkE ?_
            refine wpAnyH_ready (rs := [11]) (by kernel_rfl) (by simp) ?_
            refine readyC rfl (fun K hK => ?_) ?_
            ·
              go_simp
              go_at_call 49
              refine (HC1.out _ hD).mono ?_
              rintro e w6 ⟨he, hb_⟩
              rw [e1] at he
              subst he
              have HB_w6 := Lib.hid (hD.trans (hb_.mono hD.size))
              clear hb_
              go_wp2_with fail
              refine hK.out _ _ (by with_reducible exact hS.out _ HB_w6.out) (fun hHeld => ?_)
              clear hK K
              try simp only [Act.put, List.setIfInBounds_toArray, List.set_cons_zero, List.set_cons_succ]
              refine takes [12, 13, 14, 15, 16, 17, 18, 19, 20, 21, 22, 23] 3 (by kernel_rfl) (by assumption) ?_
              iterate 12 (refine tkY rfl (fun _ _ _ h => h) rfl (by ((intro w hSw); (try dsimp only at hSw); go_simp; (try with_reducible rfl))) ?_; try simp only [Act.put, List.setIfInBounds_toArray, List.set_cons_zero, List.set_cons_succ])
              refine tkE ?_
              refine wpAnyH_ready (rs := [24]) (by kernel_rfl) (by simp) ?_
              refine readyC rfl (fun K hK => ?_) ?_
              ·
                go_simp
                go_at_call 78
                refine (HC2.out _ HB_w6.out).mono ?_
                rintro e w7 ⟨he, hb_⟩
                rw [e3] at he
                subst he
                have HB_w7 := Lib.hid (HB_w6.out.trans (hb_.mono HB_w6.out.size))
                clear hb_
                go_wp2_with fail
                refine hK.out _ _ (by with_reducible exact hS.out _ HB_w7.out) (fun hHeld => ?_)
                clear hK K
                try simp only [Act.put, List.setIfInBounds_toArray, List.set_cons_zero, List.set_cons_succ]
                refine takes [25, 26] 0 (by kernel_rfl) (by assumption) ?_
                iterate 2 (refine tkY rfl (fun _ _ _ h => h) rfl (by ((intro w hSw); (try dsimp only at hSw); go_simp; (try with_reducible rfl))) ?_; try simp only [Act.put, List.setIfInBounds_toArray, List.set_cons_zero, List.set_cons_succ])
                refine tkE ?_
                refine wpAnyH_done (by kernel_rfl) ?_ _
                have HBE := Lib.hid (HBR5.out.trans (HB_w7.out.mono HBR5.out.size))
                go_wp2
                go_ret
                exact ⟨ret_bool HR.out.symm, HBE.out⟩
              exact AllReadyH.nil
            exact AllReadyH.nil
          | true =>
            have HP : Hid (m1 q k (gr idR q.prep k) = false) := Lib.hid (by rw [← HX.out]; unfold m1; rw [e1, ← HV.out, e2, e3]; rfl)
            clear HV
            subst e2
            go_wp2_with fail
            refine wp_region_heldH (by kernel_rfl) hS (hD) (fun hHeld => ?_)
            refine takes [0, 1, 2, 3, 4, 5, 6, 7, 8, 9, 10] 16 (by kernel_rfl) (by assumption) ?_
            iterate 11 (refine tkY rfl (fun _ _ _ h => h) rfl (by ((intro w hSw); (try dsimp only at hSw); go_simp; (try with_reducible rfl))) ?_; try simp only [Act.put, List.setIfInBounds_toArray, List.set_cons_zero, List.set_cons_succ])
            refine tkE ?_
            refine wpAnyH_ready (rs := [11]) (by kernel_rfl) (by simp) ?_
            refine readyC rfl (fun K hK => ?_) ?_
            ·
              go_simp
              go_at_call 49
              refine (HC1.out _ hD).mono ?_
              rintro e w6 ⟨he, hb_⟩
              rw [e1] at he
              subst he
              have HB_w6 := Lib.hid (hD.trans (hb_.mono hD.size))
              clear hb_
              go_wp2_with fail
              refine hK.out _ _ (by with_reducible exact hS.out _ HB_w6.out) (fun hHeld => ?_)
              clear hK K
              try simp only [Act.put, List.setIfInBounds_toArray, List.set_cons_zero, List.set_cons_succ]
              refine takes [12, 13, 14, 15, 16, 17, 18, 19, 20, 21, 22, 23] 3 (by kernel_rfl) (by assumption) ?_
              iterate 12 (refine tkY rfl (fun _ _ _ h => h) rfl (by ((intro w hSw); (try dsimp only at hSw); go_simp; (try with_reducible rfl))) ?_; try simp only [Act.put, List.setIfInBounds_toArray, List.set_cons_zero, List.set_cons_succ])
              refine tkE ?_
              refine wpAnyH_ready (rs := [24]) (by kernel_rfl) (by simp) ?_
              refine readyC rfl (fun K hK => ?_) ?_
              ·
                go_simp
                go_at_call 78
                refine (HC2.out _ HB_w6.out).mono ?_
                rintro e w7 ⟨he, hb_⟩
                rw [e3] at he
                subst he
                have HB_w7 := Lib.hid (HB_w6.out.trans (hb_.mono HB_w6.out.size))
                clear hb_
                go_wp2_with fail
                refine hK.out _ _ (by with_reducible exact hS.out _ HB_w7.out) (fun hHeld => ?_)
                clear hK K
                try simp only [Act.put, List.setIfInBounds_toArray, List.set_cons_zero, List.set_cons_succ]
                refine takes [25, 26] 0 (by kernel_rfl) (by assumption) ?_
                iterate 2 (refine tkY rfl (fun _ _ _ h => h) rfl (by ((intro w hSw); (try dsimp only at hSw); go_simp; (try with_reducible rfl))) ?_; try simp only [Act.put, List.setIfInBounds_toArray, List.set_cons_zero, List.set_cons_succ])
                refine tkE ?_
                refine wpAnyH_done (by kernel_rfl) ?_ _
                have HBE := Lib.hid (HBR5.out.trans (HB_w7.out.mono HBR5.out.size))
                go_wp2
                go_roundw
                case rel => exact ⟨k + 1, by go_num, by omega, fs_on HNO.out HP.out, HBE.out⟩
                case measure => simp [intOf]; omega
              exact AllReadyH.nil
            exact AllReadyH.nil
    · have HN1 : Hid (nb idR q.prep (m1 q) = true) := Lib.hid (nb_yes (k := k) (by omega) HNO.out)
      have kU : ¬ (k : Int) < (q.prep.length : Int) := by omega
      go_wp2
      clear kU y1
      go_loopw [6] (FsRel idR q.hurt (m2 q) (fun _ wr => Below w.heap.size w wr)) (fun i _ => q.hurt.length - (intOf i).toNat)
      case atStart => exact ⟨0, rfl, Nat.zero_le _, fun j hj => by omega, HBR.out⟩
      case round =>
        clear HNO HT hk hlt HBR
        obtain ⟨k, rfl, hk, hno, hb⟩ := hrel
        have HNO := Lib.hid hno
        have HBR := Lib.hid hb
        have HT := Lib.hid (HH.out.below hb)
        clear hno hb
        have y1 := HT.out.c4
        by_cases hlt : k < q.hurt.length
        · 
          obtain ⟨b, off, hA, _, a0, a1⟩ := rdI (Reads.of_own HT.out.ou) hlt
          try rw [hA]
          obtain ⟨x, hx⟩ : ∃ x, x = gr idR q.hurt k := ⟨_, rfl⟩
          rw [← hx] at a0 a1
          have HX := Lib.hid hx
          clear hx
          have kL : (0 : Int) ≤ (k : Int) := by omega
          have kU : (k : Int) < (q.hurt.length : Int) := by omega
          have HC2 := Lib.hid (known_any HT.out x)
          unfold idV BoolIs at HC2
          cases e3 : knownB q x with
          | false =>
            have HR : Hid (markB q = false) := Lib.hid (by unfold markB; rw [HN1.out, nb_no hlt (p := m2 q) (by rw [← HX.out]; unfold m2; rw [e3]; rfl)]; rfl)
            go_wp2_with fail
            refine HC2.out.mono ?_
            rintro e w6 ⟨he, hb6⟩
            rw [e3] at he
            subst he
            have HBE := Lib.hid (HBR.out.trans (hb6.mono HBR.out.size))
            clear hb6 e3 a0 a1 y1
            go_wp2
            go_ret
            exact ⟨ret_bool HR.out.symm, HBE.out⟩
          | true =>
            have HP : Hid (m2 q k (gr idR q.hurt k) = false) := Lib.hid (by rw [← HX.out]; unfold m2; rw [e3]; rfl)
            go_wp2_with fail
            refine HC2.out.mono ?_
            rintro e w6 ⟨he, hb6⟩
            rw [e3] at he
            subst he
            have HBE := Lib.hid (HBR.out.trans (hb6.mono HBR.out.size))
            clear hb6 e3 a0 a1 y1
            go_wp2
            go_roundw
            case rel => exact ⟨k + 1, by go_num, by omega, fs_on HNO.out HP.out, HBE.out⟩
            case measure => simp [intOf]; omega
        · have HR : Hid (markB q = true) := Lib.hid (by unfold markB; rw [HN1.out, nb_yes (k := k) (by omega) HNO.out]; rfl)
          have kU : ¬ (k : Int) < (q.hurt.length : Int) := by omega
          go_wp2
          go_ret
          exact ⟨ret_bool HR.out.symm, HBR.out⟩
end Go.Proofs.YtpidpdbjjdkhoaaGreat
