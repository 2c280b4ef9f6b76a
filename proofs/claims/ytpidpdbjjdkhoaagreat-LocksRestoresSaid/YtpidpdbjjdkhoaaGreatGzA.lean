/- Locks, the reference: rows that grow; Without, drop, With. -/
import Derived.Test.YtpidpdbjjdkhoaaGreatLlB
namespace Go.Proofs.YtpidpdbjjdkhoaaGreat
open Go.RowKit
set_option linter.unusedSimpArgs false
set_option linter.unusedVariables false
attribute [local go_sem ↓] Go.wp_at_zero Go.wp_at_succ

theorem Src.of1 {P : Program} {α : Type} {R : RowT α} {w : World} {tx e' : TypeId} (hk : P.underlying tx = some (.slice e')) (x : α) (t : TypeId) :
    Src P R.sz tx (.slice (some ⟨w.heap.size, 0, none⟩) 1 1) 1 (R.cells x) (w.alloc (.cells (R.cells x).toArray t)) :=
  Src.ofSlice (P := P) _ hk _ 1 1 (R.cells x) (by rw [R.len, Nat.one_mul]) (fun j u hu => by
    rw [Addr.add_lit, Nat.zero_add]
    exact ((Blk.new w t (R.cells x).toArray).cell j).trans (by simpa using hu)) (R.one x)
/-- a row of the call's own, that lies in memory newer than w -/
def OutAt {α : Type} (R : RowT α) (t : TypeId) (w : World) (E : List α) (o : Value) (wr : World) : Prop :=
  ∃ A c, o = .slice A E.length c ∧ wr.ownsRow 0 t R.sz (.slice A E.length c) E.length (rc R E) ∧ (∀ x ∈ ob A, w.heap.size ≤ x) ∧ Below w.heap.size w wr
section
variable {α : Type} {R : RowT α} {t : TypeId} {w wr w3 : World} {E : List α} {o : Value}
theorem OutAt.none_ (w : World) : OutAt R t w [] (.slice none 0 0) w := ⟨none, 0, rfl, World.ownsRow_nil _ _ _ _, by simp [ob], Below.refl _ _⟩
theorem OutAt.bel (h : OutAt R t w E o wr) : Below w.heap.size w wr := h.choose_spec.choose_spec.2.2.2
theorem OutAt.below (h : OutAt R t w E o wr) (hb : Below wr.heap.size wr w3) : OutAt R t w E o w3 := by
  obtain ⟨A, c, h1, h2, h3, h4⟩ := h
  exact ⟨A, c, h1, (Kept.of_below (S := []) hb).own h2 (by simp), h3, h4.trans (hb.mono h4.size)⟩
theorem OutAt.app {A A3 : Option Addr} {k3 : Nat} {x : α} {ob_ : Obj} (hf : ∀ x ∈ ob A, w.heap.size ≤ x) (hb : Below w.heap.size w wr)
    (hown : w3.ownsRow 0 t R.sz (.slice A3 (E.length + 1) k3) (E.length + 1) (rc R (E ++ [x]))) (hk : Kept (ob A) (wr.alloc ob_) w3) (hf3 : ∀ k ∈ ob A3, k ∈ ob A ∨ (wr.alloc ob_).heap.size ≤ k) :
    OutAt R t w (E ++ [x]) (.slice A3 (E.length + 1) k3) w3 := by
  have hl : E.length + 1 = (E ++ [x]).length := by simp
  rw [hl] at hown ⊢
  refine ⟨A3, k3, rfl, hown, fun k hk' => ?_, hb.trans (hk.of_alloc.below hb.size hf)⟩
  rcases hf3 k hk' with h | h
  · exact hf k h
  · simp at h
    have := hb.size
    omega
end
/-- a call's answer: a new row, and nothing else is changed -/
def NewRow {α : Type} (R : RowT α) (t : TypeId) (E : List α) (w : World) (e : Ending) (w' : World) : Prop := ∃ o, e = .returned o ∧ OutAt R t w E o w'
theorem OutAt.from {α : Type} {R : RowT α} {t : TypeId} {w w2 wr : World} {E : List α} {o : Value} (h : OutAt R t w2 E o wr) (hb : Below w.heap.size w w2) : OutAt R t w E o wr := by
  obtain ⟨A, c, h1, h2, h3, h4⟩ := h
  exact ⟨A, c, h1, h2, fun x hx => Nat.le_trans hb.size (h3 x hx), hb.trans (h4.mono hb.size)⟩
def GoRel {α β : Type} (R : RowT β) (t : TypeId) (l : List α) (f : List α → List β) (w : World) (o i : Value) (wr : World) : Prop := ∃ k : Nat, i = .int .i64 k ∧ k ≤ l.length ∧ OutAt R t w (f (l.take k)) o wr
/-- a list without an element -/
def noX {α : Type} [DecidableEq α] (x : α) (l : List α) : List α := l.filter fun z => decide (z ≠ x)
theorem ne_on {α : Type} [DecidableEq α] {l : List α} {x y : α} {k : Nat} (h : l[k]? = some y) : noX x (l.take (k + 1)) = noX x (l.take k) ++ if y = x then [] else [y] := by
  unfold noX
  rw [take_on h, List.filter_append]
  by_cases e : y = x
  · rw [if_pos e, e]; simp
  · rw [if_neg e]; simp [e]
theorem filter_len' {α : Type} [DecidableEq α] (x : α) (l : List α) (k : Nat) : (noX x (l.take k)).length ≤ l.length := by
  unfold noX
  refine Nat.le_trans (List.length_filter_le _ _) ?_
  rw [List.length_take]; omega
set_option maxHeartbeats 4000000 in
set_option maxRecDepth 100000 in
theorem rwithout_any (A : Option Addr) (c : Nat) (l : List Idn) (x : Idn) (w : World) (hr : Reads w w.heap.size 2 A l.length (rc idR l)) (hl : l.length ≤ 2000000) :
    Calls Tryz.prog 61 #[.slice A l.length c, idV x] w (NewRow idR 29 (noX x l) w) := by
  obtain ⟨i0, hi0, hz0, hy0, hx0⟩ := info_parts Tryz.infoId
  have HR := Lib.hid hr
  have HE := Lib.hid (fun y => run_neI y x)
  clear hr
  unfold idV
  go_enter Tryz.func61, Tryz.ntmps61
  go_upto_region 1 with fail
  have k1 := Blk.new w 29 #[.int .i64 x.n, .int .i64 x.c]
  have HB := Lib.hid (below_alloc w (.cells #[.int .i64 x.n, .int .i64 x.c] 29))
  obtain ⟨w2, hw2⟩ : ∃ w2, w2 = (w.alloc (.cells #[.int .i64 x.n, .int .i64 x.c] 29)) := ⟨_, rfl⟩
  obtain ⟨p1, hp1⟩ : ∃ p1, p1 = w.heap.size := ⟨_, rfl⟩
  rw [← hw2] at HB k1
  rw [← hp1] at k1
  rw [← hw2]
  rw [← hp1]
  clear hw2 hp1
  have HK1 := Lib.hid k1
  have HRR := Lib.hid ((HR.out.below HB.out).more HB.out.size)
  have H0 : Hid (OutAt idR 29 w2 ([] : List Idn) (.slice none 0 0) w2) := Lib.hid (OutAt.none_ w2)
  clear k1
  go_wp2
  go_loopw [5, 6] (GoRel idR 29 l (noX x) w2) (fun _ i _ => l.length - (intOf i).toNat)
  case atStart => exact ⟨0, rfl, Nat.zero_le _, H0.out⟩
  case round =>
    clear H0
    obtain ⟨k, rfl, hk, A1, c1, rfl, ho, hf, hb⟩ := hrel
    have HO := Lib.hid ho
    have HF := Lib.hid hf
    have HBR := Lib.hid hb
    clear ho hf hb
    by_cases hlt : k < l.length
    · have hlen := filter_len' x l k
      obtain ⟨b, off, rfl, _, a0, a1⟩ := rdI HRR.out hlt
      have HGY : Hid (l[k]? = some (gr idR l k)) := Lib.hid (gr_get hlt)
      obtain ⟨y, hy⟩ : ∃ y, y = gr idR l k := ⟨_, rfl⟩
      rw [← hy] at a0 a1 HGY
      have HY := Lib.hid hy
      have HON := Lib.hid (ne_on (x := x) HGY.out)
      obtain ⟨E, hE⟩ : ∃ E, E = noX x (l.take k) := ⟨_, rfl⟩
      rw [← hE] at HO HON hlen
      rw [← hE]
      have kL : (0 : Int) ≤ (k : Int) := by omega
      have kU : (k : Int) < (l.length : Int) := by omega
      have he := HE.out y
      have hS : Hid (∀ w', Below wr.heap.size wr w' → (w'.cell? ⟨b, off + k * 2, none⟩ = some (.int .i64 y.n) ∧ w'.cell? ⟨b, off + k * 2 + 1, none⟩ = some (.int .i64 y.c) ∧ w'.cell? ⟨p1, 0, none⟩ = some (.int .i64 x.n) ∧ w'.cell? ⟨p1, 1, none⟩ = some (.int .i64 x.c))) := Lib.hid (fun w' hb => by
        have hbb := HBR.out.trans (hb.mono HBR.out.size)
        obtain ⟨b', off', hA', _, b0, b1⟩ := rdI (HRR.out.below hbb) hlt
        injection hA' with hA'
        injection hA' with e1 e2
        rw [← e1, ← e2, ← HY.out] at b0 b1
        exact ⟨b0, b1, (HK1.out.below hbb HK1.out.lt).cell 0, (HK1.out.below hbb HK1.out.lt).cell 1⟩)
      have hD : Below wr.heap.size wr wr.drew := below_drewN (Below.refl _ _) 1
      clear hy hE a0 a1
      cases hq : eqI y x with
      | true =>
        rw [hq] at he
        have HX : Hid (noX x (l.take (k + 1)) = E) := Lib.hid (by rw [HON.out, if_pos (eqI_iff.1 hq)]; simp)
        clear hq HON
        go_wp2_with fail
        refine wp_region_heldH (by kernel_rfl) hS (hD) (fun hHeld => ?_)
        refine takes [0, 1, 2, 3, 4, 5] 0 (by kernel_rfl) (by assumption) ?_
        iterate 6 (refine tkY rfl (fun _ _ _ h => h) rfl (by ((intro w hSw); (try dsimp only at hSw); go_simp; (try with_reducible rfl))) ?_; try simp only [Act.put, List.setIfInBounds_toArray, List.set_cons_zero, List.set_cons_succ])
        refine tkE ?_
        refine wpAnyH_done (by kernel_rfl) ?_ _
        go_wp2
        go_roundw
        case rel =>
          refine ⟨k + 1, by go_num, by omega, ?_⟩
          show OutAt _ _ _ (noX x (l.take (k + 1))) _ _
          rw [HX.out]
          exact OutAt.below ⟨A1, c1, rfl, HO.out, HF.out, HBR.out⟩ hD
        case measure => simp [intOf]; omega
      | false =>
        rw [hq] at he
        have HX : Hid (noX x (l.take (k + 1)) = E ++ [y]) := Lib.hid (by rw [HON.out, if_neg (fun h => by rw [eqI_iff.2 h] at hq; cases hq)])
        have HOD := Lib.hid ((Kept.of_below (S := []) hD).own HO.out (by simp))
        have HBD := Lib.hid (HBR.out.trans (hD.mono HBR.out.size))
        clear hq HON
        have HSD := Lib.hid (hS.out wr.drew hD)
        go_wp2_with fail
        refine wp_region_heldH (by kernel_rfl) hS (hD) (fun hHeld => ?_)
        refine takes [0, 1, 2, 3, 4, 5] 0 (by kernel_rfl) (by assumption) ?_
        iterate 6 (refine tkY rfl (fun _ _ _ h => h) rfl (by ((intro w hSw); (try dsimp only at hSw); go_simp; (try with_reducible rfl))) ?_; try simp only [Act.put, List.setIfInBounds_toArray, List.set_cons_zero, List.set_cons_succ])
        refine tkE ?_
        refine wpAnyH_done (by kernel_rfl) ?_ _
        obtain ⟨wd, hnm⟩ : ∃ wd : World, wd = wr.drew := ⟨_, rfl⟩
        rw [← hnm] at HOD HBD HSD ⊢
        clear hnm
        obtain ⟨a0, a1, _⟩ := HSD.out
        clear hD
        go_wp2_with (at_builtin; refine wpList_app rfl (.tmp 19) (.tmp 24) 36 36 rfl 29 i0 _ 2 16 Tryz.underlying36 hi0 hz0 hy0 hx0 rfl (by omega) A1 E.length c1 (rc idR E) rfl (HOD.out.alloc _) _ 1 (idR.cells y) rfl (Src.of1 (R := idR) Tryz.underlying36 y 29) (by simp only [maxLen]; omega) (by omega) ?_; intro A3 k3 w3 hown3 hk3 hf3; rw [rc_snoc] at hown3)
        have HN := Lib.hid (OutAt.app HF.out HBD.out hown3 hk3 hf3)
        clear hown3 hk3 hf3 a0 a1
        go_roundw
        case rel =>
          refine ⟨k + 1, by go_num, by omega, ?_⟩
          show OutAt _ _ _ (noX x (l.take (k + 1))) _ _
          rw [HX.out]
          exact HN.out
        case measure => simp [intOf]; omega
    · have kU : ¬ (k : Int) < (l.length : Int) := by omega
      have HN : Hid (OutAt idR 29 w (noX x l) (.slice A1 (noX x (l.take k)).length c1) wr) := Lib.hid (by
        have h : OutAt idR 29 w2 (noX x (l.take k)) (.slice A1 (noX x (l.take k)).length c1) wr := ⟨A1, c1, rfl, HO.out, HF.out, HBR.out⟩
        rw [List.take_of_length_le (show l.length ≤ k by omega)] at h ⊢
        exact h.from HB.out)
      go_wp2
      go_ret
      exact ⟨_, rfl, HN.out⟩
set_option maxHeartbeats 4000000 in
set_option maxRecDepth 100000 in
theorem rdrop_any (A : Option Addr) (c : Nat) (l : List Lk) (x : Lk) (w : World) (hr : Reads w w.heap.size 4 A l.length (rc lkR l)) (hl : l.length ≤ 2000000) :
    Calls Tryz.prog 62 #[.slice A l.length c, lkV x] w (NewRow lkR 62 (noX x l) w) := by
  obtain ⟨i0, hi0, hz0, hy0, hx0⟩ := info_parts Tryz.infoLk
  have HR := Lib.hid hr
  have HE := Lib.hid (fun y => run_neL y x)
  clear hr
  unfold lkV
  go_enter Tryz.func62, Tryz.ntmps62
  go_upto_region 1 with fail
  have k1 := Blk.new w 62 #[.string x.key, .int .i64 x.id.n, .int .i64 x.id.c, .int .i64 x.mode]
  have HB := Lib.hid (below_alloc w (.cells #[.string x.key, .int .i64 x.id.n, .int .i64 x.id.c, .int .i64 x.mode] 62))
  obtain ⟨w2, hw2⟩ : ∃ w2, w2 = (w.alloc (.cells #[.string x.key, .int .i64 x.id.n, .int .i64 x.id.c, .int .i64 x.mode] 62)) := ⟨_, rfl⟩
  obtain ⟨p1, hp1⟩ : ∃ p1, p1 = w.heap.size := ⟨_, rfl⟩
  rw [← hw2] at HB k1
  rw [← hp1] at k1
  rw [← hw2]
  rw [← hp1]
  clear hw2 hp1
  have HK1 := Lib.hid k1
  have HRR := Lib.hid ((HR.out.below HB.out).more HB.out.size)
  have H0 : Hid (OutAt lkR 62 w2 ([] : List Lk) (.slice none 0 0) w2) := Lib.hid (OutAt.none_ w2)
  clear k1
  go_wp2
  go_loopw [5, 6] (GoRel lkR 62 l (noX x) w2) (fun _ i _ => l.length - (intOf i).toNat)
  case atStart => exact ⟨0, rfl, Nat.zero_le _, H0.out⟩
  case round =>
    clear H0
    obtain ⟨k, rfl, hk, A1, c1, rfl, ho, hf, hb⟩ := hrel
    have HO := Lib.hid ho
    have HF := Lib.hid hf
    have HBR := Lib.hid hb
    clear ho hf hb
    by_cases hlt : k < l.length
    · have hlen := filter_len' x l k
      obtain ⟨b, off, rfl, _, a0, a1, a2, a3⟩ := rdL HRR.out hlt
      have HGY : Hid (l[k]? = some (gr lkR l k)) := Lib.hid (gr_get hlt)
      obtain ⟨y, hy⟩ : ∃ y, y = gr lkR l k := ⟨_, rfl⟩
      rw [← hy] at a0 a1 a2 a3 HGY
      have HY := Lib.hid hy
      have HON := Lib.hid (ne_on (x := x) HGY.out)
      obtain ⟨E, hE⟩ : ∃ E, E = noX x (l.take k) := ⟨_, rfl⟩
      rw [← hE] at HO HON hlen
      rw [← hE]
      have kL : (0 : Int) ≤ (k : Int) := by omega
      have kU : (k : Int) < (l.length : Int) := by omega
      have he := HE.out y
      have hS : Hid (∀ w', Below wr.heap.size wr w' → (w'.cell? ⟨b, off + k * 4, none⟩ = some (.string y.key) ∧ w'.cell? ⟨b, off + k * 4 + 1, none⟩ = some (.int .i64 y.id.n) ∧ w'.cell? ⟨b, off + k * 4 + 2, none⟩ = some (.int .i64 y.id.c) ∧ w'.cell? ⟨b, off + k * 4 + 3, none⟩ = some (.int .i64 y.mode) ∧ w'.cell? ⟨p1, 0, none⟩ = some (.string x.key) ∧ w'.cell? ⟨p1, 1, none⟩ = some (.int .i64 x.id.n) ∧ w'.cell? ⟨p1, 2, none⟩ = some (.int .i64 x.id.c) ∧ w'.cell? ⟨p1, 3, none⟩ = some (.int .i64 x.mode))) := Lib.hid (fun w' hb => by
        have hbb := HBR.out.trans (hb.mono HBR.out.size)
        obtain ⟨b', off', hA', _, b0, b1, b2, b3⟩ := rdL (HRR.out.below hbb) hlt
        injection hA' with hA'
        injection hA' with e1 e2
        rw [← e1, ← e2, ← HY.out] at b0 b1 b2 b3
        exact ⟨b0, b1, b2, b3, (HK1.out.below hbb HK1.out.lt).cell 0, (HK1.out.below hbb HK1.out.lt).cell 1, (HK1.out.below hbb HK1.out.lt).cell 2, (HK1.out.below hbb HK1.out.lt).cell 3⟩)
      have hD : Below wr.heap.size wr wr.drew := below_drewN (Below.refl _ _) 1
      clear hy hE a0 a1 a2 a3
      cases hq : eqL y x with
      | true =>
        rw [hq] at he
        have HX : Hid (noX x (l.take (k + 1)) = E) := Lib.hid (by rw [HON.out, if_pos (eqL_iff.1 hq)]; simp)
        clear hq HON
        go_wp2_with fail
        refine wp_region_heldH (by kernel_rfl) hS (hD) (fun hHeld => ?_)
        refine takes [0, 1, 2, 3, 4, 5] 0 (by kernel_rfl) (by assumption) ?_
        iterate 6 (refine tkY rfl (fun _ _ _ h => h) rfl (by ((intro w hSw); (try dsimp only at hSw); go_simp; (try with_reducible rfl))) ?_; try simp only [Act.put, List.setIfInBounds_toArray, List.set_cons_zero, List.set_cons_succ])
        refine tkE ?_
        refine wpAnyH_done (by kernel_rfl) ?_ _
        go_wp2
        go_roundw
        case rel =>
          refine ⟨k + 1, by go_num, by omega, ?_⟩
          show OutAt _ _ _ (noX x (l.take (k + 1))) _ _
          rw [HX.out]
          exact OutAt.below ⟨A1, c1, rfl, HO.out, HF.out, HBR.out⟩ hD
        case measure => simp [intOf]; omega
      | false =>
        rw [hq] at he
        have HX : Hid (noX x (l.take (k + 1)) = E ++ [y]) := Lib.hid (by rw [HON.out, if_neg (fun h => by rw [eqL_iff.2 h] at hq; cases hq)])
        have HOD := Lib.hid ((Kept.of_below (S := []) hD).own HO.out (by simp))
        have HBD := Lib.hid (HBR.out.trans (hD.mono HBR.out.size))
        clear hq HON
        have HSD := Lib.hid (hS.out wr.drew hD)
        go_wp2_with fail
        refine wp_region_heldH (by kernel_rfl) hS (hD) (fun hHeld => ?_)
        refine takes [0, 1, 2, 3, 4, 5] 0 (by kernel_rfl) (by assumption) ?_
        iterate 6 (refine tkY rfl (fun _ _ _ h => h) rfl (by ((intro w hSw); (try dsimp only at hSw); go_simp; (try with_reducible rfl))) ?_; try simp only [Act.put, List.setIfInBounds_toArray, List.set_cons_zero, List.set_cons_succ])
        refine tkE ?_
        refine wpAnyH_done (by kernel_rfl) ?_ _
        obtain ⟨wd, hnm⟩ : ∃ wd : World, wd = wr.drew := ⟨_, rfl⟩
        rw [← hnm] at HOD HBD HSD ⊢
        clear hnm
        obtain ⟨a0, a1, a2, a3, _⟩ := HSD.out
        clear hD
        go_wp2_with (at_builtin; refine wpList_app rfl (.tmp 19) (.tmp 24) 34 34 rfl 62 i0 _ 4 40 Tryz.underlying34 hi0 hz0 hy0 hx0 rfl (by omega) A1 E.length c1 (rc lkR E) rfl (HOD.out.alloc _) _ 1 (lkR.cells y) rfl (Src.of1 (R := lkR) Tryz.underlying34 y 62) (by simp only [maxLen]; omega) (by omega) ?_; intro A3 k3 w3 hown3 hk3 hf3; rw [rc_snoc] at hown3)
        have HN := Lib.hid (OutAt.app HF.out HBD.out hown3 hk3 hf3)
        clear hown3 hk3 hf3 a0 a1 a2 a3
        go_roundw
        case rel =>
          refine ⟨k + 1, by go_num, by omega, ?_⟩
          show OutAt _ _ _ (noX x (l.take (k + 1))) _ _
          rw [HX.out]
          exact HN.out
        case measure => simp [intOf]; omega
    · have kU : ¬ (k : Int) < (l.length : Int) := by omega
      have HN : Hid (OutAt lkR 62 w (noX x l) (.slice A1 (noX x (l.take k)).length c1) wr) := Lib.hid (by
        have h : OutAt lkR 62 w2 (noX x (l.take k)) (.slice A1 (noX x (l.take k)).length c1) wr := ⟨A1, c1, rfl, HO.out, HF.out, HBR.out⟩
        rw [List.take_of_length_le (show l.length ≤ k by omega)] at h ⊢
        exact h.from HB.out)
      go_wp2
      go_ret
      exact ⟨_, rfl, HN.out⟩
end Go.Proofs.YtpidpdbjjdkhoaaGreat
