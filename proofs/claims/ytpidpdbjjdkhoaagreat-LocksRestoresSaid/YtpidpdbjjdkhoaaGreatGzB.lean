/- Locks, the reference: Ahead, With, put. -/
import Derived.Test.YtpidpdbjjdkhoaaGreatGzA
namespace Go.Proofs.YtpidpdbjjdkhoaaGreat
open Go.RowKit
set_option linter.unusedSimpArgs false
set_option linter.unusedVariables false
attribute [local go_sem ↓] Go.wp_at_zero Go.wp_at_succ

theorem ah_key {x y : Lk} (h : (x.key.toList == y.key.toList) = false) : ah x y = bl x.key y.key := by
  have hk : x.key ≠ y.key := fun e => by rw [e] at h; simp at h
  unfold ah
  rw [decide_eq_false hk]; simp
theorem ah_id {x y : Lk} (h : (x.key.toList == y.key.toList) = true) : ah x y = ol x.id y.id := by
  have hk : x.key = y.key := toList_inj (by simpa using h)
  unfold ah
  rw [hk, bl_self]; simp
set_option maxHeartbeats 4000000 in
theorem rahead_any (x y : Lk) (w : World) : Calls Tryz.prog 90 #[lkV x, lkV y] w (BoolIs (ah x y) w) := by
  have HOL := Lib.hid (fun w => rolder_any x.id y.id w)
  unfold idV at HOL
  cases hk : (x.key.toList == y.key.toList) with
  | false =>
    have HR := Lib.hid (ah_key hk)
    unfold bl at HR
    have hkn : (x.key.toList != y.key.toList) = true := by unfold bne; rw [hk]; rfl
    unfold lkV
    go_enter Tryz.func90, Tryz.ntmps90
    go_upto_region 1 with fail
    have k1 := (Blk.new w 62 #[.string x.key, .int .i64 x.id.n, .int .i64 x.id.c, .int .i64 x.mode]).alloc (.cells #[.string y.key, .int .i64 y.id.n, .int .i64 y.id.c, .int .i64 y.mode] 62)
    have k2 := Blk.new (w.alloc (.cells #[.string x.key, .int .i64 x.id.n, .int .i64 x.id.c, .int .i64 x.mode] 62)) 62 #[.string y.key, .int .i64 y.id.n, .int .i64 y.id.c, .int .i64 y.mode]
    simp only [World.size_alloc] at k2
    have HB := Lib.hid ((below_alloc w (.cells #[.string x.key, .int .i64 x.id.n, .int .i64 x.id.c, .int .i64 x.mode] 62)).alloc (by simp) (.cells #[.string y.key, .int .i64 y.id.n, .int .i64 y.id.c, .int .i64 y.mode] 62))
    obtain ⟨w2, hw2⟩ : ∃ w2, w2 = ((w.alloc (.cells #[.string x.key, .int .i64 x.id.n, .int .i64 x.id.c, .int .i64 x.mode] 62)).alloc (.cells #[.string y.key, .int .i64 y.id.n, .int .i64 y.id.c, .int .i64 y.mode] 62)) := ⟨_, rfl⟩
    obtain ⟨p1, hp1⟩ : ∃ p1, p1 = w.heap.size := ⟨_, rfl⟩
    obtain ⟨p2, hp2⟩ : ∃ p2, p2 = w.heap.size + 1 := ⟨_, rfl⟩
    rw [← hw2] at HB k1 k2
    rw [← hp1] at k1
    rw [← hp2] at k2
    rw [← hw2]
    rw [← hp2]
    rw [← hp1]
    clear hw2 hp1 hp2
    have x10 : w2.cell? ⟨p1, 0, none⟩ = some (.string x.key) := k1.cell 0
    have x11 : w2.cell? ⟨p1, 1, none⟩ = some (.int .i64 x.id.n) := k1.cell 1
    have x12 : w2.cell? ⟨p1, 2, none⟩ = some (.int .i64 x.id.c) := k1.cell 2
    have x13 : w2.cell? ⟨p1, 3, none⟩ = some (.int .i64 x.mode) := k1.cell 3
    have x20 : w2.cell? ⟨p2, 0, none⟩ = some (.string y.key) := k2.cell 0
    have x21 : w2.cell? ⟨p2, 1, none⟩ = some (.int .i64 y.id.n) := k2.cell 1
    have x22 : w2.cell? ⟨p2, 2, none⟩ = some (.int .i64 y.id.c) := k2.cell 2
    have x23 : w2.cell? ⟨p2, 3, none⟩ = some (.int .i64 y.mode) := k2.cell 3
    clear k1 k2
    go_wp2
    go_ret
    exact ⟨ret_bool HR.out.symm, HB.out⟩
  | true =>
    have HR := Lib.hid (ah_id hk)
    have hkn : (x.key.toList != y.key.toList) = false := by unfold bne; rw [hk]; rfl
    unfold lkV
    go_enter Tryz.func90, Tryz.ntmps90
    go_upto_region 1 with fail
    have k1 := (Blk.new w 62 #[.string x.key, .int .i64 x.id.n, .int .i64 x.id.c, .int .i64 x.mode]).alloc (.cells #[.string y.key, .int .i64 y.id.n, .int .i64 y.id.c, .int .i64 y.mode] 62)
    have k2 := Blk.new (w.alloc (.cells #[.string x.key, .int .i64 x.id.n, .int .i64 x.id.c, .int .i64 x.mode] 62)) 62 #[.string y.key, .int .i64 y.id.n, .int .i64 y.id.c, .int .i64 y.mode]
    simp only [World.size_alloc] at k2
    have HB := Lib.hid ((below_alloc w (.cells #[.string x.key, .int .i64 x.id.n, .int .i64 x.id.c, .int .i64 x.mode] 62)).alloc (by simp) (.cells #[.string y.key, .int .i64 y.id.n, .int .i64 y.id.c, .int .i64 y.mode] 62))
    obtain ⟨w2, hw2⟩ : ∃ w2, w2 = ((w.alloc (.cells #[.string x.key, .int .i64 x.id.n, .int .i64 x.id.c, .int .i64 x.mode] 62)).alloc (.cells #[.string y.key, .int .i64 y.id.n, .int .i64 y.id.c, .int .i64 y.mode] 62)) := ⟨_, rfl⟩
    obtain ⟨p1, hp1⟩ : ∃ p1, p1 = w.heap.size := ⟨_, rfl⟩
    obtain ⟨p2, hp2⟩ : ∃ p2, p2 = w.heap.size + 1 := ⟨_, rfl⟩
    rw [← hw2] at HB k1 k2
    rw [← hp1] at k1
    rw [← hp2] at k2
    rw [← hw2]
    rw [← hp2]
    rw [← hp1]
    clear hw2 hp1 hp2
    have x10 : w2.cell? ⟨p1, 0, none⟩ = some (.string x.key) := k1.cell 0
    have x11 : w2.cell? ⟨p1, 1, none⟩ = some (.int .i64 x.id.n) := k1.cell 1
    have x12 : w2.cell? ⟨p1, 2, none⟩ = some (.int .i64 x.id.c) := k1.cell 2
    have x13 : w2.cell? ⟨p1, 3, none⟩ = some (.int .i64 x.mode) := k1.cell 3
    have x20 : w2.cell? ⟨p2, 0, none⟩ = some (.string y.key) := k2.cell 0
    have x21 : w2.cell? ⟨p2, 1, none⟩ = some (.int .i64 y.id.n) := k2.cell 1
    have x22 : w2.cell? ⟨p2, 2, none⟩ = some (.int .i64 y.id.c) := k2.cell 2
    have x23 : w2.cell? ⟨p2, 3, none⟩ = some (.int .i64 y.mode) := k2.cell 3
    clear k1 k2
    go_wp2_with fail
    refine (HOL.out _).mono ?_
    rintro e w3 ⟨rfl, hb3⟩
    clear x10 x11 x12 x13 x20 x21 x22 x23
    go_wp2
    go_ret
    exact ⟨ret_bool HR.out.symm, HB.out.trans (hb3.mono HB.out.size)⟩
def withS (x : Idn) (s : List Idn × Bool) (y : Idn) : List Idn × Bool := if s.2 = false ∧ ol y x = false then ((if y = x then s.1 else s.1 ++ [x]) ++ [y], true) else (s.1 ++ [y], s.2)
def withE (x : Idn) (s : List Idn × Bool) : List Idn := if s.2 = true then s.1 else s.1 ++ [x]
theorem with_done (x : Idn) : ∀ (l pre : List Idn), l.foldl (withS x) (pre, true) = (pre ++ l, true)
  | [], pre => by simp
  | y :: l, pre => by
    rw [List.foldl_cons]
    have : withS x (pre, true) y = (pre ++ [y], true) := by simp [withS]
    rw [this, with_done x l]
    simp
theorem with_go (x : Idn) : ∀ (l pre : List Idn), withE x (l.foldl (withS x) (pre, false)) = pre ++ ins ol x l
  | [], pre => by simp [withE, ins]
  | y :: l, pre => by
    rw [List.foldl_cons]
    cases h1 : ol y x with
    | true =>
      have : withS x (pre, false) y = (pre ++ [y], false) := by simp [withS, h1]
      rw [this, with_go x l, ins_lt h1]
      simp
    | false =>
      by_cases e : y = x
      · have : withS x (pre, false) y = (pre ++ [y], true) := by simp [withS, e, ol_ord.irr]
        rw [this, with_done, ins_eq h1 (by rw [e]; exact ol_ord.irr x), e]
        simp [withE]
      · have : withS x (pre, false) y = (pre ++ [x] ++ [y], true) := by simp [withS, h1, e]
        rw [this, with_done, ins_gt h1 ((ol_or e).resolve_left (by rw [h1]; simp))]
        simp [withE]
def withF (x : Idn) (l : List Idn) : List Idn × Bool := l.foldl (withS x) ([], false)
theorem with_ins (x : Idn) (l : List Idn) : withE x (withF x l) = ins ol x l := by unfold withF; rw [with_go]; rfl
theorem with_len (x : Idn) : ∀ (l : List Idn) (s : List Idn × Bool), (l.foldl (withS x) s).1.length ≤ s.1.length + l.length + (if s.2 = true then 0 else 1)
  | [], s => by simp
  | y :: l, s => by
    rw [List.foldl_cons]
    have h := with_len x l (withS x s y)
    obtain ⟨p, d⟩ := s
    unfold withS at h ⊢
    simp only [List.length_cons] at h ⊢
    split at h
    · rename_i hc
      rw [if_pos hc]
      simp only [hc.1] at h ⊢
      split at h <;> simp_all <;> omega
    · rename_i hc
      rw [if_neg hc]
      simp at h ⊢
      cases d <;> simp_all <;> omega
def putS (x : Lk) (s : List Lk × Bool) (y : Lk) : List Lk × Bool := if y.key = x.key ∧ y.id = x.id then s else if s.2 = false ∧ ah x y = true then (s.1 ++ [x] ++ [y], true) else (s.1 ++ [y], s.2)
def putE (x : Lk) (s : List Lk × Bool) : List Lk := if s.2 = true then s.1 else s.1 ++ [x]
theorem put_done (x : Lk) : ∀ (l pre : List Lk), (∀ z ∈ l, ¬ (z.key = x.key ∧ z.id = x.id)) → l.foldl (putS x) (pre, true) = (pre ++ l, true)
  | [], pre, _ => by simp
  | y :: l, pre, h => by
    rw [List.foldl_cons]
    have : putS x (pre, true) y = (pre ++ [y], true) := by simp only [putS, if_neg (h y (List.mem_cons_self ..))]; simp
    rw [this, put_done x l _ (fun z hz => h z (List.mem_cons_of_mem _ hz))]
    simp
theorem put_go (x : Lk) : ∀ (l pre : List Lk), Srt ah l → putE x (l.foldl (putS x) (pre, false)) = pre ++ ins ah x l
  | [], pre, _ => by simp [putE, ins]
  | y :: l, pre, hs => by
    have hy := List.pairwise_cons.1 hs
    rw [List.foldl_cons]
    have hlater : ah x y = true ∨ (y.key = x.key ∧ y.id = x.id) → ∀ z ∈ l, ah x z = true ∧ ¬ (z.key = x.key ∧ z.id = x.id) := fun h z hz => by
      have hz1 := hy.1 z hz
      have h1 : ah x z = true := by
        rcases h with h | h
        · exact ah_ord.tr _ _ _ h hz1
        · exact ah_ord.lt_of_not_lt (ah_at h) hz1
      exact ⟨h1, fun e => by rw [ah_at ⟨e.1.symm, e.2.symm⟩] at h1; cases h1⟩
    by_cases e : y.key = x.key ∧ y.id = x.id
    · have : putS x (pre, false) y = (pre, false) := by unfold putS; rw [if_pos e]
      rw [this, put_go x l pre hy.2, ins_eq (ah_at e) (ah_at ⟨e.1.symm, e.2.symm⟩)]
      have hl := hlater (.inr e)
      cases l with
      | nil => simp [ins]
      | cons z l =>
        have hz := (hl z (List.mem_cons_self ..)).1
        rw [ins_gt (ah_ord.asym hz) hz]
    · cases h1 : ah y x with
      | true =>
        have hxy : ah x y = false := ah_ord.asym h1
        have : putS x (pre, false) y = (pre ++ [y], false) := by unfold putS; rw [if_neg e, hxy]; simp
        rw [this, put_go x l _ hy.2, ins_lt h1]
        simp
      | false =>
        have hxy : ah x y = true := by
          cases h2 : ah x y with
          | true => rfl
          | false => exact absurd (ah_eq h1 h2) e
        have : putS x (pre, false) y = (pre ++ [x] ++ [y], true) := by unfold putS; rw [if_neg e, hxy]; simp
        rw [this, put_done x l _ (fun z hz => (hlater (.inl hxy) z hz).2), ins_gt h1 hxy]
        simp [putE]
def putF (x : Lk) (l : List Lk) : List Lk × Bool := l.foldl (putS x) ([], false)
theorem put_ins {x : Lk} {l : List Lk} (h : Srt ah l) : putE x (putF x l) = ins ah x l := by unfold putF; rw [put_go x l [] h]; rfl
theorem put_len (x : Lk) : ∀ (l : List Lk) (s : List Lk × Bool), (l.foldl (putS x) s).1.length ≤ s.1.length + l.length + (if s.2 = true then 0 else 1)
  | [], s => by simp
  | y :: l, s => by
    rw [List.foldl_cons]
    have h := put_len x l (putS x s y)
    obtain ⟨p, d⟩ := s
    unfold putS at h ⊢
    simp only [List.length_cons] at h ⊢
    split at h
    · rename_i hc
      rw [if_pos hc]
      cases d <;> simp_all <;> omega
    · rename_i hc
      rw [if_neg hc]
      split at h
      · rename_i hd
        rw [if_pos hd]
        simp only [hd.1] at h ⊢
        simp at h ⊢
        omega
      · rename_i hd
        rw [if_neg hd]
        simp at h ⊢
        cases d <;> simp_all <;> omega
theorem fold_on {α β : Type} {f : β → α → β} {l : List α} {y : α} {k : Nat} {b : β} (h : l[k]? = some y) : (l.take (k + 1)).foldl f b = f ((l.take k).foldl f b) y := by rw [take_on h, List.foldl_append]; rfl
def DoRel {α : Type} (R : RowT α) (t : TypeId) (l : List α) (f : List α → List α × Bool) (w : World) (o d i : Value) (wr : World) : Prop := ∃ k : Nat, i = .int .i64 k ∧ k ≤ l.length ∧ d = .bool (f (l.take k)).2 ∧ OutAt R t w (f (l.take k)).1 o wr
set_option maxHeartbeats 8000000 in
set_option maxRecDepth 100000 in
theorem rwith_any (A : Option Addr) (c : Nat) (l : List Idn) (x : Idn) (w : World) (hr : Reads w w.heap.size 2 A l.length (rc idR l)) (hl : l.length ≤ 2000000) :
    Calls Tryz.prog 50 #[.slice A l.length c, idV x] w (NewRow idR 29 (ins ol x l) w) := by
  obtain ⟨i0, hi0, hz0, hy0, hx0⟩ := info_parts Tryz.infoId
  have HR := Lib.hid hr
  have HE := Lib.hid (fun y => run_neI y x)
  have HOL := Lib.hid (fun y w => rolder_any y x w)
  unfold idV at HOL
  clear hr
  unfold idV
  go_enter Tryz.func50, Tryz.ntmps50
  go_upto_region 1 with fail
  have k1 := Blk.new w 29 #[.int .i64 x.n, .int .i64 x.c]
  have HB := Lib.hid (below_alloc w (.cells #[.int .i64 x.n, .int .i64 x.c] 29))
  obtain ⟨w2, hw2⟩ : ∃ w2, w2 = (w.alloc (.cells #[.int .i64 x.n, .int .i64 x.c] 29)) := ⟨_, rfl⟩
  obtain ⟨p1, hp1⟩ : ∃ p1, p1 = w.heap.size := ⟨_, rfl⟩
  rw [← hw2] at HB k1
  rw [← hp1] at k1
  rw [← hw2]
  rw [← hp1]
  clear hw2 hp1
  have HK1 := Lib.hid k1
  have HRR := Lib.hid ((HR.out.below HB.out).more HB.out.size)
  have H0 : Hid (OutAt idR 29 w2 ([] : List Idn) (.slice none 0 0) w2) := Lib.hid (OutAt.none_ w2)
  clear k1
  go_wp2
  go_loopw [5, 6, 7] (DoRel idR 29 l (withF x) w2) (fun _ _ i _ => l.length - (intOf i).toNat)
  case atStart => exact ⟨0, rfl, Nat.zero_le _, rfl, H0.out⟩
  case round =>
    clear H0
    obtain ⟨k, rfl, hk, rfl, A1, c1, rfl, ho, hf, hb⟩ := hrel
    have HO := Lib.hid ho
    have HF := Lib.hid hf
    have HBR := Lib.hid hb
    have hlen : (withF x (l.take k)).1.length ≤ l.length + 1 := by
      have h : (withF x (l.take k)).1.length ≤ _ := with_len x (l.take k) ([], false)
      simp at h
      omega
    clear ho hf hb
    by_cases hlt : k < l.length
    · obtain ⟨b, off, rfl, _, a0, a1⟩ := rdI HRR.out hlt
      have HGY : Hid (l[k]? = some (gr idR l k)) := Lib.hid (gr_get hlt)
      obtain ⟨y, hy⟩ : ∃ y, y = gr idR l k := ⟨_, rfl⟩
      rw [← hy] at a0 a1 HGY
      have HY := Lib.hid hy
      have HON := Lib.hid (show withF x (l.take (k + 1)) = withS x (withF x (l.take k)) y from fold_on HGY.out)
      obtain ⟨st, hst⟩ : ∃ st, st = withF x (l.take k) := ⟨_, rfl⟩
      rw [← hst] at HO HON hlen
      rw [← hst]
      clear hst
      obtain ⟨E, dn⟩ := st
      simp only at HO HON hlen ⊢
      have kL : (0 : Int) ≤ (k : Int) := by omega
      have kU : (k : Int) < (l.length : Int) := by omega
      have hS : Hid (∀ w', Below w2.heap.size w2 w' → (w'.cell? ⟨b, off + k * 2, none⟩ = some (.int .i64 y.n) ∧ w'.cell? ⟨b, off + k * 2 + 1, none⟩ = some (.int .i64 y.c) ∧ w'.cell? ⟨p1, 0, none⟩ = some (.int .i64 x.n) ∧ w'.cell? ⟨p1, 1, none⟩ = some (.int .i64 x.c))) := Lib.hid (fun w' hb => by
        obtain ⟨b', off', hA', _, b0, b1⟩ := rdI (HRR.out.below hb) hlt
        injection hA' with hA'
        injection hA' with e1 e2
        rw [← e1, ← e2, ← HY.out] at b0 b1
        exact ⟨b0, b1, (HK1.out.below hb HK1.out.lt).cell 0, (HK1.out.below hb HK1.out.lt).cell 1⟩)
      clear hy a0 a1
      cases dn with
      | true =>
        have HX : Hid (withF x (l.take (k + 1)) = (E ++ [y], true)) := Lib.hid (by rw [HON.out]; rfl)
        clear HON
        have HBD : Hid (Below w2.heap.size w2 wr.drew) := Lib.hid (HBR.out.trans ((below_drewN (Below.refl wr.heap.size wr) 1).mono HBR.out.size))
        have HOD : Hid (wr.drew.ownsRow 0 29 2 (.slice A1 E.length c1) E.length (rc idR E)) := Lib.hid ((Kept.of_below (S := []) (below_drewN (Below.refl wr.heap.size wr) 1)).own HO.out (by simp))
        go_wp2_with fail
        refine wp_region_heldH (by kernel_rfl) hS (HBD.out) (fun hHeld => ?_)
        refine takes [0, 1, 2, 3, 4, 5, 6, 7, 8, 9, 10] 0 (by kernel_rfl) (by assumption) ?_
        iterate 3 (refine tkY rfl (fun _ _ _ h => h) rfl (by ((intro w hSw); (try dsimp only at hSw); go_simp; (try with_reducible rfl))) ?_; try simp only [Act.put, List.setIfInBounds_toArray, List.set_cons_zero, List.set_cons_succ])
        iterate 7 (refine tkN rfl (fun _ _ _ h => h) rfl ?_; try simp only [Act.put, List.setIfInBounds_toArray, List.set_cons_zero, List.set_cons_succ])
        refine tkY rfl (fun _ _ _ h => h) rfl (by ((intro w hSw); (try dsimp only at hSw); go_simp; (try with_reducible rfl))) ?_; try simp only [Act.put, List.setIfInBounds_toArray, List.set_cons_zero, List.set_cons_succ]
        refine tkE ?_
        refine wpAnyH_done (by kernel_rfl) ?_ _
        obtain ⟨wz, hnm⟩ : ∃ wz : World, wz = wr.drew := ⟨_, rfl⟩
        rw [← hnm] at HOD HBD ⊢
        clear hnm
        obtain ⟨a0, a1, _⟩ := hS.out wz HBD.out
        go_wp2_with (at_builtin; refine wpList_app rfl (.tmp 35) (.tmp 40) 36 36 rfl 29 i0 _ 2 16 Tryz.underlying36 hi0 hz0 hy0 hx0 rfl (by omega) A1 E.length c1 (rc idR E) rfl (HOD.out.alloc _) _ 1 (idR.cells y) rfl (Src.of1 (R := idR) Tryz.underlying36 y 29) (by simp only [maxLen]; omega) (by omega) ?_; intro A3 c3 w3 ho3 hk3 hf3; rw [rc_snoc] at ho3)
        have HN := Lib.hid (OutAt.app HF.out HBD.out ho3 hk3 hf3)
        clear ho3 hk3 hf3 a0 a1
        go_roundw
        case rel =>
          refine ⟨k + 1, by go_num, by omega, ?_, ?_⟩
          · show Value.bool true = Value.bool (withF x (l.take (k + 1))).2
            rw [HX.out]
          · show OutAt _ _ _ (withF x (l.take (k + 1))).1 _ _
            rw [HX.out]
            exact HN.out
        case measure => simp [intOf]; omega
      | false =>
        have HBD : Hid (Below w2.heap.size w2 wr.drew) := Lib.hid (HBR.out.trans ((below_drewN (Below.refl wr.heap.size wr) 1).mono HBR.out.size))
        have HC := Lib.hid (HOL.out y)
        cases hol : ol y x with
        | true =>
          have HX : Hid (withF x (l.take (k + 1)) = (E ++ [y], false)) := Lib.hid (by rw [HON.out]; simp [withS, hol])
          clear HON
          go_wp2_with fail
          refine wp_region_heldH (by kernel_rfl) hS (HBD.out) (fun hHeld => ?_)
          refine takes [0, 1, 2, 3, 4, 5, 6, 7] 3 (by kernel_rfl) (by assumption) ?_
          iterate 8 (refine tkY rfl (fun _ _ _ h => h) rfl (by ((intro w hSw); (try dsimp only at hSw); go_simp; (try with_reducible rfl))) ?_; try simp only [Act.put, List.setIfInBounds_toArray, List.set_cons_zero, List.set_cons_succ])
          refine tkE ?_
          refine wpAnyH_ready (rs := [8]) (by kernel_rfl) (by simp) ?_
          refine readyC rfl (fun K hK => ?_) ?_
          ·
            go_simp
            go_at_call 48
            refine (HC.out _).mono ?_
            rintro e w4 ⟨he, hb4⟩
            rw [hol] at he
            subst he
            have HB4 := Lib.hid (HBD.out.trans (hb4.mono HBD.out.size))
            have HO4 := Lib.hid ((Kept.of_below (S := []) ((below_drewN (Below.refl wr.heap.size wr) 1).trans (hb4.mono (Nat.le_refl _)))).own HO.out (by simp))
            clear hb4
            go_wp2_with fail
            refine hK.out _ _ (by with_reducible exact hS.out _ HB4.out) (fun hHeld => ?_)
            clear hK K
            try simp only [Act.put, List.setIfInBounds_toArray, List.set_cons_zero, List.set_cons_succ]
            refine takes [9, 10] 0 (by kernel_rfl) (by assumption) ?_
            iterate 2 (refine tkY rfl (fun _ _ _ h => h) rfl (by ((intro w hSw); (try dsimp only at hSw); go_simp; (try with_reducible rfl))) ?_; try simp only [Act.put, List.setIfInBounds_toArray, List.set_cons_zero, List.set_cons_succ])
            refine tkE ?_
            refine wpAnyH_done (by kernel_rfl) ?_ _
            obtain ⟨a0, a1, _⟩ := hS.out w4 HB4.out
            go_wp2_with (at_builtin; refine wpList_app rfl (.tmp 35) (.tmp 40) 36 36 rfl 29 i0 _ 2 16 Tryz.underlying36 hi0 hz0 hy0 hx0 rfl (by omega) A1 E.length c1 (rc idR E) rfl (HO4.out.alloc _) _ 1 (idR.cells y) rfl (Src.of1 (R := idR) Tryz.underlying36 y 29) (by simp only [maxLen]; omega) (by omega) ?_; intro A3 c3 w3 ho3 hk3 hf3; rw [rc_snoc] at ho3)
            have HN := Lib.hid (OutAt.app HF.out HB4.out ho3 hk3 hf3)
            clear ho3 hk3 hf3 a0 a1
            go_roundw
            case rel =>
              refine ⟨k + 1, by go_num, by omega, ?_, ?_⟩
              · show Value.bool false = Value.bool (withF x (l.take (k + 1))).2
                rw [HX.out]
              · show OutAt _ _ _ (withF x (l.take (k + 1))).1 _ _
                rw [HX.out]
                exact HN.out
            case measure => simp [intOf]; omega
          exact AllReadyH.nil
        | false =>
          have he := HE.out y
          cases hq : eqI y x with
          | true =>
            rw [hq] at he
            have HX : Hid (withF x (l.take (k + 1)) = (E ++ [y], true)) := Lib.hid (by rw [HON.out]; simp [withS, hol, eqI_iff.1 hq, ol_ord.irr])
            clear HON hq
            go_wp2_with fail
            refine wp_region_heldH (by kernel_rfl) hS (HBD.out) (fun hHeld => ?_)
            refine takes [0, 1, 2, 3, 4, 5, 6, 7] 3 (by kernel_rfl) (by assumption) ?_
            iterate 8 (refine tkY rfl (fun _ _ _ h => h) rfl (by ((intro w hSw); (try dsimp only at hSw); go_simp; (try with_reducible rfl))) ?_; try simp only [Act.put, List.setIfInBounds_toArray, List.set_cons_zero, List.set_cons_succ])
            refine tkE ?_
            refine wpAnyH_ready (rs := [8]) (by kernel_rfl) (by simp) ?_
            refine readyC rfl (fun K hK => ?_) ?_
            ·
              go_simp
              go_at_call 48
              refine (HC.out _).mono ?_
              rintro e w4 ⟨he, hb4⟩
              rw [hol] at he
              subst he
              have HB4 := Lib.hid (HBD.out.trans (hb4.mono HBD.out.size))
              have HO4 := Lib.hid ((Kept.of_below (S := []) ((below_drewN (Below.refl wr.heap.size wr) 1).trans (hb4.mono (Nat.le_refl _)))).own HO.out (by simp))
              clear hb4
              go_wp2_with fail
              refine hK.out _ _ (by with_reducible exact hS.out _ HB4.out) (fun hHeld => ?_)
              clear hK K
              try simp only [Act.put, List.setIfInBounds_toArray, List.set_cons_zero, List.set_cons_succ]
              refine takes [9, 10] 0 (by kernel_rfl) (by assumption) ?_
              iterate 2 (refine tkY rfl (fun _ _ _ h => h) rfl (by ((intro w hSw); (try dsimp only at hSw); go_simp; (try with_reducible rfl))) ?_; try simp only [Act.put, List.setIfInBounds_toArray, List.set_cons_zero, List.set_cons_succ])
              refine tkE ?_
              refine wpAnyH_done (by kernel_rfl) ?_ _
              have HB5 : Hid (Below w2.heap.size w2 w4.drew) := Lib.hid (HB4.out.trans ((below_drewN (Below.refl w4.heap.size w4) 1).mono HB4.out.size))
              have HO5 : Hid (w4.drew.ownsRow 0 29 2 (.slice A1 E.length c1) E.length (rc idR E)) := Lib.hid ((Kept.of_below (S := []) (below_drewN (Below.refl w4.heap.size w4) 1)).own HO4.out (by simp))
              go_wp2_with fail
              refine wp_region_heldH (by kernel_rfl) hS (HB5.out) (fun hHeld => ?_)
              refine takes [0, 1, 2, 3, 4, 5] 0 (by kernel_rfl) (by assumption) ?_
              iterate 6 (refine tkY rfl (fun _ _ _ h => h) rfl (by ((intro w hSw); (try dsimp only at hSw); go_simp; (try with_reducible rfl))) ?_; try simp only [Act.put, List.setIfInBounds_toArray, List.set_cons_zero, List.set_cons_succ])
              refine tkE ?_
              refine wpAnyH_done (by kernel_rfl) ?_ _
              obtain ⟨wz, hnm⟩ : ∃ wz : World, wz = w4.drew := ⟨_, rfl⟩
              rw [← hnm] at HO5 HB5 ⊢
              clear hnm
              obtain ⟨a0, a1, _⟩ := hS.out wz HB5.out
              go_wp2_with (at_builtin; refine wpList_app rfl (.tmp 35) (.tmp 40) 36 36 rfl 29 i0 _ 2 16 Tryz.underlying36 hi0 hz0 hy0 hx0 rfl (by omega) A1 E.length c1 (rc idR E) rfl (HO5.out.alloc _) _ 1 (idR.cells y) rfl (Src.of1 (R := idR) Tryz.underlying36 y 29) (by simp only [maxLen]; omega) (by omega) ?_; intro A3 c3 w3 ho3 hk3 hf3; rw [rc_snoc] at ho3)
              have HN := Lib.hid (OutAt.app HF.out HB5.out ho3 hk3 hf3)
              clear ho3 hk3 hf3 a0 a1
              go_roundw
              case rel =>
                refine ⟨k + 1, by go_num, by omega, ?_, ?_⟩
                · show Value.bool true = Value.bool (withF x (l.take (k + 1))).2
                  rw [HX.out]
                · show OutAt _ _ _ (withF x (l.take (k + 1))).1 _ _
                  rw [HX.out]
                  exact HN.out
              case measure => simp [intOf]; omega
            exact AllReadyH.nil
          | false =>
            rw [hq] at he
            have hyx : y ≠ x := fun h => by rw [eqI_iff.2 h] at hq; cases hq
            have HX : Hid (withF x (l.take (k + 1)) = (E ++ [x] ++ [y], true)) := Lib.hid (by rw [HON.out]; simp [withS, hol, hyx])
            clear HON hq hyx
            go_wp2_with fail
            refine wp_region_heldH (by kernel_rfl) hS (HBD.out) (fun hHeld => ?_)
            refine takes [0, 1, 2, 3, 4, 5, 6, 7] 3 (by kernel_rfl) (by assumption) ?_
            iterate 8 (refine tkY rfl (fun _ _ _ h => h) rfl (by ((intro w hSw); (try dsimp only at hSw); go_simp; (try with_reducible rfl))) ?_; try simp only [Act.put, List.setIfInBounds_toArray, List.set_cons_zero, List.set_cons_succ])
            refine tkE ?_
            refine wpAnyH_ready (rs := [8]) (by kernel_rfl) (by simp) ?_
            refine readyC rfl (fun K hK => ?_) ?_
            ·
              go_simp
              go_at_call 48
              refine (HC.out _).mono ?_
              rintro e w4 ⟨he, hb4⟩
              rw [hol] at he
              subst he
              have HB4 := Lib.hid (HBD.out.trans (hb4.mono HBD.out.size))
              have HO4 := Lib.hid ((Kept.of_below (S := []) ((below_drewN (Below.refl wr.heap.size wr) 1).trans (hb4.mono (Nat.le_refl _)))).own HO.out (by simp))
              clear hb4
              go_wp2_with fail
              refine hK.out _ _ (by with_reducible exact hS.out _ HB4.out) (fun hHeld => ?_)
              clear hK K
              try simp only [Act.put, List.setIfInBounds_toArray, List.set_cons_zero, List.set_cons_succ]
              refine takes [9, 10] 0 (by kernel_rfl) (by assumption) ?_
              iterate 2 (refine tkY rfl (fun _ _ _ h => h) rfl (by ((intro w hSw); (try dsimp only at hSw); go_simp; (try with_reducible rfl))) ?_; try simp only [Act.put, List.setIfInBounds_toArray, List.set_cons_zero, List.set_cons_succ])
              refine tkE ?_
              refine wpAnyH_done (by kernel_rfl) ?_ _
              have HB5 : Hid (Below w2.heap.size w2 w4.drew) := Lib.hid (HB4.out.trans ((below_drewN (Below.refl w4.heap.size w4) 1).mono HB4.out.size))
              have HO5 : Hid (w4.drew.ownsRow 0 29 2 (.slice A1 E.length c1) E.length (rc idR E)) := Lib.hid ((Kept.of_below (S := []) (below_drewN (Below.refl w4.heap.size w4) 1)).own HO4.out (by simp))
              go_wp2_with fail
              refine wp_region_heldH (by kernel_rfl) hS (HB5.out) (fun hHeld => ?_)
              refine takes [0, 1, 2, 3, 4, 5] 0 (by kernel_rfl) (by assumption) ?_
              iterate 6 (refine tkY rfl (fun _ _ _ h => h) rfl (by ((intro w hSw); (try dsimp only at hSw); go_simp; (try with_reducible rfl))) ?_; try simp only [Act.put, List.setIfInBounds_toArray, List.set_cons_zero, List.set_cons_succ])
              refine tkE ?_
              refine wpAnyH_done (by kernel_rfl) ?_ _
              obtain ⟨wz, hnm⟩ : ∃ wz : World, wz = w4.drew := ⟨_, rfl⟩
              rw [← hnm] at HO5 HB5 ⊢
              clear hnm
              obtain ⟨a0, a1, a2, a3⟩ := hS.out wz HB5.out
              go_upto_region 9 with (at_builtin; refine wpList_app rfl (.tmp 31) (.tmp 33) 36 36 rfl 29 i0 _ 2 16 Tryz.underlying36 hi0 hz0 hy0 hx0 rfl (by omega) A1 E.length c1 (rc idR E) rfl (HO5.out.alloc _) _ 1 (idR.cells x) rfl (Src.of1 (R := idR) Tryz.underlying36 x 29) (by simp only [maxLen]; omega) (by omega) ?_; intro A6 c6 w6 ho6 hk6 hf6; rw [rc_snoc] at ho6)
              have HN6 := OutAt.app HF.out HB5.out ho6 hk6 hf6
              clear ho6 hk6 hf6 a0 a1 a2 a3
              obtain ⟨A7, c7, he7, ho7, hf7, hb7⟩ := HN6
              rw [he7]
              have HO7 := Lib.hid ho7
              have HF7 := Lib.hid hf7
              have HB7 := Lib.hid hb7
              have hl7 : (E ++ [x]).length ≤ l.length + 2 := by simp; omega
              obtain ⟨E7, hE7⟩ : ∃ E7, E7 = E ++ [x] := ⟨_, rfl⟩
              rw [← hE7] at HO7 HX hl7
              rw [← hE7]
              clear ho7 hf7 hb7 he7 hE7
              obtain ⟨a0, a1, a2, a3⟩ := hS.out w6 HB7.out
              go_wp2_with (at_builtin; refine wpList_app rfl (.tmp 35) (.tmp 40) 36 36 rfl 29 i0 _ 2 16 Tryz.underlying36 hi0 hz0 hy0 hx0 rfl (by omega) A7 E7.length c7 (rc idR E7) rfl (HO7.out.alloc _) _ 1 (idR.cells y) rfl (Src.of1 (R := idR) Tryz.underlying36 y 29) (by simp only [maxLen]; omega) (by omega) ?_; intro A3 c3 w3 ho3 hk3 hf3; rw [rc_snoc] at ho3)
              have HN := Lib.hid (OutAt.app HF7.out HB7.out ho3 hk3 hf3)
              clear ho3 hk3 hf3 a0 a1 a2 a3
              go_roundw
              case rel =>
                refine ⟨k + 1, by go_num, by omega, ?_, ?_⟩
                · show Value.bool true = Value.bool (withF x (l.take (k + 1))).2
                  rw [HX.out]
                · show OutAt _ _ _ (withF x (l.take (k + 1))).1 _ _
                  rw [HX.out]
                  exact HN.out
              case measure => simp [intOf]; omega
            exact AllReadyH.nil
    · have kU : ¬ (k : Int) < (l.length : Int) := by omega
      have HE2 := Lib.hid (with_ins x l)
      rw [List.take_of_length_le (show l.length ≤ k by omega)] at HO hlen ⊢
      obtain ⟨st, hst⟩ : ∃ st, st = withF x l := ⟨_, rfl⟩
      rw [← hst] at HO HE2 hlen
      rw [← hst]
      clear hst
      obtain ⟨E, dn⟩ := st
      simp only at HO HE2 hlen ⊢
      cases dn with
      | true =>
        have HN : Hid (OutAt idR 29 w E (.slice A1 E.length c1) wr) := Lib.hid (OutAt.from ⟨A1, c1, rfl, HO.out, HF.out, HBR.out⟩ HB.out)
        have HX : Hid (E = _) := Lib.hid (HE2.out)
        go_wp2
        go_ret
        exact ⟨_, rfl, by rw [← HX.out]; exact HN.out⟩
      | false =>
        have HX : Hid (E ++ [x] = _) := Lib.hid (HE2.out)
        have k3 := HK1.out.below HBR.out HK1.out.lt
        have x10 : wr.cell? ⟨p1, 0, none⟩ = some (.int .i64 x.n) := k3.cell 0; have x11 : wr.cell? ⟨p1, 1, none⟩ = some (.int .i64 x.c) := k3.cell 1
        clear k3
        go_wp2_with (at_builtin; refine wpList_app rfl (.tmp 44) (.tmp 46) 36 36 rfl 29 i0 _ 2 16 Tryz.underlying36 hi0 hz0 hy0 hx0 rfl (by omega) A1 E.length c1 (rc idR E) rfl (HO.out.alloc _) _ 1 (idR.cells x) rfl (Src.of1 (R := idR) Tryz.underlying36 x 29) (by simp only [maxLen]; omega) (by omega) ?_; intro A3 c3 w3 ho3 hk3 hf3; rw [rc_snoc] at ho3)
        have HN := Lib.hid ((OutAt.app HF.out HBR.out ho3 hk3 hf3).from HB.out)
        clear ho3 hk3 hf3
        go_ret
        exact ⟨_, rfl, by rw [← HX.out]; exact HN.out⟩
set_option maxHeartbeats 8000000 in
set_option maxRecDepth 100000 in
theorem rput_any (A : Option Addr) (c : Nat) (l : List Lk) (x : Lk) (w : World) (hr : Reads w w.heap.size 4 A l.length (rc lkR l)) (hl : l.length ≤ 2000000) (hs : Srt ah l) :
    Calls Tryz.prog 52 #[.slice A l.length c, lkV x] w (NewRow lkR 62 (ins ah x l) w) := by
  obtain ⟨i0, hi0, hz0, hy0, hx0⟩ := info_parts Tryz.infoLk
  have HR := Lib.hid hr
  have HE := Lib.hid (fun y : Lk => run_eqI y.id x.id)
  have HOL := Lib.hid (fun y w => rahead_any x y w)
  unfold lkV at HOL
  have HPI := Lib.hid (put_ins (x := x) hs)
  clear hs
  clear hr
  unfold lkV
  go_enter Tryz.func52, Tryz.ntmps52
  go_upto_region 1 with fail
  have k1 := Blk.new w 62 #[.string x.key, .int .i64 x.id.n, .int .i64 x.id.c, .int .i64 x.mode]
  have HB := Lib.hid (below_alloc w (.cells #[.string x.key, .int .i64 x.id.n, .int .i64 x.id.c, .int .i64 x.mode] 62))
  obtain ⟨w2, hw2⟩ : ∃ w2, w2 = (w.alloc (.cells #[.string x.key, .int .i64 x.id.n, .int .i64 x.id.c, .int .i64 x.mode] 62)) := ⟨_, rfl⟩
  obtain ⟨p1, hp1⟩ : ∃ p1, p1 = w.heap.size := ⟨_, rfl⟩
  rw [← hw2] at HB k1
  rw [← hp1] at k1
  rw [← hw2]
  rw [← hp1]
  clear hw2 hp1
  have HK1 := Lib.hid k1
  have HRR := Lib.hid ((HR.out.below HB.out).more HB.out.size)
  have H0 : Hid (OutAt lkR 62 w2 ([] : List Lk) (.slice none 0 0) w2) := Lib.hid (OutAt.none_ w2)
  clear k1
  go_wp2
  go_loopw [5, 6, 7] (DoRel lkR 62 l (putF x) w2) (fun _ _ i _ => l.length - (intOf i).toNat)
  case atStart => exact ⟨0, rfl, Nat.zero_le _, rfl, H0.out⟩
  case round =>
    clear H0
    obtain ⟨k, rfl, hk, rfl, A1, c1, rfl, ho, hf, hb⟩ := hrel
    have HO := Lib.hid ho
    have HF := Lib.hid hf
    have HBR := Lib.hid hb
    have hlen : (putF x (l.take k)).1.length ≤ l.length + 1 := by
      have h : (putF x (l.take k)).1.length ≤ _ := put_len x (l.take k) ([], false)
      simp at h
      omega
    clear ho hf hb
    by_cases hlt : k < l.length
    · obtain ⟨b, off, rfl, _, a0, a1, a2, a3⟩ := rdL HRR.out hlt
      have HGY : Hid (l[k]? = some (gr lkR l k)) := Lib.hid (gr_get hlt)
      obtain ⟨y, hy⟩ : ∃ y, y = gr lkR l k := ⟨_, rfl⟩
      rw [← hy] at a0 a1 a2 a3 HGY
      have HY := Lib.hid hy
      have HON := Lib.hid (show putF x (l.take (k + 1)) = putS x (putF x (l.take k)) y from fold_on HGY.out)
      obtain ⟨st, hst⟩ : ∃ st, st = putF x (l.take k) := ⟨_, rfl⟩
      rw [← hst] at HO HON hlen
      rw [← hst]
      clear hst
      obtain ⟨E, dn⟩ := st
      simp only at HO HON hlen ⊢
      have kL : (0 : Int) ≤ (k : Int) := by omega
      have kU : (k : Int) < (l.length : Int) := by omega
      have hS : Hid (∀ w', Below w2.heap.size w2 w' → (w'.cell? ⟨b, off + k * 4, none⟩ = some (.string y.key) ∧ w'.cell? ⟨b, off + k * 4 + 1, none⟩ = some (.int .i64 y.id.n) ∧ w'.cell? ⟨b, off + k * 4 + 2, none⟩ = some (.int .i64 y.id.c) ∧ w'.cell? ⟨b, off + k * 4 + 3, none⟩ = some (.int .i64 y.mode) ∧ w'.cell? ⟨p1, 0, none⟩ = some (.string x.key) ∧ w'.cell? ⟨p1, 1, none⟩ = some (.int .i64 x.id.n) ∧ w'.cell? ⟨p1, 2, none⟩ = some (.int .i64 x.id.c) ∧ w'.cell? ⟨p1, 3, none⟩ = some (.int .i64 x.mode))) := Lib.hid (fun w' hb => by
        obtain ⟨b', off', hA', _, b0, b1, b2, b3⟩ := rdL (HRR.out.below hb) hlt
        injection hA' with hA'
        injection hA' with e1 e2
        rw [← e1, ← e2, ← HY.out] at b0 b1 b2 b3
        exact ⟨b0, b1, b2, b3, (HK1.out.below hb HK1.out.lt).cell 0, (HK1.out.below hb HK1.out.lt).cell 1, (HK1.out.below hb HK1.out.lt).cell 2, (HK1.out.below hb HK1.out.lt).cell 3⟩)
      clear hy a0 a1 a2 a3
      have HBD : Hid (Below w2.heap.size w2 wr.drew) := Lib.hid (HBR.out.trans ((below_drewN (Below.refl wr.heap.size wr) 1).mono HBR.out.size))
      have HOD : Hid (wr.drew.ownsRow 0 62 4 (.slice A1 E.length c1) E.length (rc lkR E)) := Lib.hid ((Kept.of_below (S := []) (below_drewN (Below.refl wr.heap.size wr) 1)).own HO.out (by simp))
      have he := HE.out y
      cases hky : (y.key.toList == x.key.toList) with
      | false =>
        have hne : ¬ (y.key = x.key ∧ y.id = x.id) := fun h => by rw [h.1] at hky; simp at hky
        clear he
        cases dn with
        | true =>
          have HX : Hid (putF x (l.take (k + 1)) = (E ++ [y], true)) := Lib.hid (by rw [HON.out]; unfold putS; rw [if_neg hne]; simp)
          clear HON
          clear hne
          go_wp2_with fail
          refine wp_region_heldH (by kernel_rfl) hS (HBD.out) (fun hHeld => ?_)
          refine takes [0, 1, 2, 3, 4, 5, 6, 7, 8, 9, 10, 11, 12, 13, 14, 15, 16, 17] 0 (by kernel_rfl) (by assumption) ?_
          iterate 9 (refine tkY rfl (fun _ _ _ h => h) rfl (by ((intro w hSw); (try dsimp only at hSw); go_simp; (try with_reducible rfl))) ?_; try simp only [Act.put, List.setIfInBounds_toArray, List.set_cons_zero, List.set_cons_succ])
          iterate 8 (refine tkN rfl (fun _ _ _ h => h) rfl ?_; try simp only [Act.put, List.setIfInBounds_toArray, List.set_cons_zero, List.set_cons_succ])
          refine tkY rfl (fun _ _ _ h => h) rfl (by ((intro w hSw); (try dsimp only at hSw); go_simp; (try with_reducible rfl))) ?_; try simp only [Act.put, List.setIfInBounds_toArray, List.set_cons_zero, List.set_cons_succ]
          refine tkE ?_
          refine wpAnyH_done (by kernel_rfl) ?_ _
          obtain ⟨wd, hnm⟩ : ∃ wd : World, wd = wr.drew := ⟨_, rfl⟩
          rw [← hnm] at HOD HBD ⊢
          clear hnm
          have HB5 : Hid (Below w2.heap.size w2 wd.drew) := Lib.hid (HBD.out.trans ((below_drewN (Below.refl wd.heap.size wd) 1).mono HBD.out.size))
          have HO5 : Hid (wd.drew.ownsRow 0 62 4 (.slice A1 E.length c1) E.length (rc lkR E)) := Lib.hid ((Kept.of_below (S := []) (below_drewN (Below.refl wd.heap.size wd) 1)).own HOD.out (by simp))
          go_wp2_with fail
          refine wp_region_heldH (by kernel_rfl) hS (HB5.out) (fun hHeld => ?_)
          refine takes [0, 1, 2, 3, 4, 5, 6, 7, 8, 9] 0 (by kernel_rfl) (by assumption) ?_
          iterate 3 (refine tkY rfl (fun _ _ _ h => h) rfl (by ((intro w hSw); (try dsimp only at hSw); go_simp; (try with_reducible rfl))) ?_; try simp only [Act.put, List.setIfInBounds_toArray, List.set_cons_zero, List.set_cons_succ])
          iterate 6 (refine tkN rfl (fun _ _ _ h => h) rfl ?_; try simp only [Act.put, List.setIfInBounds_toArray, List.set_cons_zero, List.set_cons_succ])
          refine tkY rfl (fun _ _ _ h => h) rfl (by ((intro w hSw); (try dsimp only at hSw); go_simp; (try with_reducible rfl))) ?_; try simp only [Act.put, List.setIfInBounds_toArray, List.set_cons_zero, List.set_cons_succ]
          refine tkE ?_
          refine wpAnyH_done (by kernel_rfl) ?_ _
          obtain ⟨wz, hnm⟩ : ∃ wz : World, wz = wd.drew := ⟨_, rfl⟩
          rw [← hnm] at HO5 HB5 ⊢
          clear hnm
          obtain ⟨a0, a1, a2, a3, _⟩ := hS.out wz HB5.out
          go_wp2_with (at_builtin; refine wpList_app rfl (.tmp 46) (.tmp 51) 34 34 rfl 62 i0 _ 4 40 Tryz.underlying34 hi0 hz0 hy0 hx0 rfl (by omega) A1 E.length c1 (rc lkR E) rfl (HO5.out.alloc _) _ 1 (lkR.cells y) rfl (Src.of1 (R := lkR) Tryz.underlying34 y 62) (by simp only [maxLen]; omega) (by omega) ?_; intro A3 c3 w3 ho3 hk3 hf3; rw [rc_snoc] at ho3)
          have HN := Lib.hid (OutAt.app HF.out HB5.out ho3 hk3 hf3)
          clear ho3 hk3 hf3 a0 a1 a2 a3
          go_roundw
          case rel =>
            refine ⟨k + 1, by go_num, by omega, ?_, ?_⟩
            · show Value.bool true = Value.bool (putF x (l.take (k + 1))).2
              rw [HX.out]
            · show OutAt _ _ _ (putF x (l.take (k + 1))).1 _ _
              rw [HX.out]
              exact HN.out
          case measure => simp [intOf]; omega
        | false =>
          have HC := Lib.hid (HOL.out y)
          cases hol : ah x y with
          | false =>
            have HX : Hid (putF x (l.take (k + 1)) = (E ++ [y], false)) := Lib.hid (by rw [HON.out]; unfold putS; rw [if_neg hne, hol]; simp)
            clear HON
            clear hne
            go_wp2_with fail
            refine wp_region_heldH (by kernel_rfl) hS (HBD.out) (fun hHeld => ?_)
            refine takes [0, 1, 2, 3, 4, 5, 6, 7, 8, 9, 10, 11, 12, 13, 14, 15, 16, 17] 0 (by kernel_rfl) (by assumption) ?_
            iterate 9 (refine tkY rfl (fun _ _ _ h => h) rfl (by ((intro w hSw); (try dsimp only at hSw); go_simp; (try with_reducible rfl))) ?_; try simp only [Act.put, List.setIfInBounds_toArray, List.set_cons_zero, List.set_cons_succ])
            iterate 8 (refine tkN rfl (fun _ _ _ h => h) rfl ?_; try simp only [Act.put, List.setIfInBounds_toArray, List.set_cons_zero, List.set_cons_succ])
            refine tkY rfl (fun _ _ _ h => h) rfl (by ((intro w hSw); (try dsimp only at hSw); go_simp; (try with_reducible rfl))) ?_; try simp only [Act.put, List.setIfInBounds_toArray, List.set_cons_zero, List.set_cons_succ]
            refine tkE ?_
            refine wpAnyH_done (by kernel_rfl) ?_ _
            obtain ⟨wd, hnm⟩ : ∃ wd : World, wd = wr.drew := ⟨_, rfl⟩
            rw [← hnm] at HOD HBD ⊢
            clear hnm
            have HB5 : Hid (Below w2.heap.size w2 wd.drew) := Lib.hid (HBD.out.trans ((below_drewN (Below.refl wd.heap.size wd) 1).mono HBD.out.size))
            have HO5 : Hid (wd.drew.ownsRow 0 62 4 (.slice A1 E.length c1) E.length (rc lkR E)) := Lib.hid ((Kept.of_below (S := []) (below_drewN (Below.refl wd.heap.size wd) 1)).own HOD.out (by simp))
            go_wp2_with fail
            refine wp_region_heldH (by kernel_rfl) hS (HB5.out) (fun hHeld => ?_)
            refine takes [0, 1, 2, 3, 4, 5, 6, 7] 2 (by kernel_rfl) (by assumption) ?_
            iterate 8 (refine tkY rfl (fun _ _ _ h => h) rfl (by ((intro w hSw); (try dsimp only at hSw); go_simp; (try with_reducible rfl))) ?_; try simp only [Act.put, List.setIfInBounds_toArray, List.set_cons_zero, List.set_cons_succ])
            refine tkE ?_
            refine wpAnyH_ready (rs := [8]) (by kernel_rfl) (by simp) ?_
            refine readyC rfl (fun K hK => ?_) ?_
            ·
              go_simp
              go_at_call 90
              refine (HC.out _).mono ?_
              rintro e w4 ⟨he4, hb4⟩
              rw [hol] at he4
              subst he4
              have HB4 := Lib.hid (HB5.out.trans (hb4.mono HB5.out.size))
              have HO4 := Lib.hid ((Kept.of_below (S := []) hb4).own HO5.out (by simp))
              clear hb4
              go_wp2_with fail
              refine hK.out _ _ (by with_reducible exact hS.out _ HB4.out) (fun hHeld => ?_)
              clear hK K
              try simp only [Act.put, List.setIfInBounds_toArray, List.set_cons_zero, List.set_cons_succ]
              refine takes [9] 0 (by kernel_rfl) (by assumption) ?_
              refine tkY rfl (fun _ _ _ h => h) rfl (by ((intro w hSw); (try dsimp only at hSw); go_simp; (try with_reducible rfl))) ?_; try simp only [Act.put, List.setIfInBounds_toArray, List.set_cons_zero, List.set_cons_succ]
              refine tkE ?_
              refine wpAnyH_done (by kernel_rfl) ?_ _
              obtain ⟨a0, a1, a2, a3, _⟩ := hS.out w4 HB4.out
              go_wp2_with (at_builtin; refine wpList_app rfl (.tmp 46) (.tmp 51) 34 34 rfl 62 i0 _ 4 40 Tryz.underlying34 hi0 hz0 hy0 hx0 rfl (by omega) A1 E.length c1 (rc lkR E) rfl (HO4.out.alloc _) _ 1 (lkR.cells y) rfl (Src.of1 (R := lkR) Tryz.underlying34 y 62) (by simp only [maxLen]; omega) (by omega) ?_; intro A3 c3 w3 ho3 hk3 hf3; rw [rc_snoc] at ho3)
              have HN := Lib.hid (OutAt.app HF.out HB4.out ho3 hk3 hf3)
              clear ho3 hk3 hf3 a0 a1 a2 a3
              go_roundw
              case rel =>
                refine ⟨k + 1, by go_num, by omega, ?_, ?_⟩
                · show Value.bool false = Value.bool (putF x (l.take (k + 1))).2
                  rw [HX.out]
                · show OutAt _ _ _ (putF x (l.take (k + 1))).1 _ _
                  rw [HX.out]
                  exact HN.out
              case measure => simp [intOf]; omega
            exact AllReadyH.nil
          | true =>
            have HX : Hid (putF x (l.take (k + 1)) = (E ++ [x] ++ [y], true)) := Lib.hid (by rw [HON.out]; unfold putS; rw [if_neg hne, hol]; simp)
            clear HON
            clear hne
            go_wp2_with fail
            refine wp_region_heldH (by kernel_rfl) hS (HBD.out) (fun hHeld => ?_)
            refine takes [0, 1, 2, 3, 4, 5, 6, 7, 8, 9, 10, 11, 12, 13, 14, 15, 16, 17] 0 (by kernel_rfl) (by assumption) ?_
            iterate 9 (refine tkY rfl (fun _ _ _ h => h) rfl (by ((intro w hSw); (try dsimp only at hSw); go_simp; (try with_reducible rfl))) ?_; try simp only [Act.put, List.setIfInBounds_toArray, List.set_cons_zero, List.set_cons_succ])
            iterate 8 (refine tkN rfl (fun _ _ _ h => h) rfl ?_; try simp only [Act.put, List.setIfInBounds_toArray, List.set_cons_zero, List.set_cons_succ])
            refine tkY rfl (fun _ _ _ h => h) rfl (by ((intro w hSw); (try dsimp only at hSw); go_simp; (try with_reducible rfl))) ?_; try simp only [Act.put, List.setIfInBounds_toArray, List.set_cons_zero, List.set_cons_succ]
            refine tkE ?_
            refine wpAnyH_done (by kernel_rfl) ?_ _
            obtain ⟨wd, hnm⟩ : ∃ wd : World, wd = wr.drew := ⟨_, rfl⟩
            rw [← hnm] at HOD HBD ⊢
            clear hnm
            have HB5 : Hid (Below w2.heap.size w2 wd.drew) := Lib.hid (HBD.out.trans ((below_drewN (Below.refl wd.heap.size wd) 1).mono HBD.out.size))
            have HO5 : Hid (wd.drew.ownsRow 0 62 4 (.slice A1 E.length c1) E.length (rc lkR E)) := Lib.hid ((Kept.of_below (S := []) (below_drewN (Below.refl wd.heap.size wd) 1)).own HOD.out (by simp))
            go_wp2_with fail
            refine wp_region_heldH (by kernel_rfl) hS (HB5.out) (fun hHeld => ?_)
            refine takes [0, 1, 2, 3, 4, 5, 6, 7] 2 (by kernel_rfl) (by assumption) ?_
            iterate 8 (refine tkY rfl (fun _ _ _ h => h) rfl (by ((intro w hSw); (try dsimp only at hSw); go_simp; (try with_reducible rfl))) ?_; try simp only [Act.put, List.setIfInBounds_toArray, List.set_cons_zero, List.set_cons_succ])
            refine tkE ?_
            refine wpAnyH_ready (rs := [8]) (by kernel_rfl) (by simp) ?_
            refine readyC rfl (fun K hK => ?_) ?_
            ·
              go_simp
              go_at_call 90
              refine (HC.out _).mono ?_
              rintro e w4 ⟨he4, hb4⟩
              rw [hol] at he4
              subst he4
              have HB4 := Lib.hid (HB5.out.trans (hb4.mono HB5.out.size))
              have HO4 := Lib.hid ((Kept.of_below (S := []) hb4).own HO5.out (by simp))
              clear hb4
              go_wp2_with fail
              refine hK.out _ _ (by with_reducible exact hS.out _ HB4.out) (fun hHeld => ?_)
              clear hK K
              try simp only [Act.put, List.setIfInBounds_toArray, List.set_cons_zero, List.set_cons_succ]
              refine takes [9] 0 (by kernel_rfl) (by assumption) ?_
              refine tkY rfl (fun _ _ _ h => h) rfl (by ((intro w hSw); (try dsimp only at hSw); go_simp; (try with_reducible rfl))) ?_; try simp only [Act.put, List.setIfInBounds_toArray, List.set_cons_zero, List.set_cons_succ]
              refine tkE ?_
              refine wpAnyH_done (by kernel_rfl) ?_ _
              obtain ⟨a0, a1, a2, a3, a4, a5, a6, a7⟩ := hS.out w4 HB4.out
              go_upto_region 9 with (at_builtin; refine wpList_app rfl (.tmp 42) (.tmp 44) 34 34 rfl 62 i0 _ 4 40 Tryz.underlying34 hi0 hz0 hy0 hx0 rfl (by omega) A1 E.length c1 (rc lkR E) rfl (HO4.out.alloc _) _ 1 (lkR.cells x) rfl (Src.of1 (R := lkR) Tryz.underlying34 x 62) (by simp only [maxLen]; omega) (by omega) ?_; intro A6 c6 w6 ho6 hk6 hf6; rw [rc_snoc] at ho6)
              have HN6 := OutAt.app HF.out HB4.out ho6 hk6 hf6
              clear ho6 hk6 hf6 a0 a1 a2 a3 a4 a5 a6 a7
              obtain ⟨A7, c7, he7, ho7, hf7, hb7⟩ := HN6
              rw [he7]
              have HO7 := Lib.hid ho7
              have HF7 := Lib.hid hf7
              have HB7 := Lib.hid hb7
              have hl7 : (E ++ [x]).length ≤ l.length + 2 := by simp; omega
              obtain ⟨E7, hE7⟩ : ∃ E7, E7 = E ++ [x] := ⟨_, rfl⟩
              rw [← hE7] at HO7 HX hl7
              rw [← hE7]
              clear ho7 hf7 hb7 he7 hE7
              obtain ⟨a0, a1, a2, a3, _⟩ := hS.out w6 HB7.out
              go_wp2_with (at_builtin; refine wpList_app rfl (.tmp 46) (.tmp 51) 34 34 rfl 62 i0 _ 4 40 Tryz.underlying34 hi0 hz0 hy0 hx0 rfl (by omega) A7 E7.length c7 (rc lkR E7) rfl (HO7.out.alloc _) _ 1 (lkR.cells y) rfl (Src.of1 (R := lkR) Tryz.underlying34 y 62) (by simp only [maxLen]; omega) (by omega) ?_; intro A3 c3 w3 ho3 hk3 hf3; rw [rc_snoc] at ho3)
              have HN := Lib.hid (OutAt.app HF7.out HB7.out ho3 hk3 hf3)
              clear ho3 hk3 hf3 a0 a1 a2 a3
              go_roundw
              case rel =>
                refine ⟨k + 1, by go_num, by omega, ?_, ?_⟩
                · show Value.bool true = Value.bool (putF x (l.take (k + 1))).2
                  rw [HX.out]
                · show OutAt _ _ _ (putF x (l.take (k + 1))).1 _ _
                  rw [HX.out]
                  exact HN.out
              case measure => simp [intOf]; omega
            exact AllReadyH.nil
      | true =>
        cases hq : eqI y.id x.id with
        | false =>
          rw [hq] at he
          have hne : ¬ (y.key = x.key ∧ y.id = x.id) := fun h => by rw [eqI_iff.2 h.2] at hq; cases hq
          clear hq
          cases dn with
          | true =>
            have HX : Hid (putF x (l.take (k + 1)) = (E ++ [y], true)) := Lib.hid (by rw [HON.out]; unfold putS; rw [if_neg hne]; simp)
            clear HON
            clear hne
            go_wp2_with fail
            refine wp_region_heldH (by kernel_rfl) hS (HBD.out) (fun hHeld => ?_)
            refine takes [0, 1, 2, 3, 4, 5, 6, 7, 8, 9, 10, 11, 12, 13, 14, 15, 16, 17] 0 (by kernel_rfl) (by assumption) ?_
            iterate 18 (refine tkY rfl (fun _ _ _ h => h) rfl (by ((intro w hSw); (try dsimp only at hSw); go_simp; (try with_reducible rfl))) ?_; try simp only [Act.put, List.setIfInBounds_toArray, List.set_cons_zero, List.set_cons_succ])
            refine tkE ?_
            refine wpAnyH_done (by kernel_rfl) ?_ _
            obtain ⟨wd, hnm⟩ : ∃ wd : World, wd = wr.drew := ⟨_, rfl⟩
            rw [← hnm] at HOD HBD ⊢
            clear hnm
            have HB5 : Hid (Below w2.heap.size w2 wd.drew) := Lib.hid (HBD.out.trans ((below_drewN (Below.refl wd.heap.size wd) 1).mono HBD.out.size))
            have HO5 : Hid (wd.drew.ownsRow 0 62 4 (.slice A1 E.length c1) E.length (rc lkR E)) := Lib.hid ((Kept.of_below (S := []) (below_drewN (Below.refl wd.heap.size wd) 1)).own HOD.out (by simp))
            go_wp2_with fail
            refine wp_region_heldH (by kernel_rfl) hS (HB5.out) (fun hHeld => ?_)
            refine takes [0, 1, 2, 3, 4, 5, 6, 7, 8, 9] 0 (by kernel_rfl) (by assumption) ?_
            iterate 3 (refine tkY rfl (fun _ _ _ h => h) rfl (by ((intro w hSw); (try dsimp only at hSw); go_simp; (try with_reducible rfl))) ?_; try simp only [Act.put, List.setIfInBounds_toArray, List.set_cons_zero, List.set_cons_succ])
            iterate 6 (refine tkN rfl (fun _ _ _ h => h) rfl ?_; try simp only [Act.put, List.setIfInBounds_toArray, List.set_cons_zero, List.set_cons_succ])
            refine tkY rfl (fun _ _ _ h => h) rfl (by ((intro w hSw); (try dsimp only at hSw); go_simp; (try with_reducible rfl))) ?_; try simp only [Act.put, List.setIfInBounds_toArray, List.set_cons_zero, List.set_cons_succ]
            refine tkE ?_
            refine wpAnyH_done (by kernel_rfl) ?_ _
            obtain ⟨wz, hnm⟩ : ∃ wz : World, wz = wd.drew := ⟨_, rfl⟩
            rw [← hnm] at HO5 HB5 ⊢
            clear hnm
            obtain ⟨a0, a1, a2, a3, _⟩ := hS.out wz HB5.out
            go_wp2_with (at_builtin; refine wpList_app rfl (.tmp 46) (.tmp 51) 34 34 rfl 62 i0 _ 4 40 Tryz.underlying34 hi0 hz0 hy0 hx0 rfl (by omega) A1 E.length c1 (rc lkR E) rfl (HO5.out.alloc _) _ 1 (lkR.cells y) rfl (Src.of1 (R := lkR) Tryz.underlying34 y 62) (by simp only [maxLen]; omega) (by omega) ?_; intro A3 c3 w3 ho3 hk3 hf3; rw [rc_snoc] at ho3)
            have HN := Lib.hid (OutAt.app HF.out HB5.out ho3 hk3 hf3)
            clear ho3 hk3 hf3 a0 a1 a2 a3
            go_roundw
            case rel =>
              refine ⟨k + 1, by go_num, by omega, ?_, ?_⟩
              · show Value.bool true = Value.bool (putF x (l.take (k + 1))).2
                rw [HX.out]
              · show OutAt _ _ _ (putF x (l.take (k + 1))).1 _ _
                rw [HX.out]
                exact HN.out
            case measure => simp [intOf]; omega
          | false =>
            have HC := Lib.hid (HOL.out y)
            cases hol : ah x y with
            | false =>
              have HX : Hid (putF x (l.take (k + 1)) = (E ++ [y], false)) := Lib.hid (by rw [HON.out]; unfold putS; rw [if_neg hne, hol]; simp)
              clear HON
              clear hne
              go_wp2_with fail
              refine wp_region_heldH (by kernel_rfl) hS (HBD.out) (fun hHeld => ?_)
              refine takes [0, 1, 2, 3, 4, 5, 6, 7, 8, 9, 10, 11, 12, 13, 14, 15, 16, 17] 0 (by kernel_rfl) (by assumption) ?_
              iterate 18 (refine tkY rfl (fun _ _ _ h => h) rfl (by ((intro w hSw); (try dsimp only at hSw); go_simp; (try with_reducible rfl))) ?_; try simp only [Act.put, List.setIfInBounds_toArray, List.set_cons_zero, List.set_cons_succ])
              refine tkE ?_
              refine wpAnyH_done (by kernel_rfl) ?_ _
              obtain ⟨wd, hnm⟩ : ∃ wd : World, wd = wr.drew := ⟨_, rfl⟩
              rw [← hnm] at HOD HBD ⊢
              clear hnm
              have HB5 : Hid (Below w2.heap.size w2 wd.drew) := Lib.hid (HBD.out.trans ((below_drewN (Below.refl wd.heap.size wd) 1).mono HBD.out.size))
              have HO5 : Hid (wd.drew.ownsRow 0 62 4 (.slice A1 E.length c1) E.length (rc lkR E)) := Lib.hid ((Kept.of_below (S := []) (below_drewN (Below.refl wd.heap.size wd) 1)).own HOD.out (by simp))
              go_wp2_with fail
              refine wp_region_heldH (by kernel_rfl) hS (HB5.out) (fun hHeld => ?_)
              refine takes [0, 1, 2, 3, 4, 5, 6, 7] 2 (by kernel_rfl) (by assumption) ?_
              iterate 8 (refine tkY rfl (fun _ _ _ h => h) rfl (by ((intro w hSw); (try dsimp only at hSw); go_simp; (try with_reducible rfl))) ?_; try simp only [Act.put, List.setIfInBounds_toArray, List.set_cons_zero, List.set_cons_succ])
              refine tkE ?_
              refine wpAnyH_ready (rs := [8]) (by kernel_rfl) (by simp) ?_
              refine readyC rfl (fun K hK => ?_) ?_
              ·
                go_simp
                go_at_call 90
                refine (HC.out _).mono ?_
                rintro e w4 ⟨he4, hb4⟩
                rw [hol] at he4
                subst he4
                have HB4 := Lib.hid (HB5.out.trans (hb4.mono HB5.out.size))
                have HO4 := Lib.hid ((Kept.of_below (S := []) hb4).own HO5.out (by simp))
                clear hb4
                go_wp2_with fail
                refine hK.out _ _ (by with_reducible exact hS.out _ HB4.out) (fun hHeld => ?_)
                clear hK K
                try simp only [Act.put, List.setIfInBounds_toArray, List.set_cons_zero, List.set_cons_succ]
                refine takes [9] 0 (by kernel_rfl) (by assumption) ?_
                refine tkY rfl (fun _ _ _ h => h) rfl (by ((intro w hSw); (try dsimp only at hSw); go_simp; (try with_reducible rfl))) ?_; try simp only [Act.put, List.setIfInBounds_toArray, List.set_cons_zero, List.set_cons_succ]
                refine tkE ?_
                refine wpAnyH_done (by kernel_rfl) ?_ _
                obtain ⟨a0, a1, a2, a3, _⟩ := hS.out w4 HB4.out
                go_wp2_with (at_builtin; refine wpList_app rfl (.tmp 46) (.tmp 51) 34 34 rfl 62 i0 _ 4 40 Tryz.underlying34 hi0 hz0 hy0 hx0 rfl (by omega) A1 E.length c1 (rc lkR E) rfl (HO4.out.alloc _) _ 1 (lkR.cells y) rfl (Src.of1 (R := lkR) Tryz.underlying34 y 62) (by simp only [maxLen]; omega) (by omega) ?_; intro A3 c3 w3 ho3 hk3 hf3; rw [rc_snoc] at ho3)
                have HN := Lib.hid (OutAt.app HF.out HB4.out ho3 hk3 hf3)
                clear ho3 hk3 hf3 a0 a1 a2 a3
                go_roundw
                case rel =>
                  refine ⟨k + 1, by go_num, by omega, ?_, ?_⟩
                  · show Value.bool false = Value.bool (putF x (l.take (k + 1))).2
                    rw [HX.out]
                  · show OutAt _ _ _ (putF x (l.take (k + 1))).1 _ _
                    rw [HX.out]
                    exact HN.out
                case measure => simp [intOf]; omega
              exact AllReadyH.nil
            | true =>
              have HX : Hid (putF x (l.take (k + 1)) = (E ++ [x] ++ [y], true)) := Lib.hid (by rw [HON.out]; unfold putS; rw [if_neg hne, hol]; simp)
              clear HON
              clear hne
              go_wp2_with fail
              refine wp_region_heldH (by kernel_rfl) hS (HBD.out) (fun hHeld => ?_)
              refine takes [0, 1, 2, 3, 4, 5, 6, 7, 8, 9, 10, 11, 12, 13, 14, 15, 16, 17] 0 (by kernel_rfl) (by assumption) ?_
              iterate 18 (refine tkY rfl (fun _ _ _ h => h) rfl (by ((intro w hSw); (try dsimp only at hSw); go_simp; (try with_reducible rfl))) ?_; try simp only [Act.put, List.setIfInBounds_toArray, List.set_cons_zero, List.set_cons_succ])
              refine tkE ?_
              refine wpAnyH_done (by kernel_rfl) ?_ _
              obtain ⟨wd, hnm⟩ : ∃ wd : World, wd = wr.drew := ⟨_, rfl⟩
              rw [← hnm] at HOD HBD ⊢
              clear hnm
              have HB5 : Hid (Below w2.heap.size w2 wd.drew) := Lib.hid (HBD.out.trans ((below_drewN (Below.refl wd.heap.size wd) 1).mono HBD.out.size))
              have HO5 : Hid (wd.drew.ownsRow 0 62 4 (.slice A1 E.length c1) E.length (rc lkR E)) := Lib.hid ((Kept.of_below (S := []) (below_drewN (Below.refl wd.heap.size wd) 1)).own HOD.out (by simp))
              go_wp2_with fail
              refine wp_region_heldH (by kernel_rfl) hS (HB5.out) (fun hHeld => ?_)
              refine takes [0, 1, 2, 3, 4, 5, 6, 7] 2 (by kernel_rfl) (by assumption) ?_
              iterate 8 (refine tkY rfl (fun _ _ _ h => h) rfl (by ((intro w hSw); (try dsimp only at hSw); go_simp; (try with_reducible rfl))) ?_; try simp only [Act.put, List.setIfInBounds_toArray, List.set_cons_zero, List.set_cons_succ])
              refine tkE ?_
              refine wpAnyH_ready (rs := [8]) (by kernel_rfl) (by simp) ?_
              refine readyC rfl (fun K hK => ?_) ?_
              ·
                go_simp
                go_at_call 90
                refine (HC.out _).mono ?_
                rintro e w4 ⟨he4, hb4⟩
                rw [hol] at he4
                subst he4
                have HB4 := Lib.hid (HB5.out.trans (hb4.mono HB5.out.size))
                have HO4 := Lib.hid ((Kept.of_below (S := []) hb4).own HO5.out (by simp))
                clear hb4
                go_wp2_with fail
                refine hK.out _ _ (by with_reducible exact hS.out _ HB4.out) (fun hHeld => ?_)
                clear hK K
                try simp only [Act.put, List.setIfInBounds_toArray, List.set_cons_zero, List.set_cons_succ]
                refine takes [9] 0 (by kernel_rfl) (by assumption) ?_
                refine tkY rfl (fun _ _ _ h => h) rfl (by ((intro w hSw); (try dsimp only at hSw); go_simp; (try with_reducible rfl))) ?_; try simp only [Act.put, List.setIfInBounds_toArray, List.set_cons_zero, List.set_cons_succ]
                refine tkE ?_
                refine wpAnyH_done (by kernel_rfl) ?_ _
                obtain ⟨a0, a1, a2, a3, a4, a5, a6, a7⟩ := hS.out w4 HB4.out
                go_upto_region 9 with (at_builtin; refine wpList_app rfl (.tmp 42) (.tmp 44) 34 34 rfl 62 i0 _ 4 40 Tryz.underlying34 hi0 hz0 hy0 hx0 rfl (by omega) A1 E.length c1 (rc lkR E) rfl (HO4.out.alloc _) _ 1 (lkR.cells x) rfl (Src.of1 (R := lkR) Tryz.underlying34 x 62) (by simp only [maxLen]; omega) (by omega) ?_; intro A6 c6 w6 ho6 hk6 hf6; rw [rc_snoc] at ho6)
                have HN6 := OutAt.app HF.out HB4.out ho6 hk6 hf6
                clear ho6 hk6 hf6 a0 a1 a2 a3 a4 a5 a6 a7
                obtain ⟨A7, c7, he7, ho7, hf7, hb7⟩ := HN6
                rw [he7]
                have HO7 := Lib.hid ho7
                have HF7 := Lib.hid hf7
                have HB7 := Lib.hid hb7
                have hl7 : (E ++ [x]).length ≤ l.length + 2 := by simp; omega
                obtain ⟨E7, hE7⟩ : ∃ E7, E7 = E ++ [x] := ⟨_, rfl⟩
                rw [← hE7] at HO7 HX hl7
                rw [← hE7]
                clear ho7 hf7 hb7 he7 hE7
                obtain ⟨a0, a1, a2, a3, _⟩ := hS.out w6 HB7.out
                go_wp2_with (at_builtin; refine wpList_app rfl (.tmp 46) (.tmp 51) 34 34 rfl 62 i0 _ 4 40 Tryz.underlying34 hi0 hz0 hy0 hx0 rfl (by omega) A7 E7.length c7 (rc lkR E7) rfl (HO7.out.alloc _) _ 1 (lkR.cells y) rfl (Src.of1 (R := lkR) Tryz.underlying34 y 62) (by simp only [maxLen]; omega) (by omega) ?_; intro A3 c3 w3 ho3 hk3 hf3; rw [rc_snoc] at ho3)
                have HN := Lib.hid (OutAt.app HF7.out HB7.out ho3 hk3 hf3)
                clear ho3 hk3 hf3 a0 a1 a2 a3
                go_roundw
                case rel =>
                  refine ⟨k + 1, by go_num, by omega, ?_, ?_⟩
                  · show Value.bool true = Value.bool (putF x (l.take (k + 1))).2
                    rw [HX.out]
                  · show OutAt _ _ _ (putF x (l.take (k + 1))).1 _ _
                    rw [HX.out]
                    exact HN.out
                case measure => simp [intOf]; omega
              exact AllReadyH.nil
        | true =>
          rw [hq] at he
          have HX : Hid (putF x (l.take (k + 1)) = (E, dn)) := Lib.hid (by rw [HON.out]; unfold putS; rw [if_pos ⟨toList_inj (by simpa using hky), eqI_iff.1 hq⟩])
          clear HON
          clear hq
          go_wp2_with fail
          refine wp_region_heldH (by kernel_rfl) hS (HBD.out) (fun hHeld => ?_)
          refine takes [0, 1, 2, 3, 4, 5, 6, 7, 8, 9, 10, 11, 12, 13, 14, 15, 16, 17] 0 (by kernel_rfl) (by assumption) ?_
          iterate 18 (refine tkY rfl (fun _ _ _ h => h) rfl (by ((intro w hSw); (try dsimp only at hSw); go_simp; (try with_reducible rfl))) ?_; try simp only [Act.put, List.setIfInBounds_toArray, List.set_cons_zero, List.set_cons_succ])
          refine tkE ?_
          refine wpAnyH_done (by kernel_rfl) ?_ _
          have HN : Hid (OutAt lkR 62 w2 E (.slice A1 E.length c1) wr.drew) := Lib.hid ⟨A1, c1, rfl, HOD.out, HF.out, HBD.out⟩
          go_wp2
          go_roundw
          case rel =>
            refine ⟨k + 1, by go_num, by omega, ?_, ?_⟩
            · show Value.bool dn = Value.bool (putF x (l.take (k + 1))).2
              rw [HX.out]
            · show OutAt _ _ _ (putF x (l.take (k + 1))).1 _ _
              rw [HX.out]
              exact HN.out
          case measure => simp [intOf]; omega
    · have kU : ¬ (k : Int) < (l.length : Int) := by omega
      have HE2 := Lib.hid (HPI.out)
      rw [List.take_of_length_le (show l.length ≤ k by omega)] at HO hlen ⊢
      obtain ⟨st, hst⟩ : ∃ st, st = putF x l := ⟨_, rfl⟩
      rw [← hst] at HO HE2 hlen
      rw [← hst]
      clear hst
      obtain ⟨E, dn⟩ := st
      simp only at HO HE2 hlen ⊢
      cases dn with
      | true =>
        have HN : Hid (OutAt lkR 62 w E (.slice A1 E.length c1) wr) := Lib.hid (OutAt.from ⟨A1, c1, rfl, HO.out, HF.out, HBR.out⟩ HB.out)
        have HX : Hid (E = _) := Lib.hid (HE2.out)
        go_wp2
        go_ret
        exact ⟨_, rfl, by rw [← HX.out]; exact HN.out⟩
      | false =>
        have HX : Hid (E ++ [x] = _) := Lib.hid (HE2.out)
        have k3 := HK1.out.below HBR.out HK1.out.lt
        have x10 : wr.cell? ⟨p1, 0, none⟩ = some (.string x.key) := k3.cell 0; have x11 : wr.cell? ⟨p1, 1, none⟩ = some (.int .i64 x.id.n) := k3.cell 1; have x12 : wr.cell? ⟨p1, 2, none⟩ = some (.int .i64 x.id.c) := k3.cell 2; have x13 : wr.cell? ⟨p1, 3, none⟩ = some (.int .i64 x.mode) := k3.cell 3
        clear k3
        go_wp2_with (at_builtin; refine wpList_app rfl (.tmp 55) (.tmp 57) 34 34 rfl 62 i0 _ 4 40 Tryz.underlying34 hi0 hz0 hy0 hx0 rfl (by omega) A1 E.length c1 (rc lkR E) rfl (HO.out.alloc _) _ 1 (lkR.cells x) rfl (Src.of1 (R := lkR) Tryz.underlying34 x 62) (by simp only [maxLen]; omega) (by omega) ?_; intro A3 c3 w3 ho3 hk3 hf3; rw [rc_snoc] at ho3)
        have HN := Lib.hid ((OutAt.app HF.out HBR.out ho3 hk3 hf3).from HB.out)
        clear ho3 hk3 hf3
        go_ret
        exact ⟨_, rfl, by rw [← HX.out]; exact HN.out⟩
end Go.Proofs.YtpidpdbjjdkhoaaGreat
