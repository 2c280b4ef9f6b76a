/- Locks: put, mark. -/
import Derived.Test.YtpidpdbjjdkhoaaGreatLkL
namespace Go.Proofs.YtpidpdbjjdkhoaaGreat
open Go.RowKit
set_option linter.unusedSimpArgs false
set_option linter.unusedVariables false
attribute [local go_sem ↓] Go.wp_at_zero Go.wp_at_succ

theorem ins_no {α : Type} {lt : α → α → Bool} {x : α} {l : List α} (h : isAt lt x l = false) : ins lt x l = l.take (pos lt x l) ++ x :: l.drop (pos lt x l) := by
  rw [ins_pos, h]; rfl
theorem isAt_lt {α : Type} {lt : α → α → Bool} {x : α} {l : List α} (h : isAt lt x l = true) : pos lt x l < l.length := by
  unfold isAt at h
  rcases Nat.lt_or_ge (pos lt x l) l.length with h1 | h1
  · exact h1
  · rw [List.getElem?_eq_none h1] at h; cases h
theorem ins_yes {α : Type} {lt : α → α → Bool} {x : α} {l : List α} (h : isAt lt x l = true) : ins lt x l = l.set (pos lt x l) x := by
  rw [ins_pos, h, List.set_eq_take_append_cons_drop, if_pos (isAt_lt h)]; rfl
theorem mark_yes {x : Idn} {l : List Idn} (h : isAt ol x l = true) : ins ol x l = l := by
  rw [ins_yes h]
  have hlt := isAt_lt h
  have h1 : l[pos ol x l]? = some l[pos ol x l] := List.getElem?_eq_getElem hlt
  have h2 := pos_hi h1
  unfold isAt at h
  rw [h1] at h
  have h3 : ol x l[pos ol x l] = false := by simpa using h
  have h4 := ol_eq h3 h2
  apply List.ext_getElem?
  intro i
  rw [List.getElem?_set]
  split
  · rename_i e
    subst e
    rw [h1, ← h4]
  · rfl
def InsAtL (A : Option Addr) (l : List Lk) (x : Lk) (w : World) (e : Ending) (w' : World) : Prop :=
  ∃ A1 c1, e = .returned (.slice A1 (ins ah x l).length c1) ∧ w'.ownsRow 0 62 4 (.slice A1 (ins ah x l).length c1) (ins ah x l).length (rc lkR (ins ah x l)) ∧ Moves (ob A) (ob A1) w w'
set_option maxHeartbeats 2000000 in
set_option maxRecDepth 100000 in
theorem put_any (A : Option Addr) (c : Nat) (l : List Lk) (x : Lk) (w : World) (hown : w.ownsRow 0 62 4 (.slice A l.length c) l.length (rc lkR l)) (hs : Srt ah l) (hl : l.length ≤ 1000000) :
    Calls Tryz.prog 45 #[.slice A l.length c, lkV x] w (InsAtL A l x w) := by
  have HBS := Lib.hid (fun w' (hb : Below w.heap.size w w') => bsfL A c l x w' (Reads.of_own ((Kept.of_below (S := []) hb).own hown (by simp))) hs (by omega))
  have HOW := Lib.hid hown
  have HPLE := Lib.hid (pos_le (lt := ah) (x := x) l)
  unfold BsEnds at HBS
  clear hown hs
  cases hat : isAt ah x l with
  | true =>
    have HIT := Lib.hid (isAt_lt hat)
    have HINS := Lib.hid (ins_yes hat)
    obtain ⟨P, hP⟩ : ∃ P, P = pos ah x l := ⟨_, rfl⟩
    rw [hat, ← hP] at HBS
    rw [← hP] at HIT HPLE
    rw [← hP] at HINS
    clear hP
    clear hat
    unfold lkV at HBS ⊢
    go_enter Tryz.func45, Tryz.ntmps45
    go_upto_region 1 with fail
    have k1 := Blk.new w 62 #[.string x.key, .int .i64 x.id.n, .int .i64 x.id.c, .int .i64 x.mode]
    have HB := Lib.hid (below_alloc w (.cells #[.string x.key, .int .i64 x.id.n, .int .i64 x.id.c, .int .i64 x.mode] 62))
    obtain ⟨w2, hw2⟩ : ∃ w2, w2 = (w.alloc (.cells #[.string x.key, .int .i64 x.id.n, .int .i64 x.id.c, .int .i64 x.mode] 62)) := ⟨_, rfl⟩
    obtain ⟨p1, hp1⟩ : ∃ p1, p1 = w.heap.size := ⟨_, rfl⟩
    rw [← hw2] at HB k1
    rw [← hp1] at k1
    rw [← hw2]
    rw [← hp1]
    clear hw2 hp1
    have x10 : w2.cell? ⟨p1, 0, none⟩ = some (.string x.key) := k1.cell 0
    have x11 : w2.cell? ⟨p1, 1, none⟩ = some (.int .i64 x.id.n) := k1.cell 1
    have x12 : w2.cell? ⟨p1, 2, none⟩ = some (.int .i64 x.id.c) := k1.cell 2
    have x13 : w2.cell? ⟨p1, 3, none⟩ = some (.int .i64 x.mode) := k1.cell 3
    have HK1 := Lib.hid k1
    have HOA := Lib.hid ((Kept.of_below (S := []) HB.out).own HOW.out (by simp))
    clear k1
    go_wp2_with fail
    refine (HBS.out _ HB.out).mono ?_
    rintro e w3 ⟨rfl, hb3⟩
    have HB3 := Lib.hid (HB.out.trans (hb3.mono HB.out.size))
    have HK3 := Lib.hid (HK1.out.below hb3 HK1.out.lt)
    have HO3 := Lib.hid ((Kept.of_below (S := []) hb3).own HOA.out (by simp))
    clear x10 x11 x12 x13 hb3
    have x10 : w3.cell? ⟨p1, 0, none⟩ = some (.string x.key) := HK3.out.cell 0
    have x11 : w3.cell? ⟨p1, 1, none⟩ = some (.int .i64 x.id.n) := HK3.out.cell 1
    have x12 : w3.cell? ⟨p1, 2, none⟩ = some (.int .i64 x.id.c) := HK3.out.cell 2
    have x13 : w3.cell? ⟨p1, 3, none⟩ = some (.int .i64 x.mode) := HK3.out.cell 3
    have hlt : P < l.length := HIT.out
    obtain ⟨g, rfl, hgl⟩ := own_some HO3.out (by omega)
    have kL : (0 : Int) ≤ (P : Int) := by omega
    have kU : (P : Int) < (l.length : Int) := by omega
    have hey := own_elt (R := lkR) HO3.out (k := P) hlt
    obtain ⟨y, hy⟩ : ∃ y, y = gr lkR l P := ⟨_, rfl⟩
    rw [← hy] at hey
    have y0 : w3.cell? ⟨g, P * 4, none⟩ = some (.string y.key) := hey 0 _ rfl
    have y1 : w3.cell? ⟨g, P * 4 + 1, none⟩ = some (.int .i64 y.id.n) := hey 1 _ rfl
    have y2 : w3.cell? ⟨g, P * 4 + 2, none⟩ = some (.int .i64 y.id.c) := hey 2 _ rfl
    have y3 : w3.cell? ⟨g, P * 4 + 3, none⟩ = some (.int .i64 y.mode) := hey 3 _ rfl
    have f0 := HO3.out.frozenAt (P * 4)
    have f1 := HO3.out.frozenAt (P * 4 + 1)
    have f2 := HO3.out.frozenAt (P * 4 + 2)
    have f3 := HO3.out.frozenAt (P * 4 + 3)
    clear hey hy
    go_wp2
    go_ret
    have hset := storedAll [.string x.key, .int .i64 x.id.n, .int .i64 x.id.c, .int .i64 x.mode] (p := P * 4) HO3.out
    have hrs := rc_set (R := lkR) l x P hlt
    rw [show [.string x.key, .int .i64 x.id.n, .int .i64 x.id.c, .int .i64 x.mode] = lkR.cells x from rfl] at hset
    rw [show P * lkR.sz = P * 4 from rfl] at hrs
    rw [hrs] at hset
    have hk3 : Kept [g] w3 (w3.setCells g (P * 4) (lkR.cells x)) := keptAll _ (Kept.refl _ _) (.inl (by simp))
    unfold InsAtL
    rw [HINS.out, List.length_set]
    exact ⟨_, c, rfl, hset, ⟨(Kept.of_below (S := [g]) HB3.out).trans hk3 (fun _ h => .inl h), fun k hk => .inl hk⟩⟩
  | false =>
    have HINS := Lib.hid (ins_no hat)
    have HLEN : Hid ((l.take (pos ah x l) ++ x :: l.drop (pos ah x l)).length = l.length + 1) := Lib.hid (by have := HPLE.out; simp; omega)
    obtain ⟨P, hP⟩ : ∃ P, P = pos ah x l := ⟨_, rfl⟩
    rw [hat, ← hP] at HBS
    rw [← hP] at HINS HLEN HPLE
    clear hP
    clear hat
    unfold lkV at HBS ⊢
    go_enter Tryz.func45, Tryz.ntmps45
    go_upto_region 1 with fail
    have k1 := Blk.new w 62 #[.string x.key, .int .i64 x.id.n, .int .i64 x.id.c, .int .i64 x.mode]
    have HB := Lib.hid (below_alloc w (.cells #[.string x.key, .int .i64 x.id.n, .int .i64 x.id.c, .int .i64 x.mode] 62))
    obtain ⟨w2, hw2⟩ : ∃ w2, w2 = (w.alloc (.cells #[.string x.key, .int .i64 x.id.n, .int .i64 x.id.c, .int .i64 x.mode] 62)) := ⟨_, rfl⟩
    obtain ⟨p1, hp1⟩ : ∃ p1, p1 = w.heap.size := ⟨_, rfl⟩
    rw [← hw2] at HB k1
    rw [← hp1] at k1
    rw [← hw2]
    rw [← hp1]
    clear hw2 hp1
    have x10 : w2.cell? ⟨p1, 0, none⟩ = some (.string x.key) := k1.cell 0
    have x11 : w2.cell? ⟨p1, 1, none⟩ = some (.int .i64 x.id.n) := k1.cell 1
    have x12 : w2.cell? ⟨p1, 2, none⟩ = some (.int .i64 x.id.c) := k1.cell 2
    have x13 : w2.cell? ⟨p1, 3, none⟩ = some (.int .i64 x.mode) := k1.cell 3
    have HK1 := Lib.hid k1
    have HOA := Lib.hid ((Kept.of_below (S := []) HB.out).own HOW.out (by simp))
    clear k1
    go_wp2_with fail
    refine (HBS.out _ HB.out).mono ?_
    rintro e w3 ⟨rfl, hb3⟩
    have HB3 := Lib.hid (HB.out.trans (hb3.mono HB.out.size))
    have HK3 := Lib.hid (HK1.out.below hb3 HK1.out.lt)
    have HO3 := Lib.hid ((Kept.of_below (S := []) hb3).own HOA.out (by simp))
    clear x10 x11 x12 x13 hb3
    have x10 : w3.cell? ⟨p1, 0, none⟩ = some (.string x.key) := HK3.out.cell 0
    have x11 : w3.cell? ⟨p1, 1, none⟩ = some (.int .i64 x.id.n) := HK3.out.cell 1
    have x12 : w3.cell? ⟨p1, 2, none⟩ = some (.int .i64 x.id.c) := HK3.out.cell 2
    have x13 : w3.cell? ⟨p1, 3, none⟩ = some (.int .i64 x.mode) := HK3.out.cell 3
    have hvb : Blk (w3.alloc (.cells #[.string x.key, .int .i64 x.id.n, .int .i64 x.id.c, .int .i64 x.mode] 62)) w3.heap.size 62 #[.string x.key, .int .i64 x.id.n, .int .i64 x.id.c, .int .i64 x.mode] := Blk.new w3 62 _
    have hownN := (Kept.of_below (S := []) (below_alloc w3 (.cells #[.string x.key, .int .i64 x.id.n, .int .i64 x.id.c, .int .i64 x.mode] 62))).own HO3.out (by simp)
    have hne : w3.heap.size ∉ ob A := fun hm => by have := own_lt HO3.out _ hm; omega
    have HI := Lib.hid (insL A c w3.heap.size P l x (w3.alloc (.cells #[.string x.key, .int .i64 x.id.n, .int .i64 x.id.c, .int .i64 x.mode] 62)) hownN hvb hne HPLE.out hl)
    have HBN := Lib.hid (HB3.out.alloc HB3.out.size (.cells #[.string x.key, .int .i64 x.id.n, .int .i64 x.id.c, .int .i64 x.mode] 62))
    clear hvb hownN hne
    go_wp2_with fail
    refine HI.out.mono ?_
    rintro e w4 ⟨A1, c1, rfl, ho4, hm4⟩
    have HF : Hid (InsAtL A l x w (.returned (.slice A1 (l.length + 1) c1)) w4) := Lib.hid (by
      unfold InsAtL
      rw [HINS.out, HLEN.out]
      exact ⟨A1, c1, rfl, ho4, Moves.below_left HBN.out hm4⟩)
    clear ho4 hm4
    go_wp2_with fail
    go_ret
    exact HF.out
def InsAtI (A : Option Addr) (l : List Idn) (x : Idn) (w : World) (e : Ending) (w' : World) : Prop :=
  ∃ A1 c1, e = .returned (.slice A1 (ins ol x l).length c1) ∧ w'.ownsRow 0 29 2 (.slice A1 (ins ol x l).length c1) (ins ol x l).length (rc idR (ins ol x l)) ∧ Moves (ob A) (ob A1) w w'
set_option maxHeartbeats 2000000 in
set_option maxRecDepth 100000 in
theorem mark_any (A : Option Addr) (c : Nat) (l : List Idn) (x : Idn) (w : World) (hown : w.ownsRow 0 29 2 (.slice A l.length c) l.length (rc idR l)) (hs : Srt ol l) (hl : l.length ≤ 1000000) :
    Calls Tryz.prog 43 #[.slice A l.length c, idV x] w (InsAtI A l x w) := by
  have HBS := Lib.hid (fun w' (hb : Below w.heap.size w w') => bsfI A c l x w' (Reads.of_own ((Kept.of_below (S := []) hb).own hown (by simp))) hs (by omega))
  have HOW := Lib.hid hown
  have HPLE := Lib.hid (pos_le (lt := ol) (x := x) l)
  unfold BsEnds at HBS
  clear hown hs
  cases hat : isAt ol x l with
  | true =>
    have HIT := Lib.hid (isAt_lt hat)
    have HINS := Lib.hid (mark_yes hat)
    obtain ⟨P, hP⟩ : ∃ P, P = pos ol x l := ⟨_, rfl⟩
    rw [hat, ← hP] at HBS
    rw [← hP] at HIT HPLE
    skip
    clear hP
    clear hat
    unfold idV at HBS ⊢
    go_enter Tryz.func43, Tryz.ntmps43
    go_upto_region 1 with fail
    have k1 := Blk.new w 29 #[.int .i64 x.n, .int .i64 x.c]
    have HB := Lib.hid (below_alloc w (.cells #[.int .i64 x.n, .int .i64 x.c] 29))
    obtain ⟨w2, hw2⟩ : ∃ w2, w2 = (w.alloc (.cells #[.int .i64 x.n, .int .i64 x.c] 29)) := ⟨_, rfl⟩
    obtain ⟨p1, hp1⟩ : ∃ p1, p1 = w.heap.size := ⟨_, rfl⟩
    rw [← hw2] at HB k1
    rw [← hp1] at k1
    rw [← hw2]
    rw [← hp1]
    clear hw2 hp1
    have x10 : w2.cell? ⟨p1, 0, none⟩ = some (.int .i64 x.n) := k1.cell 0
    have x11 : w2.cell? ⟨p1, 1, none⟩ = some (.int .i64 x.c) := k1.cell 1
    have HK1 := Lib.hid k1
    have HOA := Lib.hid ((Kept.of_below (S := []) HB.out).own HOW.out (by simp))
    clear k1
    go_wp2_with fail
    refine (HBS.out _ HB.out).mono ?_
    rintro e w3 ⟨rfl, hb3⟩
    have HB3 := Lib.hid (HB.out.trans (hb3.mono HB.out.size))
    have HK3 := Lib.hid (HK1.out.below hb3 HK1.out.lt)
    have HO3 := Lib.hid ((Kept.of_below (S := []) hb3).own HOA.out (by simp))
    clear x10 x11 hb3
    have x10 : w3.cell? ⟨p1, 0, none⟩ = some (.int .i64 x.n) := HK3.out.cell 0
    have x11 : w3.cell? ⟨p1, 1, none⟩ = some (.int .i64 x.c) := HK3.out.cell 1
    have HF : Hid (InsAtI A l x w (.returned (.slice A l.length c)) w3) := Lib.hid (by
      unfold InsAtI
      rw [HINS.out]
      exact ⟨A, c, rfl, HO3.out, ⟨Kept.of_below HB3.out, fun k hk => .inl hk⟩⟩)
    go_wp2
    go_ret
    exact HF.out
  | false =>
    have HINS := Lib.hid (ins_no hat)
    have HLEN : Hid ((l.take (pos ol x l) ++ x :: l.drop (pos ol x l)).length = l.length + 1) := Lib.hid (by have := HPLE.out; simp; omega)
    obtain ⟨P, hP⟩ : ∃ P, P = pos ol x l := ⟨_, rfl⟩
    rw [hat, ← hP] at HBS
    rw [← hP] at HINS HLEN HPLE
    clear hP
    clear hat
    unfold idV at HBS ⊢
    go_enter Tryz.func43, Tryz.ntmps43
    go_upto_region 1 with fail
    have k1 := Blk.new w 29 #[.int .i64 x.n, .int .i64 x.c]
    have HB := Lib.hid (below_alloc w (.cells #[.int .i64 x.n, .int .i64 x.c] 29))
    obtain ⟨w2, hw2⟩ : ∃ w2, w2 = (w.alloc (.cells #[.int .i64 x.n, .int .i64 x.c] 29)) := ⟨_, rfl⟩
    obtain ⟨p1, hp1⟩ : ∃ p1, p1 = w.heap.size := ⟨_, rfl⟩
    rw [← hw2] at HB k1
    rw [← hp1] at k1
    rw [← hw2]
    rw [← hp1]
    clear hw2 hp1
    have x10 : w2.cell? ⟨p1, 0, none⟩ = some (.int .i64 x.n) := k1.cell 0
    have x11 : w2.cell? ⟨p1, 1, none⟩ = some (.int .i64 x.c) := k1.cell 1
    have HK1 := Lib.hid k1
    have HOA := Lib.hid ((Kept.of_below (S := []) HB.out).own HOW.out (by simp))
    clear k1
    go_wp2_with fail
    refine (HBS.out _ HB.out).mono ?_
    rintro e w3 ⟨rfl, hb3⟩
    have HB3 := Lib.hid (HB.out.trans (hb3.mono HB.out.size))
    have HK3 := Lib.hid (HK1.out.below hb3 HK1.out.lt)
    have HO3 := Lib.hid ((Kept.of_below (S := []) hb3).own HOA.out (by simp))
    clear x10 x11 hb3
    have x10 : w3.cell? ⟨p1, 0, none⟩ = some (.int .i64 x.n) := HK3.out.cell 0
    have x11 : w3.cell? ⟨p1, 1, none⟩ = some (.int .i64 x.c) := HK3.out.cell 1
    have hvb : Blk (w3.alloc (.cells #[.int .i64 x.n, .int .i64 x.c] 29)) w3.heap.size 29 #[.int .i64 x.n, .int .i64 x.c] := Blk.new w3 29 _
    have hownN := (Kept.of_below (S := []) (below_alloc w3 (.cells #[.int .i64 x.n, .int .i64 x.c] 29))).own HO3.out (by simp)
    have hne : w3.heap.size ∉ ob A := fun hm => by have := own_lt HO3.out _ hm; omega
    have HI := Lib.hid (insI A c w3.heap.size P l x (w3.alloc (.cells #[.int .i64 x.n, .int .i64 x.c] 29)) hownN hvb hne HPLE.out hl)
    have HBN := Lib.hid (HB3.out.alloc HB3.out.size (.cells #[.int .i64 x.n, .int .i64 x.c] 29))
    clear hvb hownN hne
    go_wp2_with fail
    refine HI.out.mono ?_
    rintro e w4 ⟨A1, c1, rfl, ho4, hm4⟩
    have HF : Hid (InsAtI A l x w (.returned (.slice A1 (l.length + 1) c1)) w4) := Lib.hid (by
      unfold InsAtI
      rw [HINS.out, HLEN.out]
      exact ⟨A1, c1, rfl, ho4, Moves.below_left HBN.out hm4⟩)
    clear ho4 hm4
    go_wp2_with fail
    go_ret
    exact HF.out
end Go.Proofs.YtpidpdbjjdkhoaaGreat
