/- The readers of layer 1: Text and Raw, the program's. -/
import Derived.Test.YtidiohmpmjhbaaaBrC
namespace Go.Proofs.Ytidiohmpmjhbaaa
open Go.RowKit

def textE (m : Int) (l : List UInt8) : Int := if (num l).2.2 ≠ 0 then (num l).2.2 else if max 0 m < (num l).1 then 9 else if l.length - (num l).2.1 < (num l).1 then 1 else 0
def textK (m : Int) (l : List UInt8) : Nat := if textE m l = 0 then (num l).2.1 + (num l).1 else 0
def textS (m : Int) (l : List UInt8) : List UInt8 := if textE m l = 0 then (l.drop (num l).2.1).take (num l).1 else []
def Rd.text (R : Rd) (m : Int) : List UInt8 × Rd := if R.e = 0 then (textS m R.rest, R.step (textK m R.rest) (textE m R.rest)) else ([], R)
def rawE (n : Int) (l : List UInt8) : Int := if n < 0 then 2 else if (l.length : Int) < n then 1 else 0
def rawK (n : Int) (l : List UInt8) : Nat := if rawE n l = 0 then n.toNat else 0
def rawS (n : Int) (l : List UInt8) : List UInt8 := if rawE n l = 0 then l.take n.toNat else []
def Rd.raw (R : Rd) (n : Int) : List UInt8 × Rd := if R.e = 0 then (rawS n R.rest, R.step (rawK n R.rest) (rawE n R.rest)) else ([], R)
theorem text_ok {m : Int} {l : List UInt8} (h : textE m l = 0) : (num l).2.2 = 0 ∧ ((num l).1 : Int) ≤ max 0 m ∧ (num l).1 ≤ l.length - (num l).2.1 := by
  unfold textE at h
  by_cases h1 : (num l).2.2 = 0
  · rw [if_neg (by simp [h1])] at h
    by_cases h2 : max 0 m < (num l).1
    · rw [if_pos h2] at h; cases h
    · rw [if_neg h2] at h
      by_cases h3 : l.length - (num l).2.1 < (num l).1
      · rw [if_pos h3] at h; cases h
      · exact ⟨h1, by omega, by omega⟩
  · rw [if_pos h1] at h
    exact absurd h h1
theorem raw_ok {n : Int} {l : List UInt8} (h : rawE n l = 0) : 0 ≤ n ∧ n ≤ l.length := by
  unfold rawE at h
  by_cases h1 : n < 0
  · rw [if_pos h1] at h; cases h
  · rw [if_neg h1] at h
    by_cases h2 : (l.length : Int) < n
    · rw [if_pos h2] at h; cases h
    · omega
theorem textK_le (m : Int) (l : List UInt8) : textK m l ≤ l.length := by
  unfold textK
  by_cases h : textE m l = 0
  · rw [if_pos h]
    have := text_ok h
    have := num_le l
    omega
  · rw [if_neg h]; omega
theorem rawK_le (n : Int) (l : List UInt8) : rawK n l ≤ l.length := by
  unfold rawK
  by_cases h : rawE n l = 0
  · rw [if_pos h]
    have := raw_ok h
    omega
  · rw [if_neg h]; omega
theorem text_bad {m : Int} {l : List UInt8} (h : textE m l ≠ 0) : textK m l = 0 ∧ textS m l = [] := by unfold textK textS; rw [if_neg h, if_neg h]; exact ⟨rfl, rfl⟩
theorem raw_bad {m : Int} {l : List UInt8} (h : rawE m l ≠ 0) : rawK m l = 0 ∧ rawS m l = [] := by unfold rawK rawS; rw [if_neg h, if_neg h]; exact ⟨rfl, rfl⟩

theorem ret_kk {a1 a2 b1 b2 : Int} (h1 : a1 = b1) (h2 : a2 = b2) : Ending.returned (.tuple #[.int .i64 a1, .int .i64 a2]) = .returned (.tuple #[.int .i64 b1, .int .i64 b2]) := by rw [h1, h2]
set_option maxHeartbeats 2000000 in
set_option maxRecDepth 100000 in
theorem clo_51 (R : Rd) (g g2 : Nat) (m : Int) (hm1 : -9223372036854775808 ≤ m) (hm2 : m ≤ 9223372036854775807) (w : World) (hg : Blk w g 3 #[.int .i64 m]) (hg2 : Blk w g2 9 #[.string ⟨#[]⟩]) (htop : R.rest.length ≤ 140737488355328) :
    CloFits 51 [.pointer (some ⟨g, 0, none⟩), .pointer (some ⟨g2, 0, none⟩)] R w [g2] (fun w' => Blk w' g2 9 #[.string ⟨(textS m R.rest).toArray⟩]) (textK m R.rest) (textE m R.rest) := by
  intro A' c' hr hcap
  generalize R.rest = xs at *
  have hgd := hg.drew
  have hgd2 := hg2.drew
  have hk0 := (Kept.refl [g2] w).drew
  generalize w.drew = wd at *
  have c0 := hgd.cell 0
  have f2 := hgd2.frozen 0
  have c2 := hgd2.cell 0
  simp only [List.getElem?_toArray, List.getElem?_cons_zero] at c0 c2
  have hn1 := num_lt xs
  have hn2 := num_le xs
  have hmx : Hid (∃ mm : Nat, ((if (0 : Int) < m then m else 0) = mm) ∧ (max 0 m = mm)) := by
    refine ⟨m.toNat, ?_, ?_⟩
    · split <;> omega
    · omega
  have hte : Hid (textE m xs = if (num xs).2.2 ≠ 0 then (num xs).2.2 else if max 0 m < (num xs).1 then 9 else if xs.length - (num xs).2.1 < (num xs).1 then 1 else 0) := rfl
  have hbad := Lib.hid (text_bad (m := m) (l := xs))
  have hgood : Hid (textE m xs = 0 → textK m xs = (num xs).2.1 + (num xs).1 ∧ textS m xs = (xs.drop (num xs).2.1).take (num xs).1) := fun h => ⟨by unfold textK; rw [if_pos h], by unfold textS; rw [if_pos h]⟩
  have HN := Lib.hid (number_any A' c' _ xs wd hr htop)
  generalize num xs = q at *
  obtain ⟨n, k, e⟩ := q
  simp only at hn1 hn2 hte hgood HN
  show Calls _ _ #[_, _, _] _ _
  by_cases he : e = 0
  · subst he
    rcases Int.lt_or_le 0 m with hp | hp
    all_goals
      have hm4 : Hid (max 0 m = if 0 < m then m else 0) := by unfold Hid; split <;> omega
      first | rw [if_pos hp] at hm4 | rw [if_neg (by omega)] at hm4
      have hmd := hm4.out
      by_cases h1 : (n : Int) ≤ max 0 m
      · rw [hmd] at h1
        by_cases h2 : (n : Int) ≤ xs.length - k
        · have h3 : textE m xs = 0 := by rw [hte.out, if_neg (by simp), if_neg (by omega), if_neg (by omega)]
          obtain ⟨h4, h5⟩ := hgood.out h3
          rw [h3, h4, h5]
          clear h3 h4 h5 hte hgood hbad hm4 hmd hmx
          have hwin := (hr.cut (k := k) (cap := c') hn2 hcap).take (k := n) (by omega)
          rw [Nat.mul_one, Nat.mul_one, show ((bc xs).drop k).take n = bc ((xs.drop k).take n) by unfold bc; rw [List.map_take, List.map_drop]] at hwin
          by_cases hck : c' = k
          · rw [if_pos hck] at hwin
            obtain rfl := hck.symm
            have hcv := run_conv _ n 0 _ _ wd hwin
            clear hwin
            go_enter Try.func51, Try.ntmps51
            go_wp2_with fail
            refine HN.out.mono ?_
            rintro e w1 ⟨rfl, rfl⟩
            go_wp2
            go_ret2
            exact ⟨ret_kk (by omega) rfl, (Kept.refl _ _).setCell _ (.inl (by simp)), hgd2.one⟩
          · rw [if_neg hck] at hwin
            have hcv := run_conv _ n (c' - k) _ _ wd hwin
            clear hwin
            go_enter Try.func51, Try.ntmps51
            go_wp2_with fail
            refine HN.out.mono ?_
            rintro e w1 ⟨rfl, rfl⟩
            go_wp2
            go_ret2
            exact ⟨ret_kk (by omega) rfl, (Kept.refl _ _).setCell _ (.inl (by simp)), hgd2.one⟩
        · first
          | (exfalso; omega)
          | (
            have h3 : textE m xs = 1 := by rw [hte.out, if_neg (by simp), if_neg (by omega), if_pos (by omega)]
            obtain ⟨h4, h5⟩ := hbad.out (by rw [h3]; decide)
            rw [h3, h4, h5]
            clear h3 h4 h5 hte hgood hbad hm4 hmd hmx
            go_enter Try.func51, Try.ntmps51
            go_wp2_with fail
            refine HN.out.mono ?_
            rintro e w1 ⟨rfl, rfl⟩
            go_wp2
            go_ret2
            exact ⟨rfl, Kept.refl _ _, hgd2⟩)
      · rw [hmd] at h1
        have h3 : textE m xs = 9 := by rw [hte.out, if_neg (by simp), if_pos (by omega)]
        obtain ⟨h4, h5⟩ := hbad.out (by rw [h3]; decide)
        rw [h3, h4, h5]
        clear h3 h4 h5 hte hgood hbad hm4 hmd hmx
        go_enter Try.func51, Try.ntmps51
        go_wp2_with fail
        refine HN.out.mono ?_
        rintro e w1 ⟨rfl, rfl⟩
        go_wp2
        go_ret2
        exact ⟨rfl, Kept.refl _ _, hgd2⟩
  · have hb : (e != 0) = true := by simp [he]
    have h1 : textE m xs = e := by rw [hte.out, if_pos he]
    obtain ⟨h2, h3⟩ := hbad.out (by rw [h1]; exact he)
    rw [h1, h2, h3]
    clear h1 h2 h3 he hte hgood hbad hmx
    go_enter Try.func51, Try.ntmps51
    go_wp2_with fail
    refine HN.out.mono ?_
    rintro e w1 ⟨rfl, rfl⟩
    go_wp2
    go_ret2
    exact ⟨rfl, Kept.refl _ _, hgd2⟩

theorem rawS_ok {n : Int} {l : List UInt8} (h : rawE n l = 0) : rawK n l = n.toNat ∧ rawS n l = l.take n.toNat := by unfold rawK rawS; rw [if_pos h, if_pos h]; exact ⟨rfl, rfl⟩
/-- a box that a row of bytes lies in -/
def RawBox (g2 B : Nat) (xs : List UInt8) (w' : World) : Prop := ∃ A c, Blk w' g2 30 #[.slice A xs.length c] ∧ w'.ownsRow 0 5 1 (.slice A xs.length c) xs.length (bc xs) ∧ ∀ k ∈ ob A, B ≤ k
set_option maxHeartbeats 2000000 in
set_option maxRecDepth 100000 in
theorem clo_55 (R : Rd) (g g2 : Nat) (m : Int) (hm1 : -9223372036854775808 ≤ m) (hm2 : m ≤ 9223372036854775807) (w : World) (hg : Blk w g 3 #[.int .i64 m]) (hg2 : Blk w g2 30 #[.slice none 0 0]) (htop : R.rest.length ≤ 140737488355328) :
    CloFits 55 [.pointer (some ⟨g, 0, none⟩), .pointer (some ⟨g2, 0, none⟩)] R w [g2] (RawBox g2 w.heap.size (rawS m R.rest)) (rawK m R.rest) (rawE m R.rest) := by
  intro A' c' hr hcap
  generalize R.rest = xs at *
  have hgd := hg.drew
  have hgd2 := hg2.drew
  change Reads w.drew w.drew.heap.size 1 A' xs.length (bc xs) at hr
  show Calls Try.prog 55 _ w.drew fun e w' => e = .returned (.tuple #[.int .i64 (rawK m xs), .int .i64 (rawE m xs)]) ∧ Kept [g2] w.drew w' ∧ RawBox g2 w.drew.heap.size (rawS m xs) w'
  generalize w.drew = wd at *
  have c0 := hgd.cell 0
  have f2 := hgd2.frozen 0
  have c2 := hgd2.cell 0
  simp only [List.getElem?_toArray, List.getElem?_cons_zero] at c0 c2
  have hempty : RawBox g2 wd.heap.size [] wd := ⟨none, 0, hgd2, World.ownsRow_nil _ _ _ _, by simp [ob]⟩
  by_cases hn : m < 0
  · have h3 : rawE m xs = 2 := by unfold rawE; rw [if_pos hn]
    obtain ⟨h4, h5⟩ := raw_bad (m := m) (l := xs) (by rw [h3]; decide)
    rw [h3, h4, h5]
    clear h3 h4 h5
    show Calls _ _ #[_, _, _] _ _
    go_enter Try.func55, Try.ntmps55
    go_wp2
    go_ret2
    exact ⟨rfl, Kept.refl _ _, hempty⟩
  · by_cases hl : (xs.length : Int) < m
    · have h3 : rawE m xs = 1 := by unfold rawE; rw [if_neg hn, if_pos hl]
      obtain ⟨h4, h5⟩ := raw_bad (m := m) (l := xs) (by rw [h3]; decide)
      rw [h3, h4, h5]
      clear h3 h4 h5
      show Calls _ _ #[_, _, _] _ _
      go_enter Try.func55, Try.ntmps55
      go_wp2
      go_ret2
      exact ⟨rfl, Kept.refl _ _, hempty⟩
    · have h3 : rawE m xs = 0 := by unfold rawE; rw [if_neg hn, if_neg hl]
      obtain ⟨h4, h5⟩ := rawS_ok (n := m) (l := xs) h3
      rw [h3, h4, h5]
      clear h3 h4 h5
      obtain ⟨k, rfl⟩ : ∃ k : Nat, m = k := ⟨m.toNat, by omega⟩
      have hk : k ≤ xs.length := by omega
      have hwin := hr.take (k := k) hk
      rw [Nat.mul_one, show (bc xs).take k = bc (xs.take k) by unfold bc; rw [List.map_take]] at hwin
      rw [show ((k : Int)).toNat = k by omega]
      obtain ⟨i0, hi0, hz0, hz1, hz2⟩ := info_parts Try.info5
      show Calls _ _ #[_, _, _] _ _
      have c0a : ∀ o, (wd.alloc o).cell? ⟨g, 0, none⟩ = some (.int .i64 (k : Int)) := fun o => ((hgd.alloc o).cell 0).trans (by simp)
      have hlt := hgd.lt
      have hlt2 := hgd2.lt
      have hgg : (⟨g2, 0, none⟩ : Addr) ≠ ⟨g, 0, none⟩ := fun h => hgd.ne_ hgd2 (by decide) (by injection h with h; exact h.symm)
      go_enter Try.func55, Try.ntmps55
      go_wp2_with (at_builtin; refine wpList_app rfl (.tmp 14) (.tmp 17) 30 30 rfl 5 i0 _ 1 1 Try.underlying30 hi0 hz0 hz1 hz2 rfl (by omega) (some ⟨wd.heap.size, 0, none⟩) 0 0 [] rfl (World.ownsRow_made wd #[] 0 (Nat.zero_le _) (by simp [maxLen]) rfl) _ k (bc (xs.take k)) rfl (Src.ofReads Try.underlying30 (hwin.alloc (by omega) _) (bc_one _)) (by simp only [maxLen]; omega) (by omega) ?_; intro A1 k1 w1 hown1 hk1 hf1; rw [Nat.zero_add, List.nil_append] at hown1; have hkw := hk1.of_alloc; have hb1 := hkw.blk hgd2 (by simp [ob]; omega); have c0'' := (hkw.cell (p := ⟨g, 0, none⟩) hlt (by simp [ob]; omega)).trans c0; have c0' : ∀ v, (w1.setCell ⟨g2, 0, none⟩ v).cell? ⟨g, 0, none⟩ = some (.int .i64 (k : Int)) := fun v => (World.cell?_setCell_other w1 _ _ v hgg).trans c0''; have c2' := hb1.cell 0; have f2' := hb1.frozen 0; simp only [List.getElem?_toArray, List.getElem?_cons_zero] at c2')
      go_ret2
      have hl : k = (xs.take k).length := by simp; omega
      exact ⟨rfl, ((Kept.refl [g2] wd).trans hkw (fun x hx => .inr (by simp [ob] at hx; omega))).setCell _ (.inl (by simp)), A1, k1, by rw [← hl]; exact hb1.one, by rw [← hl]; exact own_far hown1 (fun g' hg' he => by subst he; exact own_blk_ne hown1 hb1 (by decide) hg') _, fun x hx => (hf1 x hx).elim (fun h => by simp [ob] at h; omega) (fun h => by simp at h; omega)⟩

theorem kept_new2 {w w' : World} {b : Nat} {o o' : Obj} (h : Kept [b, w.heap.size + 1] ((w.alloc o).alloc o') w') : Kept [b] w w' :=
  (((Kept.refl [b] w).alloc o).alloc o').trans h (fun x hx => by
    simp at hx
    rcases hx with rfl | rfl
    · exact .inl (by simp)
    · exact .inr (by omega))
theorem IsR.new_ne2 {w : World} {b c : Nat} {R : Rd} {A : Option Addr} (h : IsR w b R A c) : ∀ x ∈ b :: ob A, x ∉ [w.heap.size + 1] := by
  intro x hx hm
  have := h.lt x hx
  simp at hm
  omega
set_option maxHeartbeats 2000000 in
theorem rtext_any (b : Nat) (R : Rd) (A : Option Addr) (c : Nat) (m : Int) (hm1 : -9223372036854775808 ≤ m) (hm2 : m ≤ 9223372036854775807) (w : World) (h : IsR w b R A c) :
    Calls Try.prog 26 #[.pointer (some ⟨b, 0, none⟩), .int .i64 m] w (RdEnds w b (R.text m).2 A c (.string ⟨(R.text m).1.toArray⟩)) := by
  have h0 := (h.below (below_alloc w (.cells #[.int .i64 m] 3))).below (below_alloc (w.alloc (.cells #[.int .i64 m] 3)) (.cells #[.string ⟨#[]⟩] 9))
  have hg := (Blk.new w 3 #[.int .i64 m]).alloc (.cells #[.string ⟨#[]⟩] 9)
  have hg2 := Blk.new (w.alloc (.cells #[.int .i64 m] 3)) 9 #[.string ⟨#[]⟩]
  have hbs := h.lt b (by simp)
  rw [World.size_alloc] at hg2
  by_cases he : R.e = 0
  · have e1 : R.text m = (textS m R.rest, R.step (textK m R.rest) (textE m R.rest)) := by unfold Rd.text; rw [if_pos he]
    rw [e1]
    clear e1
    go_enter Try.func26, Try.ntmps26
    go_wp2_with fail
    refine (read_51 b R A c _ _ _ [w.heap.size + 1] _ _ _ h0 he (textK_le _ _) h.new_ne2 (blk_stays (by omega)) (clo_51 R _ _ m hm1 hm2 _ hg hg2 (Rd.rest_le h))).mono ?_
    rintro e w1 ⟨rfl, hR, hk, hq⟩
    have x0 := hq.cell 0
    simp only [List.getElem?_toArray, List.getElem?_cons_zero] at x0
    go_wp2
    go_ret
    exact ⟨rfl, hR, kept_new2 hk⟩
  · have e1 : R.text m = ([], R) := by unfold Rd.text; rw [if_neg he]
    rw [e1]
    clear e1
    go_enter Try.func26, Try.ntmps26
    go_wp2_with fail
    refine (skip_51 b R A c _ _ _ h0 he).mono ?_
    rintro e w1 ⟨rfl, rfl⟩
    go_wp2
    go_ret
    exact ⟨rfl, h0, ((Kept.refl _ _).alloc _).alloc _⟩
/-- what Raw leaves: the reader and a row of its own, fresh -/
def RawEnds (w : World) (b : Nat) (R' : Rd) (A : Option Addr) (c : Nat) (xs : List UInt8) (e : Ending) (w' : World) : Prop :=
  ∃ A1 c1, e = .returned (.slice A1 xs.length c1) ∧ w'.ownsRow 0 5 1 (.slice A1 xs.length c1) xs.length (bc xs) ∧ (∀ k ∈ ob A1, w.heap.size ≤ k) ∧ IsR w' b R' A c ∧ Kept [b] w w'
set_option maxHeartbeats 2000000 in
theorem rraw_any (b : Nat) (R : Rd) (A : Option Addr) (c : Nat) (m : Int) (hm1 : -9223372036854775808 ≤ m) (hm2 : m ≤ 9223372036854775807) (w : World) (h : IsR w b R A c) :
    Calls Try.prog 43 #[.pointer (some ⟨b, 0, none⟩), .int .i64 m] w (RawEnds w b (R.raw m).2 A c (R.raw m).1) := by
  have h0 := (h.below (below_alloc w (.cells #[.int .i64 m] 3))).below (below_alloc (w.alloc (.cells #[.int .i64 m] 3)) (.cells #[.slice none 0 0] 30))
  have hg := (Blk.new w 3 #[.int .i64 m]).alloc (.cells #[.slice none 0 0] 30)
  have hg2 := Blk.new (w.alloc (.cells #[.int .i64 m] 3)) 30 #[.slice none 0 0]
  have hbs := h.lt b (by simp)
  rw [World.size_alloc] at hg2
  by_cases he : R.e = 0
  · have e1 : R.raw m = (rawS m R.rest, R.step (rawK m R.rest) (rawE m R.rest)) := by unfold Rd.raw; rw [if_pos he]
    rw [e1]
    clear e1
    go_enter Try.func43, Try.ntmps43
    go_wp2_with fail
    refine (read_55 b R A c _ _ _ [w.heap.size + 1] (RawBox (w.heap.size + 1) (w.heap.size + 2) (rawS m R.rest)) (rawK m R.rest) (rawE m R.rest) h0 he (rawK_le _ _) h.new_ne2 ?_ ?_).mono ?_
    · rintro w1 o v ⟨A1, c1, q1, q2, q3⟩
      refine ⟨A1, c1, blk_stays (by omega) _ _ _ q1, own_far q2 (fun g' hg' he => ?_) _, q3⟩
      have := q3 g' (ownBlock_mem.1 hg')
      simp at he
      omega
    · have hc := clo_55 R _ _ m hm1 hm2 _ hg hg2 (Rd.rest_le h)
      rw [World.size_alloc, World.size_alloc] at hc
      exact hc
    rintro e w1 ⟨rfl, hR, hk, A1, c1, q1, q2, q3⟩
    have x0 := q1.cell 0
    simp only [List.getElem?_toArray, List.getElem?_cons_zero] at x0
    go_wp2
    go_ret
    exact ⟨A1, c1, rfl, q2, fun k hk => by have := q3 k hk; omega, hR, kept_new2 hk⟩
  · have e1 : R.raw m = ([], R) := by unfold Rd.raw; rw [if_neg he]
    rw [e1]
    clear e1
    go_enter Try.func43, Try.ntmps43
    go_wp2_with fail
    refine (skip_55 b R A c _ _ _ h0 he).mono ?_
    rintro e w1 ⟨rfl, rfl⟩
    go_wp2
    go_ret
    exact ⟨none, 0, rfl, World.ownsRow_nil _ _ _ _, by simp [ob], h0, ((Kept.refl _ _).alloc _).alloc _⟩
end Go.Proofs.Ytidiohmpmjhbaaa
