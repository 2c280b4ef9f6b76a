/- The readers of layer 1: the reference's, and the two New. -/
import Derived.Test.YtidiohmpmjhbaaaBrD
namespace Go.Proofs.Ytidiohmpmjhbaaa
open Go.RowKit

/-- block b is the reference's reader R, whose bytes lie at A -/
structure IsQ (w : World) (b : Nat) (R : Rd) (A : Option Addr) (c : Nat) : Prop where
  blk : Blk w b 70 #[.slice A R.bs.length c, .int .i64 R.at_, .int .i64 R.e]
  row : w.ownsRow 0 5 1 (.slice A R.bs.length c) R.bs.length (bc R.bs)
  le : R.at_ ≤ R.bs.length
  top : R.bs.length ≤ 140737488355328
section
variable {w w' : World} {b c : Nat} {R : Rd} {A : Option Addr} {S : List Nat}
theorem IsQ.lt (h : IsQ w b R A c) : ∀ k ∈ b :: ob A, k < w.heap.size := by
  intro k hk
  rcases List.mem_cons.1 hk with rfl | hk
  · exact h.blk.lt
  · exact own_lt h.row k hk
theorem IsQ.kept (h : IsQ w b R A c) (hk : Kept S w w') (hd : ∀ k ∈ b :: ob A, k ∉ S) : IsQ w' b R A c :=
  ⟨hk.blk h.blk (hd b (by simp)), hk.own h.row (fun _ hg => hd _ (List.mem_cons_of_mem _ (ownBlock_mem.1 hg))), h.le, h.top⟩
theorem IsQ.below (h : IsQ w b R A c) (hb : Below w.heap.size w w') : IsQ w' b R A c := h.kept (S := []) (Kept.of_below hb) (by simp)
theorem IsQ.drewN (h : IsQ w b R A c) (n : Nat) : IsQ (w.drewN n) b R A c := h.kept (S := []) ((Kept.refl _ _).drewN _) (by simp)
theorem IsQ.rest (h : IsQ w b R A c) : Reads w w.heap.size 1 (if c = R.at_ then A else A.map (·.add R.at_)) (R.bs.length - R.at_) (bc R.rest) := by
  have h1 := (Reads.of_own h.row).cut (k := R.at_) (cap := c) h.le (own_cap h.row).1
  rw [Nat.mul_one] at h1
  have e : (bc R.bs).drop R.at_ = bc R.rest := by unfold Rd.rest bc; rw [List.map_drop]
  rw [e] at h1
  exact h1
theorem IsQ.advance (h : IsQ w b R A c) (k : Nat) (hk : R.at_ + k ≤ R.bs.length) : IsQ (w.setCell ⟨b, 1, none⟩ (.int .i64 ((R.at_ : Int) + k))) b { R with at_ := R.at_ + k } A c := by
  refine ⟨?_, ?_, hk, h.top⟩
  · have := h.blk.set_ 1 (.int .i64 ((R.at_ : Int) + k))
    simpa using this
  · exact own_far h.row (fun g hg he => by subst he; exact own_blk_ne h.row h.blk (by decide) hg) _
theorem IsQ.fail (h : IsQ w b R A c) (e : Int) : IsQ (w.setCell ⟨b, 2, none⟩ (.int .i64 e)) b { R with e := e } A c := by
  refine ⟨?_, ?_, h.le, h.top⟩
  · have := h.blk.set_ 2 (.int .i64 e)
    simpa using this
  · exact own_far h.row (fun g hg he => by subst he; exact own_blk_ne h.row h.blk (by decide) hg) _
end
/-- what a call of the reference's reader that answers leaves -/
def QdEnds (w : World) (b : Nat) (R' : Rd) (A : Option Addr) (c : Nat) (v : Value) (e : Ending) (w' : World) : Prop := e = .returned v ∧ IsQ w' b R' A c ∧ Kept [b] w w'
def QawEnds (w : World) (b : Nat) (R' : Rd) (A : Option Addr) (c : Nat) (xs : List UInt8) (e : Ending) (w' : World) : Prop :=
  ∃ A1 c1, e = .returned (.slice A1 xs.length c1) ∧ w'.ownsRow 0 5 1 (.slice A1 xs.length c1) xs.length (bc xs) ∧ (∀ k ∈ ob A1, w.heap.size ≤ k) ∧ IsQ w' b R' A c ∧ Kept [b] w w'

set_option maxHeartbeats 1000000 in
theorem qend_any (b : Nat) (R : Rd) (A : Option Addr) (c : Nat) (w : World) (h : IsQ w b R A c) :
    Calls Try.prog 17 #[.pointer (some ⟨b, 0, none⟩)] w (Looks w (.int .i64 R.fin)) := by
  have c0 := h.blk.cell 0
  have c1 := h.blk.cell 1
  have c2 := h.blk.cell 2
  simp only [List.getElem?_toArray, List.getElem?_cons_zero, List.getElem?_cons_succ] at c0 c1 c2
  by_cases he : R.e = 0
  · rw [he] at c2
    by_cases hl : R.at_ < R.bs.length
    · have hf : Hid (R.fin = 7) := by unfold Hid Rd.fin; rw [if_pos ⟨he, hl⟩]
      clear he
      go_enter Try.func17, Try.ntmps17
      go_wp2
      go_quiet (fail)
      go_wp2
      go_ret
      exact ⟨ret_int hf.out.symm, _, rfl⟩
    · have hf : Hid (R.fin = 0) := by unfold Hid Rd.fin; rw [if_neg (fun hh => hl hh.2), he]
      have hd : decide (R.at_ < R.bs.length) = false := by simpa using hl
      clear he
      go_enter Try.func17, Try.ntmps17
      go_wp2
      go_quiet (fail)
      go_wp2
      go_ret
      exact ⟨ret_int hf.out.symm, _, rfl⟩
  · have hf : Hid (R.fin = R.e) := by unfold Hid Rd.fin; rw [if_neg (fun hh => he hh.1)]
    have hb : (R.e == 0) = false := beq_eq_false_iff_ne.2 he
    clear he
    go_enter Try.func17, Try.ntmps17
    go_wp2
    go_quiet (fail)
    go_wp2
    go_ret
    exact ⟨ret_int hf.out.symm, _, rfl⟩

set_option maxHeartbeats 2000000 in
set_option maxRecDepth 100000 in
theorem rnew_any (A : Option Addr) (c B : Nat) (bs : List UInt8) (w : World) (hr : Reads w B 1 A bs.length (bc bs)) (hB : B ≤ w.heap.size) (hl : bs.length ≤ 140737488355328) :
    Calls Try.prog 13 #[.slice A bs.length c] w fun e w' => ∃ b A1 c1, e = .returned (.pointer (some ⟨b, 0, none⟩)) ∧ IsR w' b ⟨bs, 0, 0⟩ A1 c1 ∧ Below w.heap.size w w' ∧ ∀ k ∈ b :: ob A1, w.heap.size ≤ k := by
  obtain ⟨i0, hi0, hz0, hz1, hz2⟩ := info_parts Try.info5
  go_enter Try.func13, Try.ntmps13
  go_wp2_with (at_builtin; refine wpList_app rfl (.tmp 3) (.tmp 4) 30 30 rfl 5 i0 _ 1 1 Try.underlying30 hi0 hz0 hz1 hz2 rfl (by omega) (some ⟨w.heap.size, 0, none⟩) 0 0 [] rfl (World.ownsRow_made w #[] 0 (Nat.zero_le _) (by simp [maxLen]) rfl) _ bs.length (bc bs) rfl (Src.ofReads Try.underlying30 (hr.alloc hB _) (bc_one _)) (by simp only [maxLen]; omega) (by omega) ?_; intro A1 k1 w1 hown1 hk1 hf1; rw [Nat.zero_add, List.nil_append] at hown1; have hb1 : Below w.heap.size w w1 := hk1.of_alloc.below (Nat.le_refl _) (by simp [ob]))
  go_ret
  have hs := hb1.size
  refine ⟨w1.heap.size, A1, k1, rfl, ⟨Blk.new w1 68 _, hown1.alloc _, Nat.zero_le _, hl⟩, hb1.alloc hb1.size _, fun x hx => ?_⟩
  rcases List.mem_cons.1 hx with rfl | hx
  · exact hs
  · exact (hf1 x hx).elim (fun h => by simp [ob] at h; omega) (fun h => by simp at h; omega)
set_option maxHeartbeats 2000000 in
set_option maxRecDepth 100000 in
theorem qnew_any (A : Option Addr) (c B : Nat) (bs : List UInt8) (w : World) (hr : Reads w B 1 A bs.length (bc bs)) (hB : B ≤ w.heap.size) (hl : bs.length ≤ 140737488355328) :
    Calls Try.prog 14 #[.slice A bs.length c] w fun e w' => ∃ b A1 c1, e = .returned (.pointer (some ⟨b, 0, none⟩)) ∧ IsQ w' b ⟨bs, 0, 0⟩ A1 c1 ∧ Below w.heap.size w w' ∧ ∀ k ∈ b :: ob A1, w.heap.size ≤ k := by
  obtain ⟨i0, hi0, hz0, hz1, hz2⟩ := info_parts Try.info5
  go_enter Try.func14, Try.ntmps14
  go_wp2_with (at_builtin; refine wpList_app rfl (.tmp 3) (.tmp 4) 30 30 rfl 5 i0 _ 1 1 Try.underlying30 hi0 hz0 hz1 hz2 rfl (by omega) (some ⟨w.heap.size, 0, none⟩) 0 0 [] rfl (World.ownsRow_made w #[] 0 (Nat.zero_le _) (by simp [maxLen]) rfl) _ bs.length (bc bs) rfl (Src.ofReads Try.underlying30 (hr.alloc hB _) (bc_one _)) (by simp only [maxLen]; omega) (by omega) ?_; intro A1 k1 w1 hown1 hk1 hf1; rw [Nat.zero_add, List.nil_append] at hown1; have hb1 : Below w.heap.size w w1 := hk1.of_alloc.below (Nat.le_refl _) (by simp [ob]))
  go_ret
  have hs := hb1.size
  refine ⟨w1.heap.size, A1, k1, rfl, ⟨Blk.new w1 70 _, hown1.alloc _, Nat.zero_le _, hl⟩, hb1.alloc hb1.size _, fun x hx => ?_⟩
  rcases List.mem_cons.1 hx with rfl | hx
  · exact hs
  · exact (hf1 x hx).elim (fun h => by simp [ob] at h; omega) (fun h => by simp at h; omega)

theorem qaw_none {w w' : World} {b : Nat} {R' : Rd} {A : Option Addr} {c : Nat} (h : IsQ w' b R' A c) (hk : Kept [b] w w') : QawEnds w b R' A c [] (.returned (.slice none 0 0)) w' :=
  ⟨none, 0, rfl, World.ownsRow_nil _ _ _ _, by simp [ob], h, hk⟩
set_option maxHeartbeats 2000000 in
set_option maxRecDepth 100000 in
theorem qraw_any (b : Nat) (R : Rd) (A : Option Addr) (c : Nat) (m : Int) (hm1 : -9223372036854775808 ≤ m) (hm2 : m ≤ 9223372036854775807) (w : World) (h : IsQ w b R A c) :
    Calls Try.prog 44 #[.pointer (some ⟨b, 0, none⟩), .int .i64 m] w (QawEnds w b (R.raw m).2 A c (R.raw m).1) := by
  have c0 := h.blk.cell 0
  have c1 := h.blk.cell 1
  have c2 := h.blk.cell 2
  have f1 := h.blk.frozen 1
  have f2 := h.blk.frozen 2
  simp only [List.getElem?_toArray, List.getElem?_cons_zero, List.getElem?_cons_succ] at c0 c1 c2
  have hle := h.le
  have htop := h.top
  by_cases he : R.e = 0
  · have hr0 : Hid (R.raw m = (rawS m R.rest, R.step (rawK m R.rest) (rawE m R.rest))) := by unfold Hid Rd.raw; rw [if_pos he]
    rw [he] at c2
    by_cases hn : m < 0
    · have h3 : rawE m R.rest = 2 := by unfold rawE; rw [if_pos hn]
      obtain ⟨h4, h5⟩ := raw_bad (m := m) (l := R.rest) (by rw [h3]; decide)
      have hf := h.fail 2
      rw [hr0.out, h3, h4, h5, show R.step 0 2 = { R with e := 2 } from rfl]
      clear h3 h4 h5 hr0 he
      go_enter Try.func44, Try.ntmps44
      go_wp2
      go_quiet (fail)
      go_wp2
      go_ret
      exact qaw_none (hf.drewN _) (((Kept.refl _ _).setCell _ (.inl (by simp))).drewN _)
    · have hrl : R.rest.length = R.bs.length - R.at_ := by unfold Rd.rest; simp
      by_cases hl : (R.rest.length : Int) < m
      · have h3 : rawE m R.rest = 1 := by unfold rawE; rw [if_neg hn, if_pos hl]
        obtain ⟨h4, h5⟩ := raw_bad (m := m) (l := R.rest) (by rw [h3]; decide)
        rw [hr0.out, h3, h4, h5, show R.step 0 1 = { R with e := 1 } from rfl]
        have hl2 : (R.bs.length : Int) - R.at_ < m := by omega
        have hF : ∀ n, Hid (IsQ ((w.drewN n).setCell ⟨b, 2, none⟩ (.int .i64 1)) b { R with e := 1 } A c) := fun n => (h.drewN n).fail 1
        clear h3 h4 h5 hr0 he hrl hl
        go_enter Try.func44, Try.ntmps44
        go_wp2
        go_quiet (fail)
        go_wp2
        go_ret
        exact qaw_none (hF _).out (((Kept.refl _ _).drewN _).setCell _ (.inl (by simp)))
      · have h3 : rawE m R.rest = 0 := by unfold rawE; rw [if_neg hn, if_neg hl]
        obtain ⟨h4, h5⟩ := rawS_ok (n := m) (l := R.rest) h3
        obtain ⟨k, rfl⟩ : ∃ k : Nat, m = k := ⟨m.toNat, by omega⟩
        rw [hr0.out, h3, h4, h5, show ((k : Int)).toNat = k by omega, show R.step k 0 = { R with at_ := R.at_ + k } from rfl]
        have hk : k ≤ R.rest.length := by omega
        have hl2 : ¬ (R.bs.length : Int) - R.at_ < k := by omega
        have hk2 : (R.at_ : Int) + k ≤ R.bs.length := by omega
        have hwin := (h.rest).take (k := k) (by omega)
        rw [Nat.mul_one, show (bc R.rest).take k = bc (R.rest.take k) by unfold bc; rw [List.map_take]] at hwin
        have hlen : Hid (k = (R.rest.take k).length) := by unfold Hid; simp; omega
        obtain ⟨hcap1, hcap2⟩ := own_cap h.row
        obtain ⟨i0, hi0, hz0, hz1, hz2⟩ := info_parts Try.info5
        clear h3 h4 h5 hr0 he hrl hl hk
        have hs2 : (R.at_ : Int) ≤ (R.at_ : Int) + (k : Int) := by omega
        have hs3 : (R.at_ : Int) + (k : Int) ≤ (c : Int) := by omega
        have hs4 : IntKind.i64.wrap ((R.at_ : Int) + (k : Int)) = (R.at_ : Int) + (k : Int) := by rw [IntKind.wrap_i64]; omega
        have hs5 : (0 : Int) ≤ (R.at_ : Int) + (k : Int) := by omega
        have hs6 : ((R.at_ : Int) + (k : Int)).toNat = R.at_ + k := by omega
        by_cases hck : c = R.at_
        · rw [if_pos hck] at hwin
          have hif : ∀ x y : Option Addr, (if c = R.at_ then x else y) = x := fun x y => if_pos hck
          clear hck
          go_enter Try.func44, Try.ntmps44
          go_wp2
          go_quiet (fail)
          go_wp2
          obtain ⟨wd, hwd⟩ : ∃ wd, wd = w.drewN nq := ⟨_, rfl⟩
          rw [← hwd]
          have hsz : w.heap.size = wd.heap.size := by rw [hwd]; rfl
          have hkd : Kept [b] w wd := by rw [hwd]; exact (Kept.refl _ _).drewN _
          have hq : IsQ wd b R A c := by rw [hwd]; exact h.drewN nq
          have hwd2 : Reads wd.drew wd.drew.heap.size 1 (A) k (bc (R.rest.take k)) := by
            show Reads wd.drew wd.heap.size 1 _ _ _
            rw [← hsz, hwd]
            exact (hwin.drewN _).drew
          have d0 := hq.blk.cell 0
          have d1 := hq.blk.cell 1
          simp only [List.getElem?_toArray, List.getElem?_cons_zero, List.getElem?_cons_succ] at d0 d1
          have hfresh : (wd.drew.alloc (.cells #[] 5)).ownsRow 0 5 1 (.slice (some ⟨wd.heap.size, 0, none⟩) 0 0) 0 [] := World.ownsRow_made wd.drew #[] 0 (Nat.zero_le _) (by simp [maxLen]) rfl
          have hsrc : Src Try.prog 1 30 (.slice (A) k (c - R.at_)) k (bc (R.rest.take k)) (wd.drew.alloc (.cells #[] 5)) := Src.ofReads Try.underlying30 (hwd2.alloc (Nat.le_refl _) (.cells #[] 5)) (bc_one _)
          clear c0 c1 hwin
          clear hwd
          go_region_held3 (fun w' => w'.cell? ⟨b, 0, none⟩ = some (.slice A R.bs.length c) ∧ w'.cell? ⟨b, 1, none⟩ = some (.int .i64 R.at_))
            (first | go_keep) ((refine step_app rfl (.tmp 45) (.tmp 60) 30 30 (by rfl) 5 i0 (.int .u8 0) 1 1 Try.underlying30 hi0 hz0 hz1 hz2 rfl (by omega) (some ⟨wd.heap.size, 0, none⟩) 0 0 [] (by rfl) hfresh (.slice (A) k (c - R.at_)) k (bc (R.rest.take k)) (by rfl) hsrc (by simp only [maxLen]; omega) (by omega) ?_; intro A1 k1 w1 hown1 hk1 hf1; rw [Nat.zero_add, List.nil_append] at hown1; have hkw : Kept [] wd w1 := (((Kept.refl [] wd).drew).alloc _).trans hk1 (fun x hx => .inr (by simp [ob] at hx; omega)); have hq1 : IsQ w1 b R A c := hq.kept hkw (by simp); have y0 := hq1.blk.cell 0; have y1 := hq1.blk.cell 1; simp only [List.getElem?_toArray, List.getElem?_cons_zero, List.getElem?_cons_succ] at y0 y1))
          have g1 := hq1.blk.frozen 1
          go_wp2
          go_ret
          have hl := hlen.out
          have hF := hq1.advance k (by omega)
          refine ⟨A1, k1, by rw [← hl]; rfl, ?_, fun x hx => (hf1 x hx).elim (fun h => by simp [ob] at h; omega) (fun h => by simp at h; omega), hF, (hkd.trans hkw (fun x hx => absurd hx (by simp))).setCell _ (.inl (by simp))⟩
          rw [← hl]
          exact own_far hown1 (fun g' hg' he => by subst he; exact own_blk_ne hown1 hq1.blk (by decide) hg') _
        · rw [if_neg hck] at hwin
          go_enter Try.func44, Try.ntmps44
          go_wp2
          go_quiet (fail)
          go_wp2
          obtain ⟨wd, hwd⟩ : ∃ wd, wd = w.drewN nq := ⟨_, rfl⟩
          rw [← hwd]
          have hsz : w.heap.size = wd.heap.size := by rw [hwd]; rfl
          have hkd : Kept [b] w wd := by rw [hwd]; exact (Kept.refl _ _).drewN _
          have hq : IsQ wd b R A c := by rw [hwd]; exact h.drewN nq
          have hwd2 : Reads wd.drew wd.drew.heap.size 1 (A.map (·.add R.at_)) k (bc (R.rest.take k)) := by
            show Reads wd.drew wd.heap.size 1 _ _ _
            rw [← hsz, hwd]
            exact (hwin.drewN _).drew
          have d0 := hq.blk.cell 0
          have d1 := hq.blk.cell 1
          simp only [List.getElem?_toArray, List.getElem?_cons_zero, List.getElem?_cons_succ] at d0 d1
          have hfresh : (wd.drew.alloc (.cells #[] 5)).ownsRow 0 5 1 (.slice (some ⟨wd.heap.size, 0, none⟩) 0 0) 0 [] := World.ownsRow_made wd.drew #[] 0 (Nat.zero_le _) (by simp [maxLen]) rfl
          have hsrc : Src Try.prog 1 30 (.slice (A.map (·.add R.at_)) k (c - R.at_)) k (bc (R.rest.take k)) (wd.drew.alloc (.cells #[] 5)) := Src.ofReads Try.underlying30 (hwd2.alloc (Nat.le_refl _) (.cells #[] 5)) (bc_one _)
          clear c0 c1 hwin
          clear hwd
          go_region_held3 (fun w' => w'.cell? ⟨b, 0, none⟩ = some (.slice A R.bs.length c) ∧ w'.cell? ⟨b, 1, none⟩ = some (.int .i64 R.at_))
            (first | go_keep) ((refine step_app rfl (.tmp 45) (.tmp 60) 30 30 (by rfl) 5 i0 (.int .u8 0) 1 1 Try.underlying30 hi0 hz0 hz1 hz2 rfl (by omega) (some ⟨wd.heap.size, 0, none⟩) 0 0 [] (by rfl) hfresh (.slice (A.map (·.add R.at_)) k (c - R.at_)) k (bc (R.rest.take k)) (by rfl) hsrc (by simp only [maxLen]; omega) (by omega) ?_; intro A1 k1 w1 hown1 hk1 hf1; rw [Nat.zero_add, List.nil_append] at hown1; have hkw : Kept [] wd w1 := (((Kept.refl [] wd).drew).alloc _).trans hk1 (fun x hx => .inr (by simp [ob] at hx; omega)); have hq1 : IsQ w1 b R A c := hq.kept hkw (by simp); have y0 := hq1.blk.cell 0; have y1 := hq1.blk.cell 1; simp only [List.getElem?_toArray, List.getElem?_cons_zero, List.getElem?_cons_succ] at y0 y1))
          have g1 := hq1.blk.frozen 1
          go_wp2
          go_ret
          have hl := hlen.out
          have hF := hq1.advance k (by omega)
          refine ⟨A1, k1, by rw [← hl]; rfl, ?_, fun x hx => (hf1 x hx).elim (fun h => by simp [ob] at h; omega) (fun h => by simp at h; omega), hF, (hkd.trans hkw (fun x hx => absurd hx (by simp))).setCell _ (.inl (by simp))⟩
          rw [← hl]
          exact own_far hown1 (fun g' hg' he => by subst he; exact own_blk_ne hown1 hq1.blk (by decide) hg') _
  · have e1 : R.raw m = ([], R) := by unfold Rd.raw; rw [if_neg he]
    have hb0 : (R.e == 0) = false := beq_eq_false_iff_ne.2 he
    have hb1 : (R.e != 0) = true := by simp [he]
    rw [e1]
    clear e1 he
    go_enter Try.func44, Try.ntmps44
    go_wp2
    go_quiet (fail)
    go_wp2
    go_ret
    exact qaw_none (h.drewN _) ((Kept.refl _ _).drewN _)
end Go.Proofs.Ytidiohmpmjhbaaa
