/- The readers of layer 1: what each call does to a reader, the program's. -/
import Derived.Test.YtidiohmpmjhbaaaBrA
import Derived.Deep.RegionHeld3
import Derived.Outline
namespace Go.Proofs.Ytidiohmpmjhbaaa
open Go.RowKit

/-- A reader. -/
structure Rd where
  bs : List UInt8
  at_ : Nat
  e : Int
def Rd.rest (R : Rd) : List UInt8 := R.bs.drop R.at_
/-- a call that reads k bytes, or finds what is wrong -/
def Rd.step (R : Rd) (k : Nat) (e : Int) : Rd := if e = 0 then { R with at_ := R.at_ + k } else { R with e := e }

/-- block b is the program's reader R, whose bytes lie at A -/
structure IsR (w : World) (b : Nat) (R : Rd) (A : Option Addr) (c : Nat) : Prop where
  blk : Blk w b 68 #[.slice A R.bs.length c, .int .i64 R.at_, .int .i64 R.e]
  row : w.ownsRow 0 5 1 (.slice A R.bs.length c) R.bs.length (bc R.bs)
  le : R.at_ ≤ R.bs.length
  top : R.bs.length ≤ 140737488355328
section
variable {w w' : World} {b c : Nat} {R : Rd} {A : Option Addr} {S : List Nat}
theorem IsR.lt (h : IsR w b R A c) : ∀ k ∈ b :: ob A, k < w.heap.size := by
  intro k hk
  rcases List.mem_cons.1 hk with rfl | hk
  · exact h.blk.lt
  · exact own_lt h.row k hk
theorem IsR.kept (h : IsR w b R A c) (hk : Kept S w w') (hd : ∀ k ∈ b :: ob A, k ∉ S) : IsR w' b R A c :=
  ⟨hk.blk h.blk (hd b (by simp)), hk.own h.row (fun _ hg => hd _ (List.mem_cons_of_mem _ (ownBlock_mem.1 hg))), h.le, h.top⟩
theorem IsR.below (h : IsR w b R A c) (hb : Below w.heap.size w w') : IsR w' b R A c := h.kept (S := []) (Kept.of_below hb) (by simp)
theorem IsR.drewN (h : IsR w b R A c) (n : Nat) : IsR (w.drewN n) b R A c := h.kept (S := []) ((Kept.refl _ _).drewN _) (by simp)
theorem IsR.rest (h : IsR w b R A c) : Reads w w.heap.size 1 (if c = R.at_ then A else A.map (·.add R.at_)) (R.bs.length - R.at_) (bc R.rest) := by
  have h1 := (Reads.of_own h.row).cut (k := R.at_) (cap := c) h.le (own_cap h.row).1
  rw [Nat.mul_one] at h1
  have e : (bc R.bs).drop R.at_ = bc R.rest := by unfold Rd.rest bc; rw [List.map_drop]
  rw [e] at h1
  exact h1
theorem IsR.advance (h : IsR w b R A c) (k : Nat) (hk : R.at_ + k ≤ R.bs.length) : IsR (w.setCell ⟨b, 1, none⟩ (.int .i64 ((R.at_ : Int) + k))) b { R with at_ := R.at_ + k } A c := by
  refine ⟨?_, ?_, hk, h.top⟩
  · have := h.blk.set_ 1 (.int .i64 ((R.at_ : Int) + k))
    simpa using this
  · exact own_far h.row (fun g hg he => by subst he; exact own_blk_ne h.row h.blk (by decide) hg) _
theorem IsR.fail (h : IsR w b R A c) (e : Int) : IsR (w.setCell ⟨b, 2, none⟩ (.int .i64 e)) b { R with e := e } A c := by
  refine ⟨?_, ?_, h.le, h.top⟩
  · have := h.blk.set_ 2 (.int .i64 e)
    simpa using this
  · exact own_far h.row (fun g hg he => by subst he; exact own_blk_ne h.row h.blk (by decide) hg) _
end


/-- what a closure that is handed the rest has to do: it tells k and er, writes none of the reader's memory, and leaves Q -/
def CloFits (f : Nat) (caps : List Value) (R : Rd) (w : World) (S : List Nat) (Q : World → Prop) (k : Nat) (er : Int) : Prop :=
  ∀ (A' : Option Addr) (c' : Nat), Reads w.drew w.heap.size 1 A' R.rest.length (bc R.rest) → R.rest.length ≤ c' → Calls Try.prog f (#[.slice A' R.rest.length c'] ++ caps.toArray) w.drew fun e w' =>
    e = .returned (.tuple #[.int .i64 k, .int .i64 er]) ∧ Kept S w.drew w' ∧ Q w'
/-- what read leaves -/
def ReadEnds (w : World) (b : Nat) (R : Rd) (A : Option Addr) (c : Nat) (S : List Nat) (Q : World → Prop) (e : Ending) (w' : World) : Prop :=
  e = .returned (.tuple #[]) ∧ IsR w' b R A c ∧ Kept (b :: S) w w' ∧ Q w'

set_option maxHeartbeats 4000000 in
set_option maxRecDepth 100000 in
theorem read_46 (b : Nat) (R : Rd) (A : Option Addr) (c g : Nat) (w : World) (S : List Nat) (Q : World → Prop) (k : Nat) (er : Int) (h : IsR w b R A c) (he : R.e = 0) (hk : k ≤ R.rest.length) (hS : ∀ x ∈ b :: ob A, x ∉ S)
    (hQ : ∀ w1 o v, Q w1 → Q (w1.setCell ⟨b, o, none⟩ v)) (hc : CloFits 46 [.pointer (some ⟨g, 0, none⟩)] R w S Q k er) :
    Calls Try.prog 45 #[.pointer (some ⟨b, 0, none⟩), .func (.func 46) #[] #[.pointer (some ⟨g, 0, none⟩)]] w (ReadEnds w b (R.step k er) A c S Q) := by
  have c0 := h.blk.cell 0
  have c1 := h.blk.cell 1
  have c2 := h.blk.cell 2
  have f1 := h.blk.frozen 1
  have f2 := h.blk.frozen 2
  simp only [List.getElem?_toArray, List.getElem?_cons_zero, List.getElem?_cons_succ] at c0 c1 c2
  rw [he] at c2
  have hle := h.le
  have htop := h.top
  have hrl : R.rest.length = R.bs.length - R.at_ := by unfold Rd.rest; simp
  have hrest := h.rest
  rw [← hrl] at hrest
  have HC := Lib.hid hc
  have HR := Lib.hid hrest
  have HL := Lib.hid hrl
  have hcap : Hid (R.rest.length ≤ c - R.at_) := by
    unfold Hid
    have := (own_cap h.row).1
    omega
  have hb := h.lt b (by simp)
  clear hc hrest hrl
  by_cases her : er = 0
  · have hb0 : (er != 0) = false := by simp [her]
    have hst : Hid (R.step k er = { R with at_ := R.at_ + k }) := by unfold Hid Rd.step; rw [if_pos her]
    clear her
    go_enter Try.func45, Try.ntmps45
    go_wp2
    go_region_held3 (fun w' => w'.cell? ⟨b, 0, none⟩ = some (.slice A R.bs.length c) ∧ w'.cell? ⟨b, 1, none⟩ = some (.int .i64 R.at_))
      (first | go_keep)
      ((go_at_call 46; rw [← HL.out]; refine (HC.out _ _ HR.out hcap.out).mono ?_; rintro e w1 ⟨rfl, hk1, hq1⟩; have y0 := (hk1.cell (p := ⟨b, 0, none⟩) hb (hS b (by simp))).trans c0; have y1 := (hk1.cell (p := ⟨b, 1, none⟩) hb (hS b (by simp))).trans c1; dsimp only))
    have h1 : IsR w1 b R A c := h.kept (((Kept.refl S w).drew).trans hk1 (fun _ hx => .inl hx)) (fun x hx => hS x hx)
    generalize (if c = R.at_ then A else Option.map (fun x => x.add R.at_) A) = A''
    have y2 := h1.blk.cell 2
    simp only [List.getElem?_toArray, List.getElem?_cons_zero, List.getElem?_cons_succ] at y2
    have g1 := h1.blk.frozen 1
    have g2 := h1.blk.frozen 2
    have hkl : k ≤ R.bs.length - R.at_ := by rw [← HL.out]; exact hk
    go_wp2
    go_end0
    refine ⟨rfl, ?_, (((Kept.refl S w).drew).trans hk1 (fun _ hx => .inl hx)).mono (fun x hx => List.mem_cons_of_mem _ hx) |>.setCell _ (.inl (by simp)), hQ _ _ _ hq1⟩
    rw [hst.out]
    exact h1.advance k (by omega)
  · have hb0 : (er != 0) = true := by simp [her]
    have hst : Hid (R.step k er = { R with e := er }) := by unfold Hid Rd.step; rw [if_neg her]
    clear her
    go_enter Try.func45, Try.ntmps45
    go_wp2
    go_region_held3 (fun w' => w'.cell? ⟨b, 0, none⟩ = some (.slice A R.bs.length c) ∧ w'.cell? ⟨b, 1, none⟩ = some (.int .i64 R.at_))
      (first | go_keep)
      ((go_at_call 46; rw [← HL.out]; refine (HC.out _ _ HR.out hcap.out).mono ?_; rintro e w1 ⟨rfl, hk1, hq1⟩; have y0 := (hk1.cell (p := ⟨b, 0, none⟩) hb (hS b (by simp))).trans c0; have y1 := (hk1.cell (p := ⟨b, 1, none⟩) hb (hS b (by simp))).trans c1; dsimp only))
    have h1 : IsR w1 b R A c := h.kept (((Kept.refl S w).drew).trans hk1 (fun _ hx => .inl hx)) (fun x hx => hS x hx)
    generalize (if c = R.at_ then A else Option.map (fun x => x.add R.at_) A) = A''
    have y2 := h1.blk.cell 2
    simp only [List.getElem?_toArray, List.getElem?_cons_zero, List.getElem?_cons_succ] at y2
    have g1 := h1.blk.frozen 1
    have g2 := h1.blk.frozen 2
    go_wp2
    refine bodyPost_ret (results_none rfl _ _ _) rfl ?_
    refine ⟨rfl, ?_, (((Kept.refl S w).drew).trans hk1 (fun _ hx => .inl hx)).mono (fun x hx => List.mem_cons_of_mem _ hx) |>.setCell _ (.inl (by simp)), hQ _ _ _ hq1⟩
    rw [hst.out]
    exact h1.fail er
-- (printed by gen_brb.py from here on)
set_option maxHeartbeats 4000000 in
set_option maxRecDepth 100000 in
theorem read_48 (b : Nat) (R : Rd) (A : Option Addr) (c g : Nat) (w : World) (S : List Nat) (Q : World → Prop) (k : Nat) (er : Int) (h : IsR w b R A c) (he : R.e = 0) (hk : k ≤ R.rest.length) (hS : ∀ x ∈ b :: ob A, x ∉ S)
    (hQ : ∀ w1 o v, Q w1 → Q (w1.setCell ⟨b, o, none⟩ v)) (hc : CloFits 48 [.pointer (some ⟨g, 0, none⟩)] R w S Q k er) :
    Calls Try.prog 45 #[.pointer (some ⟨b, 0, none⟩), .func (.func 48) #[] #[.pointer (some ⟨g, 0, none⟩)]] w (ReadEnds w b (R.step k er) A c S Q) := by
  have c0 := h.blk.cell 0
  have c1 := h.blk.cell 1
  have c2 := h.blk.cell 2
  have f1 := h.blk.frozen 1
  have f2 := h.blk.frozen 2
  simp only [List.getElem?_toArray, List.getElem?_cons_zero, List.getElem?_cons_succ] at c0 c1 c2
  rw [he] at c2
  have hle := h.le
  have htop := h.top
  have hrl : R.rest.length = R.bs.length - R.at_ := by unfold Rd.rest; simp
  have hrest := h.rest
  rw [← hrl] at hrest
  have HC := Lib.hid hc
  have HR := Lib.hid hrest
  have HL := Lib.hid hrl
  have hcap : Hid (R.rest.length ≤ c - R.at_) := by
    unfold Hid
    have := (own_cap h.row).1
    omega
  have hb := h.lt b (by simp)
  clear hc hrest hrl
  by_cases her : er = 0
  · have hb0 : (er != 0) = false := by simp [her]
    have hst : Hid (R.step k er = { R with at_ := R.at_ + k }) := by unfold Hid Rd.step; rw [if_pos her]
    clear her
    go_enter Try.func45, Try.ntmps45
    go_wp2
    go_region_held3 (fun w' => w'.cell? ⟨b, 0, none⟩ = some (.slice A R.bs.length c) ∧ w'.cell? ⟨b, 1, none⟩ = some (.int .i64 R.at_))
      (first | go_keep)
      ((go_at_call 48; rw [← HL.out]; refine (HC.out _ _ HR.out hcap.out).mono ?_; rintro e w1 ⟨rfl, hk1, hq1⟩; have y0 := (hk1.cell (p := ⟨b, 0, none⟩) hb (hS b (by simp))).trans c0; have y1 := (hk1.cell (p := ⟨b, 1, none⟩) hb (hS b (by simp))).trans c1; dsimp only))
    have h1 : IsR w1 b R A c := h.kept (((Kept.refl S w).drew).trans hk1 (fun _ hx => .inl hx)) (fun x hx => hS x hx)
    generalize (if c = R.at_ then A else Option.map (fun x => x.add R.at_) A) = A''
    have y2 := h1.blk.cell 2
    simp only [List.getElem?_toArray, List.getElem?_cons_zero, List.getElem?_cons_succ] at y2
    have g1 := h1.blk.frozen 1
    have g2 := h1.blk.frozen 2
    have hkl : k ≤ R.bs.length - R.at_ := by rw [← HL.out]; exact hk
    go_wp2
    go_end0
    refine ⟨rfl, ?_, (((Kept.refl S w).drew).trans hk1 (fun _ hx => .inl hx)).mono (fun x hx => List.mem_cons_of_mem _ hx) |>.setCell _ (.inl (by simp)), hQ _ _ _ hq1⟩
    rw [hst.out]
    exact h1.advance k (by omega)
  · have hb0 : (er != 0) = true := by simp [her]
    have hst : Hid (R.step k er = { R with e := er }) := by unfold Hid Rd.step; rw [if_neg her]
    clear her
    go_enter Try.func45, Try.ntmps45
    go_wp2
    go_region_held3 (fun w' => w'.cell? ⟨b, 0, none⟩ = some (.slice A R.bs.length c) ∧ w'.cell? ⟨b, 1, none⟩ = some (.int .i64 R.at_))
      (first | go_keep)
      ((go_at_call 48; rw [← HL.out]; refine (HC.out _ _ HR.out hcap.out).mono ?_; rintro e w1 ⟨rfl, hk1, hq1⟩; have y0 := (hk1.cell (p := ⟨b, 0, none⟩) hb (hS b (by simp))).trans c0; have y1 := (hk1.cell (p := ⟨b, 1, none⟩) hb (hS b (by simp))).trans c1; dsimp only))
    have h1 : IsR w1 b R A c := h.kept (((Kept.refl S w).drew).trans hk1 (fun _ hx => .inl hx)) (fun x hx => hS x hx)
    generalize (if c = R.at_ then A else Option.map (fun x => x.add R.at_) A) = A''
    have y2 := h1.blk.cell 2
    simp only [List.getElem?_toArray, List.getElem?_cons_zero, List.getElem?_cons_succ] at y2
    have g1 := h1.blk.frozen 1
    have g2 := h1.blk.frozen 2
    go_wp2
    refine bodyPost_ret (results_none rfl _ _ _) rfl ?_
    refine ⟨rfl, ?_, (((Kept.refl S w).drew).trans hk1 (fun _ hx => .inl hx)).mono (fun x hx => List.mem_cons_of_mem _ hx) |>.setCell _ (.inl (by simp)), hQ _ _ _ hq1⟩
    rw [hst.out]
    exact h1.fail er

set_option maxHeartbeats 4000000 in
set_option maxRecDepth 100000 in
theorem read_51 (b : Nat) (R : Rd) (A : Option Addr) (c g g2 : Nat) (w : World) (S : List Nat) (Q : World → Prop) (k : Nat) (er : Int) (h : IsR w b R A c) (he : R.e = 0) (hk : k ≤ R.rest.length) (hS : ∀ x ∈ b :: ob A, x ∉ S)
    (hQ : ∀ w1 o v, Q w1 → Q (w1.setCell ⟨b, o, none⟩ v)) (hc : CloFits 51 [.pointer (some ⟨g, 0, none⟩), .pointer (some ⟨g2, 0, none⟩)] R w S Q k er) :
    Calls Try.prog 45 #[.pointer (some ⟨b, 0, none⟩), .func (.func 51) #[] #[.pointer (some ⟨g, 0, none⟩), .pointer (some ⟨g2, 0, none⟩)]] w (ReadEnds w b (R.step k er) A c S Q) := by
  have c0 := h.blk.cell 0
  have c1 := h.blk.cell 1
  have c2 := h.blk.cell 2
  have f1 := h.blk.frozen 1
  have f2 := h.blk.frozen 2
  simp only [List.getElem?_toArray, List.getElem?_cons_zero, List.getElem?_cons_succ] at c0 c1 c2
  rw [he] at c2
  have hle := h.le
  have htop := h.top
  have hrl : R.rest.length = R.bs.length - R.at_ := by unfold Rd.rest; simp
  have hrest := h.rest
  rw [← hrl] at hrest
  have HC := Lib.hid hc
  have HR := Lib.hid hrest
  have HL := Lib.hid hrl
  have hcap : Hid (R.rest.length ≤ c - R.at_) := by
    unfold Hid
    have := (own_cap h.row).1
    omega
  have hb := h.lt b (by simp)
  clear hc hrest hrl
  by_cases her : er = 0
  · have hb0 : (er != 0) = false := by simp [her]
    have hst : Hid (R.step k er = { R with at_ := R.at_ + k }) := by unfold Hid Rd.step; rw [if_pos her]
    clear her
    go_enter Try.func45, Try.ntmps45
    go_wp2
    go_region_held3 (fun w' => w'.cell? ⟨b, 0, none⟩ = some (.slice A R.bs.length c) ∧ w'.cell? ⟨b, 1, none⟩ = some (.int .i64 R.at_))
      (first | go_keep)
      ((go_at_call 51; rw [← HL.out]; refine (HC.out _ _ HR.out hcap.out).mono ?_; rintro e w1 ⟨rfl, hk1, hq1⟩; have y0 := (hk1.cell (p := ⟨b, 0, none⟩) hb (hS b (by simp))).trans c0; have y1 := (hk1.cell (p := ⟨b, 1, none⟩) hb (hS b (by simp))).trans c1; dsimp only))
    have h1 : IsR w1 b R A c := h.kept (((Kept.refl S w).drew).trans hk1 (fun _ hx => .inl hx)) (fun x hx => hS x hx)
    generalize (if c = R.at_ then A else Option.map (fun x => x.add R.at_) A) = A''
    have y2 := h1.blk.cell 2
    simp only [List.getElem?_toArray, List.getElem?_cons_zero, List.getElem?_cons_succ] at y2
    have g1 := h1.blk.frozen 1
    have g2 := h1.blk.frozen 2
    have hkl : k ≤ R.bs.length - R.at_ := by rw [← HL.out]; exact hk
    go_wp2
    go_end0
    refine ⟨rfl, ?_, (((Kept.refl S w).drew).trans hk1 (fun _ hx => .inl hx)).mono (fun x hx => List.mem_cons_of_mem _ hx) |>.setCell _ (.inl (by simp)), hQ _ _ _ hq1⟩
    rw [hst.out]
    exact h1.advance k (by omega)
  · have hb0 : (er != 0) = true := by simp [her]
    have hst : Hid (R.step k er = { R with e := er }) := by unfold Hid Rd.step; rw [if_neg her]
    clear her
    go_enter Try.func45, Try.ntmps45
    go_wp2
    go_region_held3 (fun w' => w'.cell? ⟨b, 0, none⟩ = some (.slice A R.bs.length c) ∧ w'.cell? ⟨b, 1, none⟩ = some (.int .i64 R.at_))
      (first | go_keep)
      ((go_at_call 51; rw [← HL.out]; refine (HC.out _ _ HR.out hcap.out).mono ?_; rintro e w1 ⟨rfl, hk1, hq1⟩; have y0 := (hk1.cell (p := ⟨b, 0, none⟩) hb (hS b (by simp))).trans c0; have y1 := (hk1.cell (p := ⟨b, 1, none⟩) hb (hS b (by simp))).trans c1; dsimp only))
    have h1 : IsR w1 b R A c := h.kept (((Kept.refl S w).drew).trans hk1 (fun _ hx => .inl hx)) (fun x hx => hS x hx)
    generalize (if c = R.at_ then A else Option.map (fun x => x.add R.at_) A) = A''
    have y2 := h1.blk.cell 2
    simp only [List.getElem?_toArray, List.getElem?_cons_zero, List.getElem?_cons_succ] at y2
    have g1 := h1.blk.frozen 1
    have g2 := h1.blk.frozen 2
    go_wp2
    refine bodyPost_ret (results_none rfl _ _ _) rfl ?_
    refine ⟨rfl, ?_, (((Kept.refl S w).drew).trans hk1 (fun _ hx => .inl hx)).mono (fun x hx => List.mem_cons_of_mem _ hx) |>.setCell _ (.inl (by simp)), hQ _ _ _ hq1⟩
    rw [hst.out]
    exact h1.fail er

set_option maxHeartbeats 4000000 in
set_option maxRecDepth 100000 in
theorem read_55 (b : Nat) (R : Rd) (A : Option Addr) (c g g2 : Nat) (w : World) (S : List Nat) (Q : World → Prop) (k : Nat) (er : Int) (h : IsR w b R A c) (he : R.e = 0) (hk : k ≤ R.rest.length) (hS : ∀ x ∈ b :: ob A, x ∉ S)
    (hQ : ∀ w1 o v, Q w1 → Q (w1.setCell ⟨b, o, none⟩ v)) (hc : CloFits 55 [.pointer (some ⟨g, 0, none⟩), .pointer (some ⟨g2, 0, none⟩)] R w S Q k er) :
    Calls Try.prog 45 #[.pointer (some ⟨b, 0, none⟩), .func (.func 55) #[] #[.pointer (some ⟨g, 0, none⟩), .pointer (some ⟨g2, 0, none⟩)]] w (ReadEnds w b (R.step k er) A c S Q) := by
  have c0 := h.blk.cell 0
  have c1 := h.blk.cell 1
  have c2 := h.blk.cell 2
  have f1 := h.blk.frozen 1
  have f2 := h.blk.frozen 2
  simp only [List.getElem?_toArray, List.getElem?_cons_zero, List.getElem?_cons_succ] at c0 c1 c2
  rw [he] at c2
  have hle := h.le
  have htop := h.top
  have hrl : R.rest.length = R.bs.length - R.at_ := by unfold Rd.rest; simp
  have hrest := h.rest
  rw [← hrl] at hrest
  have HC := Lib.hid hc
  have HR := Lib.hid hrest
  have HL := Lib.hid hrl
  have hcap : Hid (R.rest.length ≤ c - R.at_) := by
    unfold Hid
    have := (own_cap h.row).1
    omega
  have hb := h.lt b (by simp)
  clear hc hrest hrl
  by_cases her : er = 0
  · have hb0 : (er != 0) = false := by simp [her]
    have hst : Hid (R.step k er = { R with at_ := R.at_ + k }) := by unfold Hid Rd.step; rw [if_pos her]
    clear her
    go_enter Try.func45, Try.ntmps45
    go_wp2
    go_region_held3 (fun w' => w'.cell? ⟨b, 0, none⟩ = some (.slice A R.bs.length c) ∧ w'.cell? ⟨b, 1, none⟩ = some (.int .i64 R.at_))
      (first | go_keep)
      ((go_at_call 55; rw [← HL.out]; refine (HC.out _ _ HR.out hcap.out).mono ?_; rintro e w1 ⟨rfl, hk1, hq1⟩; have y0 := (hk1.cell (p := ⟨b, 0, none⟩) hb (hS b (by simp))).trans c0; have y1 := (hk1.cell (p := ⟨b, 1, none⟩) hb (hS b (by simp))).trans c1; dsimp only))
    have h1 : IsR w1 b R A c := h.kept (((Kept.refl S w).drew).trans hk1 (fun _ hx => .inl hx)) (fun x hx => hS x hx)
    generalize (if c = R.at_ then A else Option.map (fun x => x.add R.at_) A) = A''
    have y2 := h1.blk.cell 2
    simp only [List.getElem?_toArray, List.getElem?_cons_zero, List.getElem?_cons_succ] at y2
    have g1 := h1.blk.frozen 1
    have g2 := h1.blk.frozen 2
    have hkl : k ≤ R.bs.length - R.at_ := by rw [← HL.out]; exact hk
    go_wp2
    go_end0
    refine ⟨rfl, ?_, (((Kept.refl S w).drew).trans hk1 (fun _ hx => .inl hx)).mono (fun x hx => List.mem_cons_of_mem _ hx) |>.setCell _ (.inl (by simp)), hQ _ _ _ hq1⟩
    rw [hst.out]
    exact h1.advance k (by omega)
  · have hb0 : (er != 0) = true := by simp [her]
    have hst : Hid (R.step k er = { R with e := er }) := by unfold Hid Rd.step; rw [if_neg her]
    clear her
    go_enter Try.func45, Try.ntmps45
    go_wp2
    go_region_held3 (fun w' => w'.cell? ⟨b, 0, none⟩ = some (.slice A R.bs.length c) ∧ w'.cell? ⟨b, 1, none⟩ = some (.int .i64 R.at_))
      (first | go_keep)
      ((go_at_call 55; rw [← HL.out]; refine (HC.out _ _ HR.out hcap.out).mono ?_; rintro e w1 ⟨rfl, hk1, hq1⟩; have y0 := (hk1.cell (p := ⟨b, 0, none⟩) hb (hS b (by simp))).trans c0; have y1 := (hk1.cell (p := ⟨b, 1, none⟩) hb (hS b (by simp))).trans c1; dsimp only))
    have h1 : IsR w1 b R A c := h.kept (((Kept.refl S w).drew).trans hk1 (fun _ hx => .inl hx)) (fun x hx => hS x hx)
    generalize (if c = R.at_ then A else Option.map (fun x => x.add R.at_) A) = A''
    have y2 := h1.blk.cell 2
    simp only [List.getElem?_toArray, List.getElem?_cons_zero, List.getElem?_cons_succ] at y2
    have g1 := h1.blk.frozen 1
    have g2 := h1.blk.frozen 2
    go_wp2
    refine bodyPost_ret (results_none rfl _ _ _) rfl ?_
    refine ⟨rfl, ?_, (((Kept.refl S w).drew).trans hk1 (fun _ hx => .inl hx)).mono (fun x hx => List.mem_cons_of_mem _ hx) |>.setCell _ (.inl (by simp)), hQ _ _ _ hq1⟩
    rw [hst.out]
    exact h1.fail er

set_option maxHeartbeats 1000000 in
theorem skip_46 (b : Nat) (R : Rd) (A : Option Addr) (c g : Nat) (w : World) (h : IsR w b R A c) (he : R.e ≠ 0) :
    Calls Try.prog 45 #[.pointer (some ⟨b, 0, none⟩), .func (.func 46) #[] #[.pointer (some ⟨g, 0, none⟩)]] w fun e w' => e = .returned (.tuple #[]) ∧ w = w' := by
  have c2 := h.blk.cell 2
  simp only [List.getElem?_toArray, List.getElem?_cons_zero, List.getElem?_cons_succ] at c2
  have hb0 : (R.e != 0) = true := by simp [he]
  go_enter Try.func45, Try.ntmps45
  go_wp2
  refine bodyPost_ret (results_none rfl _ _ _) rfl ?_
  exact ⟨rfl, rfl⟩
set_option maxHeartbeats 1000000 in
theorem skip_48 (b : Nat) (R : Rd) (A : Option Addr) (c g : Nat) (w : World) (h : IsR w b R A c) (he : R.e ≠ 0) :
    Calls Try.prog 45 #[.pointer (some ⟨b, 0, none⟩), .func (.func 48) #[] #[.pointer (some ⟨g, 0, none⟩)]] w fun e w' => e = .returned (.tuple #[]) ∧ w = w' := by
  have c2 := h.blk.cell 2
  simp only [List.getElem?_toArray, List.getElem?_cons_zero, List.getElem?_cons_succ] at c2
  have hb0 : (R.e != 0) = true := by simp [he]
  go_enter Try.func45, Try.ntmps45
  go_wp2
  refine bodyPost_ret (results_none rfl _ _ _) rfl ?_
  exact ⟨rfl, rfl⟩
set_option maxHeartbeats 1000000 in
theorem skip_51 (b : Nat) (R : Rd) (A : Option Addr) (c g g2 : Nat) (w : World) (h : IsR w b R A c) (he : R.e ≠ 0) :
    Calls Try.prog 45 #[.pointer (some ⟨b, 0, none⟩), .func (.func 51) #[] #[.pointer (some ⟨g, 0, none⟩), .pointer (some ⟨g2, 0, none⟩)]] w fun e w' => e = .returned (.tuple #[]) ∧ w = w' := by
  have c2 := h.blk.cell 2
  simp only [List.getElem?_toArray, List.getElem?_cons_zero, List.getElem?_cons_succ] at c2
  have hb0 : (R.e != 0) = true := by simp [he]
  go_enter Try.func45, Try.ntmps45
  go_wp2
  refine bodyPost_ret (results_none rfl _ _ _) rfl ?_
  exact ⟨rfl, rfl⟩
set_option maxHeartbeats 1000000 in
theorem skip_55 (b : Nat) (R : Rd) (A : Option Addr) (c g g2 : Nat) (w : World) (h : IsR w b R A c) (he : R.e ≠ 0) :
    Calls Try.prog 45 #[.pointer (some ⟨b, 0, none⟩), .func (.func 55) #[] #[.pointer (some ⟨g, 0, none⟩), .pointer (some ⟨g2, 0, none⟩)]] w fun e w' => e = .returned (.tuple #[]) ∧ w = w' := by
  have c2 := h.blk.cell 2
  simp only [List.getElem?_toArray, List.getElem?_cons_zero, List.getElem?_cons_succ] at c2
  have hb0 : (R.e != 0) = true := by simp [he]
  go_enter Try.func45, Try.ntmps45
  go_wp2
  refine bodyPost_ret (results_none rfl _ _ _) rfl ?_
  exact ⟨rfl, rfl⟩
end Go.Proofs.Ytidiohmpmjhbaaa
