/- Locks: the table in memory; New, Held, Waiting, Prepared, Wounded, Mode, against, free. -/
import Derived.Test.YtpidpdbjjdkhoaaGreatLkM
namespace Go.Proofs.YtpidpdbjjdkhoaaGreat
open Go.RowKit
set_option linter.unusedSimpArgs false
set_option linter.unusedVariables false
attribute [local go_sem ↓] Go.wp_at_zero Go.wp_at_succ

/-- where a table's four lists lie -/
structure TbM where
  ah : Option Addr
  ch : Nat
  aw : Option Addr
  cw : Nat
  ap : Option Addr
  cp : Nat
  au : Option Addr
  cu : Nat
def tbC (q : Tb) (m : TbM) : Array Value := #[.int .i64 q.most, .slice m.ah q.held.length m.ch, .slice m.aw q.wait.length m.cw, .slice m.ap q.prep.length m.cp, .slice m.au q.hurt.length m.cu]
def fpT (d : Nat) (m : TbM) : List Nat := d :: (ob m.ah ++ (ob m.aw ++ (ob m.ap ++ ob m.au)))
structure TbAt (w : World) (d : Nat) (q : Tb) (m : TbM) : Prop where
  blk : Blk w d 47 (tbC q m)
  oh : w.ownsRow 0 62 4 (.slice m.ah q.held.length m.ch) q.held.length (rc lkR q.held)
  ow : w.ownsRow 0 62 4 (.slice m.aw q.wait.length m.cw) q.wait.length (rc lkR q.wait)
  op : w.ownsRow 0 29 2 (.slice m.ap q.prep.length m.cp) q.prep.length (rc idR q.prep)
  ou : w.ownsRow 0 29 2 (.slice m.au q.hurt.length m.cu) q.hurt.length (rc idR q.hurt)
  shw : ∀ k ∈ ob m.ah, k ∉ ob m.aw
  spu : ∀ k ∈ ob m.ap, k ∉ ob m.au
  good : Good q
  fh : q.held.length + q.wait.length ≤ 1000
  fm : q.prep.length ≤ 8796093022208 ∧ q.hurt.length ≤ 8796093022208
section
variable {w w' : World} {d : Nat} {q : Tb} {m : TbM} {S : List Nat}
theorem TbAt.lt (h : TbAt w d q m) : ∀ k ∈ fpT d m, k < w.heap.size := by
  intro k hk
  simp only [fpT, List.mem_cons, List.mem_append] at hk
  rcases hk with rfl | hk | hk | hk | hk
  · exact h.blk.lt
  · exact own_lt h.oh k hk
  · exact own_lt h.ow k hk
  · exact own_lt h.op k hk
  · exact own_lt h.ou k hk
theorem TbAt.kept (h : TbAt w d q m) (hk : Kept S w w') (hd : ∀ k ∈ fpT d m, k ∉ S) : TbAt w' d q m := by
  simp only [fpT, List.mem_cons, List.mem_append] at hd
  exact ⟨hk.blk h.blk (hd d (.inl rfl)), hk.own h.oh (fun g hg => hd g (.inr (.inl (ownBlock_mem.1 hg)))), hk.own h.ow (fun g hg => hd g (.inr (.inr (.inl (ownBlock_mem.1 hg))))),
    hk.own h.op (fun g hg => hd g (.inr (.inr (.inr (.inl (ownBlock_mem.1 hg)))))), hk.own h.ou (fun g hg => hd g (.inr (.inr (.inr (.inr (ownBlock_mem.1 hg)))))), h.shw, h.spu, h.good, h.fh, h.fm⟩
theorem TbAt.below (h : TbAt w d q m) (hb : Below w.heap.size w w') : TbAt w' d q m := h.kept (S := []) (Kept.of_below hb) (by simp)
theorem TbAt.alloc (h : TbAt w d q m) (o : Obj) : TbAt (w.alloc o) d q m := h.below (below_alloc w o)
theorem TbAt.drewN (h : TbAt w d q m) (n : Nat) : TbAt (w.drewN n) d q m := h.below (below_drewN (Below.refl _ _) n)
theorem TbAt.c0 (h : TbAt w d q m) : w.cell? ⟨d, 0, none⟩ = some (.int .i64 q.most) := h.blk.cell 0
theorem TbAt.c1 (h : TbAt w d q m) : w.cell? ⟨d, 1, none⟩ = some (.slice m.ah q.held.length m.ch) := h.blk.cell 1
theorem TbAt.c2 (h : TbAt w d q m) : w.cell? ⟨d, 2, none⟩ = some (.slice m.aw q.wait.length m.cw) := h.blk.cell 2
theorem TbAt.c3 (h : TbAt w d q m) : w.cell? ⟨d, 3, none⟩ = some (.slice m.ap q.prep.length m.cp) := h.blk.cell 3
theorem TbAt.c4 (h : TbAt w d q m) : w.cell? ⟨d, 4, none⟩ = some (.slice m.au q.hurt.length m.cu) := h.blk.cell 4
end
def tb0 (most : Int) : Tb := ⟨max 0 most, [], [], [], []⟩
def tm0 : TbM := ⟨none, 0, none, 0, none, 0, none, 0⟩
theorem good0 (most : Int) : Good (tb0 most) := ⟨List.Pairwise.nil, List.Pairwise.nil, List.Pairwise.nil, List.Pairwise.nil, by simp [tb0], by simp [tb0]⟩
theorem new_at (w : World) (most : Int) : TbAt (w.alloc (.cells (tbC (tb0 most) tm0) 47)) w.heap.size (tb0 most) tm0 :=
  ⟨Blk.new _ _ _, World.ownsRow_nil _ _ _ _, World.ownsRow_nil _ _ _ _, World.ownsRow_nil _ _ _ _, World.ownsRow_nil _ _ _ _, by simp [tm0, ob], by simp [tm0, ob], good0 most, by simp [tb0], by simp [tb0]⟩
theorem new_any (most : Int) (w : World) : Calls Tryz.prog 5 #[.int .i64 most] w fun e w' => e = .returned (.pointer (some ⟨w.heap.size, 0, none⟩)) ∧ w' = w.alloc (.cells (tbC (tb0 most) tm0) 47) := by
  have HT : Hid (tbC (tb0 most) tm0 = #[.int .i64 (max 0 most), .slice none 0 0, .slice none 0 0, .slice none 0 0, .slice none 0 0]) := Lib.hid rfl
  go_enter Tryz.func5, Tryz.ntmps5
  go_wp2
  go_ret
  exact ⟨rfl, by rw [HT.out]⟩
theorem held_any {w : World} {d : Nat} {q : Tb} {m : TbM} (h : TbAt w d q m) : Calls Tryz.prog 22 #[.pointer (some ⟨d, 0, none⟩)] w fun e w' => ∃ A c, e = .returned (.slice A q.held.length c) ∧ w'.ownsRow 0 62 4 (.slice A q.held.length c) q.held.length (rc lkR q.held) ∧ Below w.heap.size w w' ∧ ∀ k ∈ ob A, w.heap.size ≤ k := by
  have y := h.c1
  have HC := Lib.hid (cloneL m.ah m.ch w.heap.size q.held w (Reads.of_own h.oh) (Nat.le_refl _) (by have := h.fh; omega))
  clear h
  go_enter Tryz.func22, Tryz.ntmps22
  go_wp2_with fail
  refine HC.out.mono ?_
  rintro e w1 ⟨A, c, rfl, ho, hb, hf⟩
  have HF := Lib.hid (And.intro ho (And.intro hb hf))
  clear ho hb hf y
  go_wp2_with fail
  go_ret
  exact ⟨A, c, rfl, HF.out⟩
theorem waiting_any {w : World} {d : Nat} {q : Tb} {m : TbM} (h : TbAt w d q m) : Calls Tryz.prog 23 #[.pointer (some ⟨d, 0, none⟩)] w fun e w' => ∃ A c, e = .returned (.slice A q.wait.length c) ∧ w'.ownsRow 0 62 4 (.slice A q.wait.length c) q.wait.length (rc lkR q.wait) ∧ Below w.heap.size w w' ∧ ∀ k ∈ ob A, w.heap.size ≤ k := by
  have y := h.c2
  have HC := Lib.hid (cloneL m.aw m.cw w.heap.size q.wait w (Reads.of_own h.ow) (Nat.le_refl _) (by have := h.fh; omega))
  clear h
  go_enter Tryz.func23, Tryz.ntmps23
  go_wp2_with fail
  refine HC.out.mono ?_
  rintro e w1 ⟨A, c, rfl, ho, hb, hf⟩
  have HF := Lib.hid (And.intro ho (And.intro hb hf))
  clear ho hb hf y
  go_wp2_with fail
  go_ret
  exact ⟨A, c, rfl, HF.out⟩
theorem prepared_any {w : World} {d : Nat} {q : Tb} {m : TbM} (h : TbAt w d q m) : Calls Tryz.prog 24 #[.pointer (some ⟨d, 0, none⟩)] w fun e w' => ∃ A c, e = .returned (.slice A q.prep.length c) ∧ w'.ownsRow 0 29 2 (.slice A q.prep.length c) q.prep.length (rc idR q.prep) ∧ Below w.heap.size w w' ∧ ∀ k ∈ ob A, w.heap.size ≤ k := by
  have y := h.c3
  have HC := Lib.hid (cloneI m.ap m.cp w.heap.size q.prep w (Reads.of_own h.op) (Nat.le_refl _) (by have := h.fm; omega))
  clear h
  go_enter Tryz.func24, Tryz.ntmps24
  go_wp2_with fail
  refine HC.out.mono ?_
  rintro e w1 ⟨A, c, rfl, ho, hb, hf⟩
  have HF := Lib.hid (And.intro ho (And.intro hb hf))
  clear ho hb hf y
  go_wp2_with fail
  go_ret
  exact ⟨A, c, rfl, HF.out⟩
theorem wounded_any {w : World} {d : Nat} {q : Tb} {m : TbM} (h : TbAt w d q m) : Calls Tryz.prog 25 #[.pointer (some ⟨d, 0, none⟩)] w fun e w' => ∃ A c, e = .returned (.slice A q.hurt.length c) ∧ w'.ownsRow 0 29 2 (.slice A q.hurt.length c) q.hurt.length (rc idR q.hurt) ∧ Below w.heap.size w w' ∧ ∀ k ∈ ob A, w.heap.size ≤ k := by
  have y := h.c4
  have HC := Lib.hid (cloneI m.au m.cu w.heap.size q.hurt w (Reads.of_own h.ou) (Nat.le_refl _) (by have := h.fm; omega))
  clear h
  go_enter Tryz.func25, Tryz.ntmps25
  go_wp2_with fail
  refine HC.out.mono ?_
  rintro e w1 ⟨A, c, rfl, ho, hb, hf⟩
  have HF := Lib.hid (And.intro ho (And.intro hb hf))
  clear ho hb hf y
  go_wp2_with fail
  go_ret
  exact ⟨A, c, rfl, HF.out⟩
theorem isAt_mem {x : Lk} {l : List Lk} (hs : Srt ah l) {y : Lk} (hy : y ∈ l) (hk : y.key = x.key) (hi : y.id = x.id) : isAt ah x l = true := by
  obtain ⟨i, hil, rfl⟩ := List.mem_iff_getElem.1 hy
  have hp : pos ah x l = i := pos_of ah_ord hs (Nat.le_of_lt hil) (fun k z hk1 hz => by
      have hkl : k < l.length := by omega
      obtain rfl : l[k] = z := by rw [List.getElem?_eq_getElem hkl] at hz; injection hz
      have h1 : ah l[k] l[i] = true := List.pairwise_iff_getElem.1 hs k i hkl hil (by omega)
      exact ah_ord.lt_of_lt_not h1 (ah_at ⟨hk.symm, hi.symm⟩)) (fun z hz => by
      obtain rfl : l[i] = z := by rw [List.getElem?_eq_getElem hil] at hz; injection hz
      exact ah_at ⟨hk, hi⟩)
  unfold isAt
  rw [hp, List.getElem?_eq_getElem hil]
  show (!ah x l[i]) = true
  rw [show ah x l[i] = false from ah_at ⟨hk.symm, hi.symm⟩]
  rfl
theorem isAt_elt {x : Lk} {l : List Lk} (h : isAt ah x l = true) : (gr lkR l (pos ah x l)).key = x.key ∧ (gr lkR l (pos ah x l)).id = x.id := by
  have hlt := isAt_lt h
  have h1 := gr_get (R := lkR) hlt
  have h2 := pos_hi h1
  unfold isAt at h
  rw [h1] at h
  exact ah_eq h2 (by simpa using h)
theorem mode_yes {t : Tb} {id : Idn} {key : ByteArray} (hs : Srt ah t.held) (h : isAt ah ⟨key, id, 0⟩ t.held = true) : modeI t id key = (gr lkR t.held (pos ah ⟨key, id, 0⟩ t.held)).mode := by
  obtain ⟨h1, h2⟩ := isAt_elt h
  have := mode_of hs (gr_mem (R := lkR) (isAt_lt h))
  rw [h1, h2] at this
  exact this
theorem mode_no {t : Tb} {id : Idn} {key : ByteArray} (hs : Srt ah t.held) (h : isAt ah ⟨key, id, 0⟩ t.held = false) : modeI t id key = 0 :=
  mode_none fun y hy ⟨h1, h2⟩ => by rw [isAt_mem hs hy (x := ⟨key, id, 0⟩) h1 h2] at h; cases h
set_option maxHeartbeats 2000000 in
set_option maxRecDepth 100000 in
theorem mode_any {w : World} {d : Nat} {q : Tb} {m : TbM} (h : TbAt w d q m) (id : Idn) (key : ByteArray) : Calls Tryz.prog 20 #[.pointer (some ⟨d, 0, none⟩), idV id, .string key] w (IntIs (modeI q id key) w) := by
  have HH := Lib.hid h
  have HBS := Lib.hid (fun w' (hb : Below w.heap.size w w') => bsfL m.ah m.ch q.held ⟨key, id, 0⟩ w' (Reads.of_own (h.below hb).oh) h.good.sh (by have := h.fh; omega))
  unfold BsEnds lkV at HBS
  have HPLE := Lib.hid (pos_le (lt := ah) (x := (⟨key, id, 0⟩ : Lk)) q.held)
  have hn := h.fh
  cases hat : isAt ah ⟨key, id, 0⟩ q.held with
  | true =>
    have HR := Lib.hid (mode_yes h.good.sh hat)
    have HLT := Lib.hid (isAt_lt hat)
    obtain ⟨P, hP⟩ : ∃ P, P = pos ah ⟨key, id, 0⟩ q.held := ⟨_, rfl⟩
    rw [hat, ← hP] at HBS
    rw [← hP] at HR HLT
    clear hat hP h
    unfold idV
    go_enter Tryz.func20, Tryz.ntmps20
    go_upto_region 1 with fail
    have k1 := Blk.new w 29 #[.int .i64 id.n, .int .i64 id.c]
    have HB := Lib.hid (below_alloc w (.cells #[.int .i64 id.n, .int .i64 id.c] 29))
    obtain ⟨w2, hw2⟩ : ∃ w2, w2 = (w.alloc (.cells #[.int .i64 id.n, .int .i64 id.c] 29)) := ⟨_, rfl⟩
    obtain ⟨p1, hp1⟩ : ∃ p1, p1 = w.heap.size := ⟨_, rfl⟩
    rw [← hw2] at HB k1
    rw [← hp1] at k1
    rw [← hw2]
    rw [← hp1]
    clear hw2 hp1
    have HT2 := Lib.hid (HH.out.below HB.out)
    have hS : Hid (∀ w', Below w2.heap.size w2 w' → (w'.cell? ⟨p1, 0, none⟩ = some (.int .i64 id.n) ∧ w'.cell? ⟨p1, 1, none⟩ = some (.int .i64 id.c) ∧ w'.cell? ⟨d, 1, none⟩ = some (.slice m.ah q.held.length m.ch))) := Lib.hid (fun w' hb => ⟨(k1.below hb k1.lt).cell 0, (k1.below hb k1.lt).cell 1, (HT2.out.below hb).c1⟩)
    have hD : Below w2.heap.size w2 w2.drew := below_drewN (Below.refl _ _) 1
    clear k1
    go_region_held3 (fun w' => w'.cell? ⟨p1, 0, none⟩ = some (.int .i64 id.n) ∧ w'.cell? ⟨p1, 1, none⟩ = some (.int .i64 id.c) ∧ w'.cell? ⟨d, 1, none⟩ = some (.slice m.ah q.held.length m.ch))
      (first | with_reducible exact hS.out _ hD | with_reducible exact hS.out _ hb3')
      (first | (go_at_call 63; (refine (HBS.out _ (HB.out.trans (hD.mono HB.out.size))).mono ?_); rintro e w3 ⟨rfl, hb3⟩; have hb3' : Below w2.heap.size w2 w3 := hD.trans (hb3.mono hD.size)))
    have HT3 := Lib.hid (HT2.out.below hb3')
    have y1 : w3.cell? ⟨d, 1, none⟩ = some (.slice m.ah q.held.length m.ch) := HT3.out.c1
    obtain ⟨g, off, hA, _, a0, a1, a2, a3⟩ := rdL (Reads.of_own HT3.out.oh) HLT.out
    simp only [hA] at *
    obtain ⟨y, hy⟩ : ∃ y, y = gr lkR q.held P := ⟨_, rfl⟩
    rw [← hy] at a0 a1 a2 a3 HR
    have HB3 := Lib.hid (HB.out.trans (hb3'.mono HB.out.size))
    have kL : (0 : Int) ≤ (P : Int) := by omega
    have kU : (P : Int) < (q.held.length : Int) := by have := HLT.out; omega
    clear hy hb3 hb3' hS hD hA
    go_wp2
    go_ret
    exact ⟨ret_int HR.out.symm, HB3.out⟩
  | false =>
    have HR := Lib.hid (mode_no h.good.sh hat)
    obtain ⟨P, hP⟩ : ∃ P, P = pos ah ⟨key, id, 0⟩ q.held := ⟨_, rfl⟩
    rw [hat, ← hP] at HBS
    clear hat hP h
    unfold idV
    go_enter Tryz.func20, Tryz.ntmps20
    go_upto_region 1 with fail
    have k1 := Blk.new w 29 #[.int .i64 id.n, .int .i64 id.c]
    have HB := Lib.hid (below_alloc w (.cells #[.int .i64 id.n, .int .i64 id.c] 29))
    obtain ⟨w2, hw2⟩ : ∃ w2, w2 = (w.alloc (.cells #[.int .i64 id.n, .int .i64 id.c] 29)) := ⟨_, rfl⟩
    obtain ⟨p1, hp1⟩ : ∃ p1, p1 = w.heap.size := ⟨_, rfl⟩
    rw [← hw2] at HB k1
    rw [← hp1] at k1
    rw [← hw2]
    rw [← hp1]
    clear hw2 hp1
    have HT2 := Lib.hid (HH.out.below HB.out)
    have hS : Hid (∀ w', Below w2.heap.size w2 w' → (w'.cell? ⟨p1, 0, none⟩ = some (.int .i64 id.n) ∧ w'.cell? ⟨p1, 1, none⟩ = some (.int .i64 id.c) ∧ w'.cell? ⟨d, 1, none⟩ = some (.slice m.ah q.held.length m.ch))) := Lib.hid (fun w' hb => ⟨(k1.below hb k1.lt).cell 0, (k1.below hb k1.lt).cell 1, (HT2.out.below hb).c1⟩)
    have hD : Below w2.heap.size w2 w2.drew := below_drewN (Below.refl _ _) 1
    clear k1
    go_region_held3 (fun w' => w'.cell? ⟨p1, 0, none⟩ = some (.int .i64 id.n) ∧ w'.cell? ⟨p1, 1, none⟩ = some (.int .i64 id.c) ∧ w'.cell? ⟨d, 1, none⟩ = some (.slice m.ah q.held.length m.ch))
      (first | with_reducible exact hS.out _ hD | with_reducible exact hS.out _ hb3')
      (first | (go_at_call 63; (refine (HBS.out _ (HB.out.trans (hD.mono HB.out.size))).mono ?_); rintro e w3 ⟨rfl, hb3⟩; have hb3' : Below w2.heap.size w2 w3 := hD.trans (hb3.mono hD.size)))
    have HB3 := Lib.hid (HB.out.trans (hb3'.mono HB.out.size))
    clear hb3 hb3' hS hD
    go_wp2
    go_ret
    exact ⟨ret_int HR.out.symm, HB3.out⟩
/-- the question of against, made -/
def AgEnds (x : Lk) (fv : Value) (w : World) (e : Ending) (w' : World) : Prop :=
  ∃ g1 g2, e = .returned (.func (.func 82) #[] #[.pointer (some ⟨g1, 0, none⟩), .pointer (some ⟨g2, 0, none⟩)]) ∧ Blk w' g1 62 #[.string x.key, .int .i64 x.id.n, .int .i64 x.id.c, .int .i64 x.mode] ∧ Blk w' g2 71 #[fv] ∧ Below w.heap.size w w'
theorem ag_any (x : Lk) (f : Nat) (lb : Array Value) (w : World) : Calls Tryz.prog 38 #[lkV x, .func (.func f) #[] lb] w (AgEnds x (.func (.func f) #[] lb) w) := by
  unfold lkV
  go_enter Tryz.func38, Tryz.ntmps38
  go_upto_region 1 with fail
  have k1 := (Blk.new w 62 #[.string x.key, .int .i64 x.id.n, .int .i64 x.id.c, .int .i64 x.mode]).alloc (.cells #[.func (.func f) #[] lb] 71)
  have k2 := Blk.new (w.alloc (.cells #[.string x.key, .int .i64 x.id.n, .int .i64 x.id.c, .int .i64 x.mode] 62)) 71 #[.func (.func f) #[] lb]
  simp only [World.size_alloc] at k2
  have HB := Lib.hid ((below_alloc w (.cells #[.string x.key, .int .i64 x.id.n, .int .i64 x.id.c, .int .i64 x.mode] 62)).alloc (by simp) (.cells #[.func (.func f) #[] lb] 71))
  obtain ⟨w2, hw2⟩ : ∃ w2, w2 = ((w.alloc (.cells #[.string x.key, .int .i64 x.id.n, .int .i64 x.id.c, .int .i64 x.mode] 62)).alloc (.cells #[.func (.func f) #[] lb] 71)) := ⟨_, rfl⟩
  obtain ⟨p1, hp1⟩ : ∃ p1, p1 = w.heap.size := ⟨_, rfl⟩
  obtain ⟨p2, hp2⟩ : ∃ p2, p2 = w.heap.size + 1 := ⟨_, rfl⟩
  rw [← hw2] at HB k1 k2
  rw [← hp1] at k1
  rw [← hp2] at k2
  rw [← hw2]
  rw [← hp2]
  rw [← hp1]
  clear hw2 hp1 hp2
  have HF := Lib.hid (And.intro k1 k2)
  clear k1 k2
  go_wp2
  go_ret
  exact ⟨p1, p2, rfl, HF.out.1, HF.out.2, HB.out⟩
end Go.Proofs.YtpidpdbjjdkhoaaGreat
