/- Entries in memory: a row of structs of thirteen cells, of which two are slices. -/
import Derived.Test.YtdcnfdhhflmdcaaWrA
import Derived.Deep.RegionHeld3
import Derived.Deep.MidRow
namespace Go.Proofs.Ytdcnfdhhflmdcaa
open Go.RowKit
set_option linter.unusedSimpArgs false
set_option linter.unusedVariables false

/-- the cells of numbers -/
def ic (M : List Int) : List Value := M.map (Value.int .i64)
theorem ic_len (M : List Int) : (ic M).length = M.length := by simp [ic]
theorem ic_one (M : List Int) : ∀ u ∈ ic M, u.oneCell' = true := by
  intro u hu
  obtain ⟨b, _, rfl⟩ := List.mem_map.1 hu
  rfl
def gm (M : List Int) (i : Nat) : Int := M.getD i 0
theorem gm_at {M : List Int} {i : Nat} (h : i < M.length) : gm M i = M[i] := by
  unfold gm
  rw [List.getD_eq_getElem?_getD, List.getElem?_eq_getElem h]
  rfl
theorem ic_at {M : List Int} {i : Nat} (h : i < M.length) : (ic M)[i]? = some (.int .i64 (gm M i)) := by
  unfold ic
  rw [List.getElem?_map, List.getElem?_eq_getElem h, gm_at h]
  rfl
theorem ic_set (M : List Int) (x : Int) (i : Nat) : (ic M).set i (.int .i64 x) = ic (M.set i x) := by simp [ic, List.map_set]
theorem ic_snoc (M : List Int) (x : Int) : ic M ++ [Value.int .i64 x] = ic (M ++ [x]) := by simp [ic]
theorem Reads.numb {w : World} {B n : Nat} {A : Option Addr} {M : List Int} (h : Reads w B 1 A n (ic M)) {k : Nat} (hk : k < M.length) : ∃ ad, A = some ad ∧ ad.block < B ∧ w.cell? (ad.add k) = some (.int .i64 (gm M k)) := by
  have hn := h.1
  rw [ic_len] at hn
  obtain ⟨ad, u, hA, hb, hu, hc⟩ := h.at_ (k := k) (by omega)
  rw [ic_at hk] at hu
  cases hu
  exact ⟨ad, hA, hb, hc⟩

/-- an entry -/
structure Ent where
  term : Int
  kind : Int
  idn : Int
  idc : Int
  home : Int
  key : ByteArray
  mode : Int
  ws : List Wrt
  gs : List Int
  stamp : Int
  out : Int
  code : Int
  grp : Int
def ent0 : Ent := ⟨0, 0, 0, 0, 0, ⟨#[]⟩, 0, [], [], 0, 0, 0, 0⟩
/-- an entry as it lies: its two slices have their places -/
structure MEnt where
  e : Ent
  aw : Option Addr
  cw : Nat
  ag : Option Addr
  cg : Nat
def ment0 : MEnt := ⟨ent0, none, 0, none, 0⟩
def mcell (m : MEnt) : List Value :=
  [.int .i64 m.e.term, .int .i64 m.e.kind, .int .i64 m.e.idn, .int .i64 m.e.idc, .int .i64 m.e.home, .string m.e.key, .int .i64 m.e.mode, .slice m.aw m.e.ws.length m.cw, .slice m.ag m.e.gs.length m.cg,
    .int .i64 m.e.stamp, .int .i64 m.e.out, .int .i64 m.e.code, .int .i64 m.e.grp]
def magg (m : MEnt) : Value :=
  .agg #[.int .i64 m.e.term, .int .i64 m.e.kind, .int .i64 m.e.idn, .int .i64 m.e.idc, .int .i64 m.e.home, .string m.e.key, .int .i64 m.e.mode, .slice m.aw m.e.ws.length m.cw, .slice m.ag m.e.gs.length m.cg,
    .int .i64 m.e.stamp, .int .i64 m.e.out, .int .i64 m.e.code, .int .i64 m.e.grp]
def mc (ms : List MEnt) : List Value := ms.flatMap mcell
def gme (ms : List MEnt) (i : Nat) : MEnt := ms.getD i ment0
theorem gme_at {ms : List MEnt} {i : Nat} (h : i < ms.length) : gme ms i = ms[i] := by
  unfold gme
  rw [List.getD_eq_getElem?_getD, List.getElem?_eq_getElem h]
  rfl
theorem mcell_len (m : MEnt) : (mcell m).length = 13 := rfl
theorem mcell_one (m : MEnt) : ∀ u ∈ mcell m, u.oneCell' = true := by
  intro u hv
  simp [mcell] at hv
  rcases hv with rfl | rfl | rfl | rfl | rfl | rfl | rfl | rfl | rfl | rfl | rfl | rfl | rfl <;> rfl
theorem mc_len (ms : List MEnt) : (mc ms).length = ms.length * 13 := by
  induction ms with
  | nil => rfl
  | cons x r ih => show (mcell x ++ mc r).length = _; rw [List.length_append, ih, mcell_len]; simp; omega
theorem mc_nil : mc [] = [] := rfl
theorem mc_cons (x : MEnt) (r : List MEnt) : mc (x :: r) = mcell x ++ mc r := rfl
theorem mc_app (l r : List MEnt) : mc (l ++ r) = mc l ++ mc r := by simp [mc]
theorem mc_snoc (l : List MEnt) (x : MEnt) : mc l ++ mcell x = mc (l ++ [x]) := by rw [mc_app]; simp [mc]
theorem mc_one (l : List MEnt) : ∀ u ∈ mc l, u.oneCell' = true := by
  intro u hu
  obtain ⟨x, _, hx⟩ := List.mem_flatMap.1 hu
  simp [mcell] at hx
  rcases hx with rfl | rfl | rfl | rfl | rfl | rfl | rfl | rfl | rfl | rfl | rfl | rfl | rfl <;> rfl
theorem mc_drop (l : List MEnt) : ∀ k, (mc l).drop (k * 13) = mc (l.drop k) := by
  induction l with
  | nil => intro k; simp [mc]
  | cons x r ih =>
    intro k
    rcases k with _ | k
    · simp
    · rw [mc_cons, show (k + 1) * 13 = (mcell x).length + k * 13 by rw [mcell_len]; omega, ← List.drop_drop, List.drop_left, ih k]
      rfl
theorem mc_take (l : List MEnt) : ∀ k, (mc l).take (k * 13) = mc (l.take k) := by
  induction l with
  | nil => intro k; simp [mc]
  | cons x r ih =>
    intro k
    rcases k with _ | k
    · simp [mc]
    · rw [mc_cons, show (k + 1) * 13 = (mcell x).length + k * 13 by rw [mcell_len]; omega, List.take_length_add_append, ih k, List.take_succ_cons]
      rfl
theorem mc_at {l : List MEnt} {i : Nat} (h : i < l.length) (j : Nat) (hj : j < 13) : (mc l)[i * 13 + j]? = (mcell (gme l i))[j]? := by
  rw [← List.getElem?_drop, mc_drop, List.drop_eq_getElem_cons h, mc_cons, gme_at h, List.getElem?_append_left (by rw [mcell_len]; exact hj)]
/-- values written one behind the other -/
def setAll : List Value → Nat → List Value → List Value
  | xs, _, [] => xs
  | xs, p, v :: vs => setAll (xs.set p v) (p + 1) vs
theorem setAll_cons (a : Value) : ∀ (vs : List Value) (xs : List Value) (p : Nat), setAll (a :: xs) (p + 1) vs = a :: setAll xs p vs
  | [], _, _ => rfl
  | v :: vs, xs, p => by unfold setAll; rw [List.set_cons_succ, setAll_cons a vs]
theorem setAll_app (vs : List Value) : ∀ (pre xs : List Value) (p : Nat), setAll (pre ++ xs) (pre.length + p) vs = pre ++ setAll xs p vs
  | [], xs, p => by simp
  | a :: pre, xs, p => by rw [List.cons_append, List.length_cons, show pre.length + 1 + p = pre.length + p + 1 by omega, setAll_cons, setAll_app vs pre]; rfl
theorem setAll_head : ∀ (vs old xs : List Value), old.length = vs.length → setAll (old ++ xs) 0 vs = vs ++ xs
  | [], [], _, _ => rfl
  | v :: vs, o :: old, xs, h => by
    show setAll ((o :: (old ++ xs)).set 0 v) (0 + 1) vs = _
    rw [List.set_cons_zero, setAll_cons, setAll_head vs old xs (by simpa using h)]
    rfl
theorem setAll_len : ∀ (vs xs : List Value) (p : Nat), (setAll xs p vs).length = xs.length
  | [], _, _ => rfl
  | v :: vs, xs, p => by unfold setAll; rw [setAll_len vs]; simp
theorem mc_set (l : List MEnt) (y : MEnt) : ∀ i, i < l.length → setAll (mc l) (i * 13) (mcell y) = mc (l.set i y) := by
  induction l with
  | nil => intro i h; simp at h
  | cons x r ih =>
    intro i h
    rcases i with _ | i
    · rw [mc_cons, Nat.zero_mul, setAll_head _ _ _ (by rw [mcell_len, mcell_len])]
      rfl
    · have := ih i (by simpa using h)
      rw [List.set_cons_succ, mc_cons, mc_cons, ← this, show (i + 1) * 13 = (mcell x).length + i * 13 by rw [mcell_len]; omega, setAll_app]
theorem mc_setTerm (l : List MEnt) (t : Int) : ∀ i, i < l.length → (mc l).set (i * 13) (.int .i64 t) = mc (l.set i { gme l i with e := { (gme l i).e with term := t } }) := by
  induction l with
  | nil => intro i h; simp at h
  | cons x r ih =>
    intro i h
    rcases i with _ | i
    · rfl
    · have := ih i (by simpa using h)
      rw [List.set_cons_succ, mc_cons, mc_cons, show gme (x :: r) (i + 1) = gme r i from rfl, ← this]
      rw [show (i + 1) * 13 = i * 13 + 1 + 1 + 1 + 1 + 1 + 1 + 1 + 1 + 1 + 1 + 1 + 1 + 1 by omega]
      rfl
/-- the blocks of a row of n elements that lies anywhere -/
def obn (n : Nat) (A : Option Addr) : List Nat := if n = 0 then [] else ob A
/-- what an entry's two slices read as -/
structure Fine (w : World) (B : Nat) (m : MEnt) : Prop where
  wr : Reads w B 3 m.aw m.e.ws.length (wc m.e.ws)
  gr : Reads w B 1 m.ag m.e.gs.length (ic m.e.gs)
/-- a slice that reads as entries -/
structure Ents (w : World) (B : Nat) (A : Option Addr) (n : Nat) (ms : List MEnt) : Prop where
  row : Reads w B 13 A n (mc ms)
  fine : ∀ m ∈ ms, Fine w B m
section
variable {w w' : World} {B B' n : Nat} {A : Option Addr} {ms : List MEnt} {m : MEnt}
theorem Fine.below (h : Fine w B m) (hb : Below B w w') : Fine w' B m := ⟨h.wr.below hb, h.gr.below hb⟩
theorem Fine.more (h : Fine w B m) (hB : B ≤ B') : Fine w B' m := ⟨h.wr.more hB, h.gr.more hB⟩
theorem Ents.below (h : Ents w B A n ms) (hb : Below B w w') : Ents w' B A n ms := ⟨h.row.below hb, fun m hm => (h.fine m hm).below hb⟩
theorem Ents.more (h : Ents w B A n ms) (hB : B ≤ B') : Ents w B' A n ms := ⟨h.row.more hB, fun m hm => (h.fine m hm).more hB⟩
theorem Ents.len (h : Ents w B A n ms) : ms.length = n := by have := h.row.1; rw [mc_len] at this; omega
theorem Fine.drewN (h : Fine w B m) (k : Nat) : Fine (w.drewN k) B m := ⟨h.wr, h.gr⟩
theorem Ents.drewN (h : Ents w B A n ms) (k : Nat) : Ents (w.drewN k) B A n ms := ⟨h.row, fun m hm => (h.fine m hm).drewN k⟩
theorem gme_mem {i : Nat} (h : i < ms.length) : gme ms i ∈ ms := by rw [gme_at h]; exact List.getElem_mem h
/-- the cells of one entry of a row -/
theorem Ents.at_ (h : Ents w B A n ms) {k : Nat} (hk : k < ms.length) :
    ∃ b off, A = some ⟨b, off, none⟩ ∧ b < B ∧ ∀ j u, (mcell (gme ms k))[j]? = some u → w.cell? ⟨b, off + k * 13 + j, none⟩ = some u := by
  have hn := h.len
  obtain ⟨ad, hA, hb, hc⟩ := h.row.2 (by omega)
  have h0 := hc (0 * 13 + 0) _ ((mc_at (l := ms) (i := 0) (by omega) 0 (by omega)).trans rfl)
  obtain ⟨b, off, sp⟩ := ad
  have hsp : sp = none := by
    have := spot_none h0
    simpa [Addr.add] using this
  subst hsp
  refine ⟨b, off, hA, hb, fun j u hu => ?_⟩
  have hj : j < 13 := (List.getElem?_eq_some_iff.1 hu).1
  have := hc (k * 13 + j) u ((mc_at hk j hj).trans hu)
  rw [Addr.add_lit, ← Nat.add_assoc] at this
  exact this
end
theorem Try.infoE : (Try.prog.info? 37).map (fun i => (i.zero, i.size, i.bytes)) = some (some (.agg #[.int .i64 0, .int .i64 0, .int .i64 0, .int .i64 0, .int .i64 0, .string ⟨#[]⟩, .int .i64 0, .slice none 0 0, .slice none 0 0, .int .i64 0, .int .i64 0, .int .i64 0, .int .i64 0]), 13, 144) := by kernel_rfl
theorem Try.infoI : (Try.prog.info? 3).map (fun i => (i.zero, i.size, i.bytes)) = some (some (.int .i64 0), 1, 8) := by kernel_rfl
/-- one entry, in a block of its own -/
theorem Src.ent {P : Program} {w : World} {tx e' : TypeId} (hk : P.underlying tx = some (.slice e')) (m : MEnt) (t : TypeId) :
    Src P 13 tx (.slice (some ⟨w.heap.size, 0, none⟩) 1 1) 1 (mcell m) (w.alloc (.cells (mcell m).toArray t)) :=
  Src.ofSlice (P := P) _ hk _ 1 1 (mcell m) rfl (fun j u hu => by
    rw [Addr.add_lit, Nat.zero_add]
    exact ((Blk.new w t (mcell m).toArray).cell j).trans (by simpa using hu)) (by simp [mcell]; exact ⟨rfl, rfl, rfl, rfl, rfl, rfl, rfl, rfl, rfl, rfl, rfl, rfl, rfl⟩)
theorem below_alloc (w : World) (o : Obj) : Below w.heap.size w (w.alloc o) := (Below.refl _ _).alloc (Nat.le_refl _) _
theorem below_drewN {B : Nat} {w w1 : World} (h : Below B w w1) (n : Nat) : Below B w (w1.drewN n) := ⟨h.os, h.tape, h.output, h.size, h.block⟩
theorem storedAll : ∀ (vs : List Value) {w : World} {g base size n c p : Nat} {e : TypeId} {xs : List Value}, w.ownsRow base e size (.slice (some ⟨g, 0, none⟩) n c) n xs → (w.setCells g p vs).ownsRow base e size (.slice (some ⟨g, 0, none⟩) n c) n (setAll xs p vs)
  | [], _, _, _, _, _, _, _, _, _, h => h
  | v :: vs, _, _, _, _, _, _, p, _, _, h => storedAll vs (h.stored p v).1
theorem keptAll : ∀ (vs : List Value) {w : World} {g p : Nat} {S : List Nat} {w0 : World}, Kept S w0 w → (g ∈ S ∨ w0.heap.size ≤ g) → Kept S w0 (w.setCells g p vs)
  | [], _, _, _, _, _, h, _ => h
  | v :: vs, _, _, _, _, _, h, hg => keptAll vs (h.setCell _ hg) hg
theorem belowAll : ∀ (vs : List Value) {w : World} {g p B : Nat} {w0 : World}, Below B w0 w → B ≤ g → Below B w0 (w.setCells g p vs)
  | [], _, _, _, _, _, h, _ => h
  | v :: vs, _, g, p, _, _, h, hg => belowAll vs (h.setCell (p := ⟨g, p, none⟩) hg v) hg
theorem Blk.setAll {t : TypeId} : ∀ (vs : List Value) {w : World} {g p : Nat} {cs : List Value}, Blk w g t cs.toArray → Blk (w.setCells g p vs) g t (setAll cs p vs).toArray
  | [], _, _, _, _, h => h
  | v :: vs, w, g, p, cs, h => by
    have := h.set_ p v
    rw [List.setIfInBounds_toArray] at this
    exact Blk.setAll vs this
theorem Blk.farAll {t : TypeId} : ∀ (vs : List Value) {w : World} {g g' p : Nat} {cs : Array Value}, Blk w g t cs → g ≠ g' → Blk (w.setCells g' p vs) g t cs
  | [], _, _, _, _, _, h, _ => h
  | v :: vs, w, g, g', p, cs, h, hne => Blk.farAll vs (h.far (p := ⟨g', p, none⟩) hne v) hne
theorem Blk.there {w : World} {g : Nat} {t : TypeId} {cs : Array Value} (h : Blk w g t cs) {o n : Nat} (hn : o + n ≤ cs.size) : w.there g o n := fun j hj => by
  refine ⟨?_, h.frozen _⟩
  rw [h.cell, Array.getElem?_eq_getElem (by omega)]
  rfl
theorem Blk.range {w : World} {g : Nat} {t : TypeId} {cs : List Value} (h : Blk w g t cs.toArray) : w.rangeAt g 0 cs := fun j v hv => by
  rw [Nat.zero_add, h.cell]
  simpa using hv
theorem own_there {w : World} {base g n c size : Nat} {e : TypeId} {xs : List Value} (h : w.ownsRow base e size (.slice (some ⟨g, 0, none⟩) n c) n xs) {o m : Nat} (hm : o + m ≤ n * size) : w.there g o m := fun j hj => by
  have hl := h.1
  refine ⟨?_, h.frozenAt _⟩
  rw [h.cellAt (o + j) (by omega), List.getElem?_eq_getElem (by omega)]
  rfl
theorem Ents.range {w : World} {B n : Nat} {A : Option Addr} {ms : List MEnt} (h : Ents w B A n ms) {k : Nat} (hk : k < ms.length) : ∃ b off, A = some ⟨b, off, none⟩ ∧ b < B ∧ w.rangeAt b (off + k * 13) (mcell (gme ms k)) := by
  obtain ⟨b, off, hA, hb, hc⟩ := h.at_ hk
  exact ⟨b, off, hA, hb, hc⟩
/-- an entry is read -/
theorem load_ent {w : World} {b o : Nat} {m : MEnt} (h : w.rangeAt b o (mcell m)) : (Instr.loadAt 37 (.pointer (some ⟨b, o, none⟩))).run Try.prog w = .ok (magg m) w :=
  run_loadAt_mid w b o 37 (mcell m) _ h Try.underlying37 rfl (by kernel_rfl)
/-- an entry is written -/
theorem store_ent {w : World} {b o : Nat} (m : MEnt) (h : w.there b o 13) : (Instr.storeAt 37 (.pointer (some ⟨b, o, none⟩)) (magg m)).run Try.prog w = .ok () (w.setCells b o (mcell m)) :=
  run_storeAt_mid w b o 37 (mcell m).toArray h (by kernel_rfl) (all_oneCell_toArray (fun v hv => by
    simp [mcell] at hv
    rcases hv with rfl | rfl | rfl | rfl | rfl | rfl | rfl | rfl | rfl | rfl | rfl | rfl | rfl <;> rfl))
theorem cells_ent {P : Program} {w : World} {b o : Nat} (m : MEnt) (h : w.there b o 13) : (storeCells ⟨b, o, none⟩ (mcell m)).run P w = .ok () (w.setCells b o (mcell m)) := by
  have := run_storeCells_cells (P := P) b o (mcell m) 0 w (fun j hj => by simpa using (h j (by rw [mcell_len] at hj; exact hj)).1) (fun j hj => by simpa using (h j (by rw [mcell_len] at hj; exact hj)).2) (mcell_one m)
  simpa using this
theorem own_farAll {base : Nat} {e : TypeId} {size n : Nat} {v : Value} {xs : List Value} : ∀ (vs : List Value) {w : World} {g p : Nat}, w.ownsRow base e size v n xs → v.ownBlock ≠ some g → (w.setCells g p vs).ownsRow base e size v n xs
  | [], _, _, _, h, _ => h
  | u :: vs, _, g, p, h, hn => own_farAll vs (own_far h (p := ⟨g, p, none⟩) (fun k hk hkp => hn (by rw [hk, hkp])) u) hn
theorem own_fresh {w : World} {base e size n c : Nat} {A : Option Addr} {xs : List Value} (h : w.ownsRow base e size (.slice A n c) n xs) : ∀ k ∈ ob A, base ≤ k := by
  intro k hk
  rcases h.2 with ⟨hv, _⟩ | ⟨g, cap, cur, hv, hg, _⟩
  · injection hv with hA
    subst hA
    simp [ob] at hk
  · injection hv with hA
    subst hA
    simp [ob] at hk
    omega
end Go.Proofs.Ytdcnfdhhflmdcaa
