/- Rows of structs, whatever their cells; values written one behind the other; a row of one's own made longer, and cut. -/
import Derived.Test.YtpidpdbjjdkhoaaGreatProg
import Derived.Test.YtpidpdbjjdkhoaaGreatAid
import Derived.Test.YtpidpdbjjdkhoaaGreatRegL
import Derived.Deep.MidRow
import Derived.Deep.QuietTactic
import Derived.BigQuiet
import Derived.Outline
import Derived.WalkSpells
import Derived.WalkLawsBesides
import Derived.Laws.StructEq
namespace Go.Proofs.YtpidpdbjjdkhoaaGreat
open Go.RowKit
set_option linter.unusedSimpArgs false
set_option linter.unusedVariables false

/-- how an element lies: its cells -/
structure RowT (α : Type) where
  cells : α → List Value
  sz : Nat
  dflt : α
  pos : 0 < sz
  len : ∀ x, (cells x).length = sz
  one : ∀ x, ∀ u ∈ cells x, u.oneCell' = true
def rc {α : Type} (R : RowT α) (l : List α) : List Value := l.flatMap R.cells
def gr {α : Type} (R : RowT α) (l : List α) (i : Nat) : α := l.getD i R.dflt
section
variable {α : Type} {R : RowT α}
theorem gr_at {l : List α} {i : Nat} (h : i < l.length) : gr R l i = l[i] := by
  unfold gr
  rw [List.getD_eq_getElem?_getD, List.getElem?_eq_getElem h]
  rfl
theorem gr_get {l : List α} {i : Nat} (h : i < l.length) : l[i]? = some (gr R l i) := by rw [gr_at h, List.getElem?_eq_getElem h]
theorem gr_mem {l : List α} {i : Nat} (h : i < l.length) : gr R l i ∈ l := by rw [gr_at h]; exact List.getElem_mem h
theorem rc_nil : rc R [] = [] := rfl
theorem rc_cons (x : α) (r : List α) : rc R (x :: r) = R.cells x ++ rc R r := rfl
theorem rc_app (l r : List α) : rc R (l ++ r) = rc R l ++ rc R r := by simp [rc]
theorem rc_snoc (l : List α) (x : α) : rc R l ++ R.cells x = rc R (l ++ [x]) := by rw [rc_app]; simp [rc]
theorem rc_single (x : α) : rc R [x] = R.cells x := by simp [rc]
theorem rc_len (l : List α) : (rc R l).length = l.length * R.sz := by
  induction l with
  | nil => simp [rc]
  | cons x r ih => rw [rc_cons, List.length_append, ih, R.len, List.length_cons, Nat.add_mul]; omega
theorem rc_one (l : List α) : ∀ u ∈ rc R l, u.oneCell' = true := by
  intro u hu
  obtain ⟨x, _, hx⟩ := List.mem_flatMap.1 hu
  exact R.one x u hx
theorem rc_drop (l : List α) : ∀ k, (rc R l).drop (k * R.sz) = rc R (l.drop k) := by
  induction l with
  | nil => intro k; simp [rc]
  | cons x r ih =>
    intro k
    rcases k with _ | k
    · simp
    · rw [rc_cons, show (k + 1) * R.sz = (R.cells x).length + k * R.sz by rw [R.len, Nat.add_mul]; omega, ← List.drop_drop, List.drop_left, ih k]
      rfl
theorem rc_take (l : List α) : ∀ k, (rc R l).take (k * R.sz) = rc R (l.take k) := by
  induction l with
  | nil => intro k; simp [rc]
  | cons x r ih =>
    intro k
    rcases k with _ | k
    · simp [rc]
    · rw [rc_cons, show (k + 1) * R.sz = (R.cells x).length + k * R.sz by rw [R.len, Nat.add_mul]; omega, List.take_length_add_append, ih k, List.take_succ_cons]
      rfl
theorem rc_at {l : List α} {i : Nat} (h : i < l.length) (j : Nat) (hj : j < R.sz) : (rc R l)[i * R.sz + j]? = (R.cells (gr R l i))[j]? := by
  rw [← List.getElem?_drop, rc_drop, List.drop_eq_getElem_cons h, rc_cons, gr_at h, List.getElem?_append_left (by rw [R.len]; exact hj)]
end
/-- values written one behind the other -/
def setAll : List Value → Nat → List Value → List Value
  | xs, _, [] => xs
  | xs, p, v :: vs => setAll (xs.set p v) (p + 1) vs
theorem setAll_cons (a : Value) : ∀ (vs : List Value) (xs : List Value) (p : Nat), setAll (a :: xs) (p + 1) vs = a :: setAll xs p vs
  | [], _, _ => rfl
  | v :: vs, xs, p => by unfold setAll; rw [List.set_cons_succ, setAll_cons a vs]
theorem setAll_app (vs : List Value) : ∀ (pre xs : List Value) (p : Nat), setAll (pre ++ xs) (pre.length + p) vs = pre ++ setAll xs p vs
  | [], xs, p => by simp
  | a :: pre, xs, p => by rw [List.cons_append, List.length_cons, show pre.length + 1 + p = pre.length + p + 1 by omega, setAll_cons, setAll_app vs pre]; rfl
theorem setAll_head : ∀ (vs old xs : List Value), old.length = vs.length → setAll (old ++ xs) 0 vs = vs ++ xs
  | [], [], _, _ => rfl
  | v :: vs, o :: old, xs, h => by
    show setAll ((o :: (old ++ xs)).set 0 v) (0 + 1) vs = _
    rw [List.set_cons_zero, setAll_cons, setAll_head vs old xs (by simpa using h)]
    rfl
theorem setAll_len : ∀ (vs xs : List Value) (p : Nat), (setAll xs p vs).length = xs.length
  | [], _, _ => rfl
  | v :: vs, xs, p => by unfold setAll; rw [setAll_len vs]; simp
/-- in the midst -/
theorem setAll_mid (pre old post vs : List Value) (h : old.length = vs.length) : setAll (pre ++ (old ++ post)) pre.length vs = pre ++ (vs ++ post) := by
  have := setAll_app vs pre (old ++ post) 0
  rw [Nat.add_zero] at this
  rw [this, setAll_head vs old post h]
theorem rc_set {α : Type} {R : RowT α} (l : List α) (y : α) : ∀ i, i < l.length → setAll (rc R l) (i * R.sz) (R.cells y) = rc R (l.set i y) := by
  induction l with
  | nil => intro i h; simp at h
  | cons x r ih =>
    intro i h
    rcases i with _ | i
    · rw [rc_cons, Nat.zero_mul, setAll_head _ _ _ (by rw [R.len, R.len])]
      rfl
    · have := ih i (by simpa using h)
      rw [List.set_cons_succ, rc_cons, rc_cons, ← this, show (i + 1) * R.sz = (R.cells x).length + i * R.sz by rw [R.len, Nat.add_mul]; omega, setAll_app]
theorem below_alloc (w : World) (o : Obj) : Below w.heap.size w (w.alloc o) := (Below.refl _ _).alloc (Nat.le_refl _) _
theorem below_drewN {B : Nat} {w w1 : World} (h : Below B w w1) (n : Nat) : Below B w (w1.drewN n) := ⟨h.os, h.tape, h.output, h.size, h.block⟩
theorem storedAll : ∀ (vs : List Value) {w : World} {g base size n c p : Nat} {e : TypeId} {xs : List Value}, w.ownsRow base e size (.slice (some ⟨g, 0, none⟩) n c) n xs → (w.setCells g p vs).ownsRow base e size (.slice (some ⟨g, 0, none⟩) n c) n (setAll xs p vs)
  | [], _, _, _, _, _, _, _, _, _, h => h
  | v :: vs, _, _, _, _, _, _, p, _, _, h => storedAll vs (h.stored p v).1
theorem keptAll : ∀ (vs : List Value) {w : World} {g p : Nat} {S : List Nat} {w0 : World}, Kept S w0 w → (g ∈ S ∨ w0.heap.size ≤ g) → Kept S w0 (w.setCells g p vs)
  | [], _, _, _, _, _, h, _ => h
  | v :: vs, _, _, _, _, _, h, hg => keptAll vs (h.setCell _ hg) hg
theorem belowAll : ∀ (vs : List Value) {w : World} {g p B : Nat} {w0 : World}, Below B w0 w → B ≤ g → Below B w0 (w.setCells g p vs)
  | [], _, _, _, _, _, h, _ => h
  | v :: vs, _, g, p, _, _, h, hg => belowAll vs (h.setCell (p := ⟨g, p, none⟩) hg v) hg
theorem Blk.setAll {t : TypeId} : ∀ (vs : List Value) {w : World} {g p : Nat} {cs : List Value}, Blk w g t cs.toArray → Blk (w.setCells g p vs) g t (setAll cs p vs).toArray
  | [], _, _, _, _, h => h
  | v :: vs, w, g, p, cs, h => by
    have := h.set_ p v
    rw [List.setIfInBounds_toArray] at this
    exact Blk.setAll vs this
theorem Blk.there {w : World} {g : Nat} {t : TypeId} {cs : Array Value} (h : Blk w g t cs) {o n : Nat} (hn : o + n ≤ cs.size) : w.there g o n := fun j hj => by
  refine ⟨?_, h.frozen _⟩
  rw [h.cell, Array.getElem?_eq_getElem (by omega)]
  rfl
theorem Blk.range {w : World} {g : Nat} {t : TypeId} {cs : List Value} (h : Blk w g t cs.toArray) : w.rangeAt g 0 cs := fun j v hv => by
  rw [Nat.zero_add, h.cell]
  simpa using hv
theorem own_there {w : World} {base g n c size : Nat} {e : TypeId} {xs : List Value} (h : w.ownsRow base e size (.slice (some ⟨g, 0, none⟩) n c) n xs) {o m : Nat} (hm : o + m ≤ n * size) : w.there g o m := fun j hj => by
  have hl := h.1
  refine ⟨?_, h.frozenAt _⟩
  rw [h.cellAt (o + j) (by omega), List.getElem?_eq_getElem (by omega)]
  rfl
theorem own_some {w : World} {base size n c : Nat} {e : TypeId} {A : Option Addr} {xs : List Value} (h : w.ownsRow base e size (.slice A n c) n xs) (hn : 0 < n) : ∃ g, A = some ⟨g, 0, none⟩ ∧ g < w.heap.size := by
  obtain ⟨g, cap, hv, _, hlt⟩ := h.form hn
  exact ⟨g, by injection hv, hlt⟩
theorem spot_none {w : World} {a : Addr} {v : Value} (h : w.cell? a = some v) : a.spot = none := by
  unfold World.cell? at h
  cases hs : a.spot with
  | none => rfl
  | some s =>
    simp [hs] at h
    split at h <;> simp at h
/-- the cells of one element of a row that is read -/
theorem Reads.elt {α : Type} {R : RowT α} {w : World} {B n : Nat} {A : Option Addr} {l : List α} (h : Reads w B R.sz A n (rc R l)) {k : Nat} (hk : k < l.length) :
    ∃ b off, A = some ⟨b, off, none⟩ ∧ b < B ∧ ∀ j u, (R.cells (gr R l k))[j]? = some u → w.cell? ⟨b, off + k * R.sz + j, none⟩ = some u := by
  have hn := h.1
  rw [rc_len] at hn
  have hp := R.pos
  have hn1 : n = l.length := (Nat.eq_of_mul_eq_mul_right hp hn).symm
  obtain ⟨ad, hA, hb, hc⟩ := h.2 (by omega)
  have h0 := hc (0 * R.sz + 0) _ ((rc_at (l := l) (i := 0) (by omega) 0 hp).trans (List.getElem?_eq_getElem (by rw [R.len]; exact hp)))
  obtain ⟨b, off, sp⟩ := ad
  have hsp : sp = none := by
    have := spot_none h0
    simpa [Addr.add] using this
  subst hsp
  refine ⟨b, off, hA, hb, fun j u hu => ?_⟩
  have hj : j < R.sz := by have := (List.getElem?_eq_some_iff.1 hu).1; rw [R.len] at this; exact this
  have := hc (k * R.sz + j) u ((rc_at hk j hj).trans hu)
  rw [Addr.add_lit, ← Nat.add_assoc] at this
  exact this
theorem own_elt {α : Type} {R : RowT α} {w : World} {base n c : Nat} {g : Nat} {e : TypeId} {l : List α} (h : w.ownsRow base e R.sz (.slice (some ⟨g, 0, none⟩) n c) n (rc R l)) {k : Nat} (hk : k < l.length) :
    ∀ j u, (R.cells (gr R l k))[j]? = some u → w.cell? ⟨g, k * R.sz + j, none⟩ = some u := by
  obtain ⟨b, off, hA, _, hc⟩ := (Reads.of_own h).elt hk
  injection hA with hA
  injection hA with h1 h2
  subst h1 h2
  intro j u hu
  have := hc j u hu
  rwa [Nat.zero_add] at this
/-- one more element's room -/
theorem own_extend {w : World} {base g n c size : Nat} {e : TypeId} {xs : List Value} (h : w.ownsRow base e size (.slice (some ⟨g, 0, none⟩) n c) n xs) (hn : n + 1 ≤ c) : ∃ junk : List Value, junk.length = size ∧ w.ownsRow base e size (.slice (some ⟨g, 0, none⟩) (n + 1) c) (n + 1) (xs ++ junk) := by
  rcases h.2 with ⟨hv, _⟩ | ⟨g', cap, cur, hv, hbg, hg, hnc, hcm, hcs, htake⟩
  · simp at hv
  · simp only [Value.slice.injEq, Option.some.injEq, Addr.mk.injEq, and_true, true_and] at hv
    obtain ⟨rfl, rfl⟩ := hv
    have hl := h.1
    have hm : (n + 1) * size ≤ cur.size := by rw [hcs]; exact Nat.mul_le_mul_right _ hn
    have hjl : ((cur.toList.drop (n * size)).take size).length = size := by
      rw [Nat.add_mul] at hm
      simp
      omega
    refine ⟨(cur.toList.drop (n * size)).take size, hjl, by rw [List.length_append, hjl, hl, Nat.add_mul]; omega, .inr ⟨g, c, cur, rfl, hbg, hg, hn, hcm, hcs, ?_⟩⟩
    rw [Nat.add_mul, Nat.one_mul, List.take_add, htake]
/-- a row of one's own, cut short -/
theorem own_take {w : World} {base size n c k : Nat} {A : Option Addr} {e : TypeId} {xs : List Value} (h : w.ownsRow base e size (.slice A n c) n xs) (hk : k ≤ n) (h0 : A = none → k = 0) : w.ownsRow base e size (.slice A k c) k (xs.take (k * size)) := by
  have hl := h.1
  have hkl : k * size ≤ n * size := Nat.mul_le_mul_right _ hk
  refine ⟨by rw [List.length_take]; omega, ?_⟩
  rcases h.2 with ⟨hv, hx⟩ | ⟨g', cap, cur, hv, hbg, hg, hnc, hcm, hcs, htake⟩
  · injection hv with hA hn hc
    have := h0 hA
    subst hA hc this
    exact .inl ⟨rfl, by simp⟩
  · injection hv with hA hn hc
    subst hA hc
    refine .inr ⟨g', _, cur, rfl, hbg, hg, by omega, hcm, hcs, ?_⟩
    rw [← htake, List.take_take, Nat.min_eq_left hkl]
theorem Kept.below0 {w w' : World} (h : Kept [] w w') : Below w.heap.size w w' := h.below (Nat.le_refl _) (by simp)
theorem Kept.same {S : List Nat} {w w' : World} (h : Kept S w w') (hs : ∀ k ∈ S, w'.heap[k]? = w.heap[k]?) : Below w.heap.size w w' :=
  ⟨h.os, h.tape, h.output, h.size, fun k hk => if hm : k ∈ S then hs k hm else h.block k hk hm⟩
theorem Reads.heap {w w' : World} {B size n : Nat} {A : Option Addr} {xs : List Value} {T : List Nat} (h : Reads w B size A n xs) (hT : 0 < n → ∀ k ∈ ob A, k ∈ T) (hs : ∀ k ∈ T, w'.heap[k]? = w.heap[k]?) : Reads w' B size A n xs :=
  ⟨h.1, fun hn => by
    obtain ⟨ad, e, hb, hc⟩ := h.2 hn
    refine ⟨ad, e, hb, fun j u hu => ?_⟩
    rw [← hc j u hu]
    exact World.cell?_of_block (by rw [block_of_add]; exact hs _ (hT hn _ (by rw [e]; simp [ob])))⟩
end Go.Proofs.YtpidpdbjjdkhoaaGreat
