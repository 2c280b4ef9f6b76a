/- rlog: a log as one thing: its blocks, its entries; what keeps it. -/
import Derived.Test.YtdcnfdhhflmdcaaEntN
namespace Go.Proofs.Ytdcnfdhhflmdcaa
open Go.RowKit
set_option linter.unusedSimpArgs false
set_option linter.unusedVariables false

/-- the blocks of the entries' own rows -/
def rows (ms : List MEnt) : List Nat := ms.flatMap fun m => ob m.aw ++ ob m.ag
theorem mem_rows {k : Nat} {ms : List MEnt} : k ∈ rows ms ↔ ∃ m ∈ ms, k ∈ ob m.aw ∨ k ∈ ob m.ag := by simp [rows, List.mem_flatMap]
theorem rows_app (l r : List MEnt) : rows (l ++ r) = rows l ++ rows r := by simp [rows]
/-- all blocks of a row of entries of one's own -/
def fpE (A : Option Addr) (ms : List MEnt) : List Nat := ob A ++ rows ms
section
variable {w w' : World} {B : Nat} {A : Option Addr} {c : Nat} {ms : List MEnt} {S : List Nat}
theorem OwnE.lt (h : OwnE w B A c ms) : ∀ k ∈ fpE A ms, k < w.heap.size := by
  intro k hk
  rcases List.mem_append.1 hk with h1 | h1
  · exact own_lt h.row k h1
  · obtain ⟨m, hm, h2 | h2⟩ := mem_rows.1 h1
    · exact own_lt (h.fine m hm).wr k h2
    · exact own_lt (h.fine m hm).gr k h2
theorem OwnE.low (h : OwnE w B A c ms) : ∀ k ∈ fpE A ms, B ≤ k := by
  intro k hk
  rcases List.mem_append.1 hk with h1 | h1
  · exact h.fa k h1
  · obtain ⟨m, hm, h2 | h2⟩ := mem_rows.1 h1
    · exact (h.fine m hm).fw k h2
    · exact (h.fine m hm).fg k h2
theorem OwnE.kept (h : OwnE w B A c ms) (hk : Kept S w w') (hd : ∀ k ∈ fpE A ms, k ∉ S) : OwnE w' B A c ms :=
  ⟨hk.own h.row (fun g hg => hd g (List.mem_append.2 (.inl (ownBlock_mem.1 hg)))), fun m hm => (h.fine m hm).kept hk
    (fun k hk2 => hd k (List.mem_append.2 (.inr (mem_rows.2 ⟨m, hm, .inl hk2⟩)))) (fun k hk2 => hd k (List.mem_append.2 (.inr (mem_rows.2 ⟨m, hm, .inr hk2⟩)))), h.fa⟩
theorem OwnE.drewN (h : OwnE w B A c ms) (n : Nat) : OwnE (w.drewN n) B A c ms := h.kept (S := []) ((Kept.refl _ _).drewN n) (by simp)
theorem OwnE.more {B' : Nat} (h : OwnE w B A c ms) (hB : B' ≤ B) : OwnE w B' A c ms := ⟨h.row, fun m hm => (h.fine m hm).more hB, fun k hk => Nat.le_trans hB (h.fa k hk)⟩
end
/-- a log, its entries in rows of its own -/
structure Lg (T : TypeId) (w : World) (d : Nat) (A : Option Addr) (c : Nat) (b t : Int) (ms : List MEnt) : Prop where
  blk : Blk w d T (logC b t A ms.length c)
  own : OwnE w 0 A c ms
  b0 : 0 ≤ b
  b1 : b + ms.length ≤ 1099511627776
  few : ms.length ≤ 512
  small : ∀ m ∈ ms, SmallE m
def fpL (d : Nat) (A : Option Addr) (ms : List MEnt) : List Nat := d :: fpE A ms
section
variable {T : TypeId} {w w' : World} {d : Nat} {A : Option Addr} {c : Nat} {b t : Int} {ms : List MEnt} {S : List Nat}
theorem Lg.lt (h : Lg T w d A c b t ms) : ∀ k ∈ fpL d A ms, k < w.heap.size := by
  intro k hk
  rcases List.mem_cons.1 hk with rfl | h1
  · exact h.blk.lt
  · exact h.own.lt k h1
theorem Lg.kept (h : Lg T w d A c b t ms) (hk : Kept S w w') (hd : ∀ k ∈ fpL d A ms, k ∉ S) : Lg T w' d A c b t ms :=
  ⟨hk.blk h.blk (hd d (List.mem_cons_self ..)), h.own.kept hk (fun k hk2 => hd k (List.mem_cons_of_mem _ hk2)), h.b0, h.b1, h.few, h.small⟩
theorem Lg.below (h : Lg T w d A c b t ms) (hb : Below w.heap.size w w') : Lg T w' d A c b t ms := h.kept (S := []) (Kept.of_below hb) (by simp)
theorem Lg.drewN (h : Lg T w d A c b t ms) (n : Nat) : Lg T (w.drewN n) d A c b t ms := h.kept (S := []) ((Kept.refl _ _).drewN n) (by simp)
theorem Lg.at_ (h : Lg 69 w d A c b t ms) : LogAt w d b t A c ms := ⟨h.blk, h.own.ents, h.b0, by have := h.b1; omega, h.few⟩
theorem Lg.ref_ (h : Lg 74 w d A c b t ms) : RefAt w d b t A c ms := ⟨h.blk, h.own.ents, h.b0, by have := h.b1; omega, h.few⟩
end
/-- a log, of its blocks F, with the entries l -/
def IsLog (T : TypeId) (w : World) (d : Nat) (F : List Nat) (b t : Int) (l : List Ent) : Prop := ∃ A c ms, Lg T w d A c b t ms ∧ F = fpL d A ms ∧ es ms = l
section
variable {T : TypeId} {w w' : World} {d : Nat} {F S : List Nat} {b t : Int} {l : List Ent}
theorem IsLog.lt (h : IsLog T w d F b t l) : ∀ k ∈ F, k < w.heap.size := by
  obtain ⟨A, c, ms, h, rfl, rfl⟩ := h
  exact h.lt
theorem IsLog.kept (h : IsLog T w d F b t l) (hk : Kept S w w') (hd : ∀ k ∈ F, k ∉ S) : IsLog T w' d F b t l := by
  obtain ⟨A, c, ms, h, rfl, rfl⟩ := h
  exact ⟨A, c, ms, h.kept hk hd, rfl, rfl⟩
theorem IsLog.below (h : IsLog T w d F b t l) (hb : Below w.heap.size w w') : IsLog T w' d F b t l := h.kept (S := []) (Kept.of_below hb) (by simp)
theorem IsLog.drewN (h : IsLog T w d F b t l) (n : Nat) : IsLog T (w.drewN n) d F b t l := h.kept (S := []) ((Kept.refl _ _).drewN n) (by simp)
end
/-! ### rows cut -/
section
variable {w : World} {B k n : Nat} {A : Option Addr} {ms : List MEnt}
theorem Ents.cut (h : Ents w B A ms.length ms) (hk : k ≤ ms.length) {cap : Nat} (hc : ms.length ≤ cap) : Ents w B (if cap = k then A else A.map (·.add (k * 13))) (ms.drop k).length (ms.drop k) :=
  ⟨by rw [List.length_drop, ← mc_drop]; exact h.row.cut hk hc, fun m hm => h.fine m (List.mem_of_mem_drop hm)⟩
theorem Ents.take (h : Ents w B A ms.length ms) (hk : k ≤ ms.length) : Ents w B A (ms.take k).length (ms.take k) :=
  ⟨by rw [List.length_take, Nat.min_eq_left hk, ← mc_take]; exact h.row.take hk, fun m hm => h.fine m (List.mem_of_mem_take hm)⟩
end
theorem SmallL.of {ms : List MEnt} (h : ms.length ≤ 512) (hs : ∀ m ∈ ms, SmallE m) : SmallL ms := ⟨by omega, hs⟩
end Go.Proofs.Ytdcnfdhhflmdcaa
