/- Writes in memory: a row of structs of three cells. -/
import Derived.Test.YtdcnfdhhflmdcaaProg
import Derived.Test.YtdcnfdhhflmdcaaAid
import Derived.Deep.QuietTactic
import Derived.BigQuiet
import Derived.Outline
import Derived.WalkSpells
import Derived.WalkLawsBesides
import Derived.Laws.StructEq
namespace Go.Proofs.Ytdcnfdhhflmdcaa
open Go.RowKit
set_option linter.unusedSimpArgs false
set_option linter.unusedVariables false

structure Wrt where
  key : ByteArray
  val : ByteArray
  del : Bool
deriving DecidableEq
def wcell (x : Wrt) : List Value := [.string x.key, .string x.val, .bool x.del]
def wagg (x : Wrt) : Value := .agg #[.string x.key, .string x.val, .bool x.del]
def wc (l : List Wrt) : List Value := l.flatMap wcell
def w0 : Wrt := ⟨⟨#[]⟩, ⟨#[]⟩, false⟩
def gw (l : List Wrt) (i : Nat) : Wrt := l.getD i w0
theorem gw_at {l : List Wrt} {i : Nat} (h : i < l.length) : gw l i = l[i] := by
  unfold gw
  rw [List.getD_eq_getElem?_getD, List.getElem?_eq_getElem h]
  rfl
theorem wc_len (l : List Wrt) : (wc l).length = l.length * 3 := by
  induction l with
  | nil => rfl
  | cons x r ih => show (wcell x ++ wc r).length = _; rw [List.length_append, ih]; simp [wcell]; omega
theorem wc_nil : wc [] = [] := rfl
theorem wc_cons (x : Wrt) (r : List Wrt) : wc (x :: r) = wcell x ++ wc r := rfl
theorem wc_app (l r : List Wrt) : wc (l ++ r) = wc l ++ wc r := by simp [wc]
theorem wc_snoc (l : List Wrt) (x : Wrt) : wc l ++ [.string x.key, .string x.val, .bool x.del] = wc (l ++ [x]) := by rw [wc_app]; simp [wc, wcell]
theorem wc_one (l : List Wrt) : ∀ u ∈ wc l, u.oneCell' = true := by
  intro u hu
  obtain ⟨x, _, hx⟩ := List.mem_flatMap.1 hu
  simp [wcell] at hx
  rcases hx with rfl | rfl | rfl <;> rfl
theorem wc_drop (l : List Wrt) : ∀ k, (wc l).drop (k * 3) = wc (l.drop k) := by
  induction l with
  | nil => intro k; simp [wc]
  | cons x r ih =>
    intro k
    rcases k with _ | k
    · simp
    · rw [wc_cons, show (k + 1) * 3 = (wcell x).length + k * 3 by simp [wcell]; omega, ← List.drop_drop, List.drop_left, ih k]
      rfl
theorem wc_take (l : List Wrt) : ∀ k, (wc l).take (k * 3) = wc (l.take k) := by
  induction l with
  | nil => intro k; simp [wc]
  | cons x r ih =>
    intro k
    rcases k with _ | k
    · simp [wc]
    · rw [wc_cons, show (k + 1) * 3 = (wcell x).length + k * 3 by simp [wcell]; omega, List.take_length_add_append, ih k, List.take_succ_cons]
      rfl
theorem wc_at {l : List Wrt} {i : Nat} (h : i < l.length) : (wc l)[i * 3]? = some (.string (gw l i).key) ∧ (wc l)[i * 3 + 1]? = some (.string (gw l i).val) ∧ (wc l)[i * 3 + 2]? = some (.bool (gw l i).del) := by
  have e : ∀ j, (wc l)[i * 3 + j]? = (wc (l.drop i))[j]? := fun j => by rw [← wc_drop, List.getElem?_drop]
  have e0 := e 0
  rw [Nat.add_zero] at e0
  rw [e0, e 1, e 2, List.drop_eq_getElem_cons h, wc_cons, gw_at h]
  exact ⟨rfl, rfl, rfl⟩
theorem wc_set (l : List Wrt) (y : Wrt) : ∀ i, i < l.length → (((wc l).set (i * 3) (.string y.key)).set (i * 3 + 1) (.string y.val)).set (i * 3 + 2) (.bool y.del) = wc (l.set i y) := by
  induction l with
  | nil => intro i h; simp at h
  | cons x r ih =>
    intro i h
    rcases i with _ | i
    · rfl
    · have := ih i (by simpa using h)
      rw [List.set_cons_succ, wc_cons, wc_cons, ← this]
      rw [show (i + 1) * 3 = i * 3 + 1 + 1 + 1 by omega]
      rfl
theorem wc_setKey (l : List Wrt) (k : ByteArray) : ∀ i, i < l.length → (wc l).set (i * 3) (.string k) = wc (l.set i ⟨k, (gw l i).val, (gw l i).del⟩) := by
  induction l with
  | nil => intro i h; simp at h
  | cons x r ih =>
    intro i h
    rcases i with _ | i
    · rfl
    · have := ih i (by simpa using h)
      rw [List.set_cons_succ, wc_cons, wc_cons, show gw (x :: r) (i + 1) = gw r i from rfl, ← this]
      rw [show (i + 1) * 3 = i * 3 + 1 + 1 + 1 by omega]
      rfl
theorem spot_none {w : World} {a : Addr} {v : Value} (h : w.cell? a = some v) : a.spot = none := by
  unfold World.cell? at h
  cases hs : a.spot with
  | none => rfl
  | some s =>
    simp [hs] at h
    split at h <;> simp at h
/-- the cells of one write of a row -/
theorem Reads.wrt {w : World} {B n : Nat} {A : Option Addr} {l : List Wrt} (h : Reads w B 3 A n (wc l)) {k : Nat} (hk : k < l.length) :
    ∃ b off, A = some ⟨b, off, none⟩ ∧ b < B ∧ w.cell? ⟨b, off + k * 3, none⟩ = some (.string (gw l k).key) ∧ w.cell? ⟨b, off + k * 3 + 1, none⟩ = some (.string (gw l k).val) ∧ w.cell? ⟨b, off + k * 3 + 2, none⟩ = some (.bool (gw l k).del) := by
  have hn := h.1
  rw [wc_len] at hn
  obtain ⟨ad, hA, hb, hc⟩ := h.2 (by omega)
  obtain ⟨h0, h1, h2⟩ := wc_at hk
  have e0 := hc _ _ h0
  have e1 := hc _ _ h1
  have e2 := hc _ _ h2
  obtain ⟨b, off, sp⟩ := ad
  have hsp : sp = none := by
    have := spot_none (hc 0 _ (wc_at (l := l) (i := 0) (by omega)).1)
    simpa [Addr.add] using this
  subst hsp
  rw [Addr.add_lit] at e0 e1 e2
  exact ⟨b, off, hA, hb, e0, by rw [← Nat.add_assoc] at e1; exact e1, by rw [← Nat.add_assoc] at e2; exact e2⟩
/-- one write, in a block of its own -/
theorem Src.wrt {P : Program} {w : World} {tx e' : TypeId} (hk : P.underlying tx = some (.slice e')) (x : Wrt) (t : TypeId) :
    Src P 3 tx (.slice (some ⟨w.heap.size, 0, none⟩) 1 1) 1 (wcell x) (w.alloc (.cells #[.string x.key, .string x.val, .bool x.del] t)) :=
  Src.ofSlice (P := P) _ hk _ 1 1 (wcell x) rfl (fun j u hu => by
    rw [Addr.add_lit, Nat.zero_add]
    exact ((Blk.new w t #[.string x.key, .string x.val, .bool x.del]).cell j).trans (by simpa [wcell] using hu)) (by simp [wcell]; exact ⟨rfl, rfl, rfl⟩)
theorem Try.infoW : (Try.prog.info? 76).map (fun i => (i.zero, i.size, i.bytes)) = some (some (.agg #[.string ⟨#[]⟩, .string ⟨#[]⟩, .bool false]), 3, 40) := by kernel_rfl

theorem fields_of {P : Program} {t : TypeId} {fs : Array Field} (h : P.underlying t = some (.struct fs)) : P.fieldsOf t = fs := by simp [Program.fieldsOf, h]
/-- two writes, held against each other -/
def neW (x y : Wrt) : Bool := !((x.key.toList == y.key.toList) && (x.val.toList == y.val.toList) && (x.del == y.del))
theorem neW_self (x : Wrt) : neW x x = false := by simp [neW]
theorem run_neW (x y : Wrt) (w : World) : (binOp .neq 76 (.agg #[.string x.key, .string x.val, .bool x.del]) (.agg #[.string y.key, .string y.val, .bool y.del])).run Try.prog w = .ok (.bool (neW x y)) w := by
  rw [run_neq_struct]
  have hf := fields_of Try.underlying76
  have h := run_equalIn_struct (P := Try.prog) w 9999 76 #[.string x.key, .string x.val, .bool x.del] #[.string y.key, .string y.val, .bool y.del] (by rw [hf]; exact Try.underlying76) (by kernel_rfl)
  rw [h, hf]
  have p1 : ∀ (z : Wrt) (w : World), (part 9 #[.string z.key, .string z.val, .bool z.del] 0).run Try.prog w = .ok (.string z.key) w := fun z w => by kernel_rfl
  have p2 : ∀ (z : Wrt) (w : World), (part 9 #[.string z.key, .string z.val, .bool z.del] 1).run Try.prog w = .ok (.string z.val) w := fun z w => by kernel_rfl
  have p3 : ∀ (z : Wrt) (w : World), (part 4 #[.string z.key, .string z.val, .bool z.del] 2).run Try.prog w = .ok (.bool z.del) w := fun z w => by kernel_rfl
  have q1 : ∀ (a b : ByteArray) (w : World), (Op.equalIn 9999 9 (.string a) (.string b)).run Try.prog w = .ok (a.toList == b.toList) w := fun a b w => run_equalIn_string w 9998 9 a b Try.underlying9
  have q2 : ∀ (a b : Bool) (w : World), (Op.equalIn 9999 4 (.bool a) (.bool b)).run Try.prog w = .ok (a == b) w := fun a b w => run_equalIn_bool' w 9998 4 a b Try.underlying4
  unfold neW
  cases e1 : (x.key.toList == y.key.toList) <;> cases e2 : (x.val.toList == y.val.toList) <;> cases e3 : (x.del == y.del) <;>
    simp [Op.eqFields, p1, p2, p3, q1, q2, e1, e2, e3, Result.andThen]
end Go.Proofs.Ytdcnfdhhflmdcaa
