/- Locks, Restore: a map of ids. -/
import Derived.Test.YtpidpdbjjdkhoaaGreatLkB
import Derived.Test.YtpidpdbjjdkhoaaGreatLkE
import Derived.MapKept
import Derived.ChangeMaps5
import Derived.Carry
namespace Go.Proofs.YtpidpdbjjdkhoaaGreat
open Go.RowKit
set_option linter.unusedSimpArgs false
set_option linter.unusedVariables false

/-- a map block: these ids, each of them with 'true' -/
def MapAt (w : World) (b : Nat) (L : List Idn) : Prop :=
  ∃ (es : Array MapEntry) (clock : Nat), w.heap[b]? = some (.map es clock) ∧ es.toList.map (fun e => (e.key, e.val)) = L.map (fun i => (idV i, Value.bool true))
theorem run_checkId (e : Bool) (n : Nat) (x : Idn) (w : World) : (Instr.checkKey e (n + 2) 29 (idV x)).run Tryz.prog w = .ok () w := by
  cases e <;> kernel_rfl
theorem run_checkId' (e : Bool) (x : Idn) (w : World) : (Instr.checkKey e 10000 29 (idV x)).run Tryz.prog w = .ok () w := run_checkId e 9998 x w
theorem run_findAskId (x : Idn) (w : World) : ∀ (es : List MapEntry) (L : List Idn) (i : Nat), es.map (fun e => (e.key, e.val)) = L.map (fun i => (idV i, Value.bool true)) →
    ∃ r, (Instr.findAsking 29 (idV x) es i).run Tryz.prog w = .ok r w ∧ ((r = none ∧ hasI L x = false) ∨ (∃ j, r = some (j, Value.bool true) ∧ hasI L x = true))
  | [], L, i, h => by
    cases L with
    | nil => exact ⟨none, rfl, .inl ⟨rfl, rfl⟩⟩
    | cons y L => cases h
  | e :: es, [], i, h => by cases h
  | e :: es, y :: L, i, h => by
    simp only [List.map_cons, List.cons.injEq, Prod.mk.injEq] at h
    obtain ⟨⟨h1, h2⟩, h3⟩ := h
    have hq : (Op.equal 29 (idV x) (idV y)).run Tryz.prog w = .ok (eqI x y) w := run_eqIn 9998 x y w
    unfold Instr.findAsking
    rw [h1, h2]
    cases he : eqI x y with
    | true =>
      rw [he] at hq
      refine ⟨some (i, .bool true), by simp [hq, Result.andThen], .inr ⟨i, rfl, ?_⟩⟩
      rw [eqI_iff.1 he]
      simp [hasI]
    | false =>
      rw [he] at hq
      obtain ⟨r, hr, hc⟩ := run_findAskId x w es L (i + 1) h3
      have hne : decide (y = x) = false := decide_eq_false (fun e => by rw [e] at he; rw [eqI_iff.2 rfl] at he; cases he)
      have hh : hasI (y :: L) x = hasI L x := by simp [hasI, hne]
      rw [hh]
      exact ⟨r, by simp [hq, hr, Result.andThen], hc⟩
theorem findNow_id (x : Idn) : ∀ (es : List MapEntry) (i : Nat) fs, Instr.findNow (.struct fs) (idV x) es i = if es = [] then some none else none
  | [], i, fs => rfl
  | e :: es, i, fs => by simp [Instr.findNow, Instr.sameNow]
theorem run_findId (x : Idn) (w : World) (es : List MapEntry) (L : List Idn) (h : es.map (fun e => (e.key, e.val)) = L.map (fun i => (idV i, Value.bool true))) :
    ∃ r, (Instr.findKey 29 (idV x) es).run Tryz.prog w = .ok r w ∧ ((r = none ∧ hasI L x = false) ∨ (∃ j, r = some (j, Value.bool true) ∧ hasI L x = true)) := by
  unfold Instr.findKey
  by_cases h0 : es = []
  · subst h0
    cases L with
    | nil => exact ⟨none, by simp [run_underlying Tryz.underlying29, findNow_id, Result.andThen], .inl ⟨rfl, rfl⟩⟩
    | cons y L => cases h
  · obtain ⟨r, hr, hc⟩ := run_findAskId x w es L 0 h
    exact ⟨r, by simp [run_underlying Tryz.underlying29, findNow_id, h0, hr, Result.andThen], hc⟩
theorem MapAt.look {w : World} {b : Nat} {L : List Idn} (h : MapAt w b L) (x : Idn) : (Instr.lookup 92 (.map (some b)) (idV x) false).run Tryz.prog w = .ok (.bool (hasI L x)) w := by
  obtain ⟨es, clock, hb, hk⟩ := h
  have hz : (zeroValue 4).run Tryz.prog w = .ok (.bool false) w := by kernel_rfl
  obtain ⟨r, hr, hc⟩ := run_findId x w es.toList L hk
  rcases hc with ⟨rfl, hc⟩ | ⟨j, rfl, hc⟩
  · rw [hc]
    simp [Instr.lookup, run_underlying Tryz.underlying92, MapKept.run_getObj_map hb, run_checkId', hr, hz, Result.andThen]
  · rw [hc]
    simp [Instr.lookup, run_underlying Tryz.underlying92, MapKept.run_getObj_map hb, run_checkId', hr, Result.andThen]
theorem MapAt.put {w : World} {b : Nat} {L : List Idn} (h : MapAt w b L) {x : Idn} (hx : hasI L x = false) :
    ∃ w', (Instr.mapUpdate 92 (.map (some b)) (idV x) (.bool true)).run Tryz.prog w = .ok () w' ∧ MapAt w' b (L ++ [x]) ∧ Kept [b] w w' := by
  obtain ⟨es, clock, hb, hk⟩ := h
  obtain ⟨r, hr, hc⟩ := run_findId x w es.toList L hk
  rcases hc with ⟨rfl, _⟩ | ⟨j, rfl, hc⟩
  · refine ⟨{ w with heap := w.heap.setIfInBounds b (.map (es.push ⟨idV x, .bool true, clock⟩) (clock + 1)) }, ?_, ⟨es.push ⟨idV x, .bool true, clock⟩, clock + 1, ?_, ?_⟩, ⟨rfl, rfl, rfl, by simp, fun k hk hn => ?_⟩⟩
    · simp [Instr.mapUpdate, run_underlying Tryz.underlying92, MapKept.run_getObj_map hb, run_checkId', hr, MapKept.run_setObj_map _ hb, Result.andThen]
    · have : b < w.heap.size := (Array.getElem?_eq_some_iff.1 hb).1
      simp [this]
    · simp [hk]
    · have : b ≠ k := fun e => hn (by simp [e])
      rw [Array.getElem?_setIfInBounds_ne this]
  · rw [hc] at hx; cases hx
theorem MapAt.kept {w w' : World} {b : Nat} {L : List Idn} {S : List Nat} (h : MapAt w b L) (hk : Kept S w w') (hn : b ∉ S) : MapAt w' b L := by
  obtain ⟨es, clock, hb, he⟩ := h
  exact ⟨es, clock, by rw [hk.block b (Array.getElem?_eq_some_iff.1 hb).1 hn]; exact hb, he⟩
theorem MapAt.below {w w' : World} {b : Nat} {L : List Idn} (h : MapAt w b L) (hb : Below w.heap.size w w') : MapAt w' b L := h.kept (S := []) (Kept.of_below hb) (by simp)
theorem MapAt.lt {w : World} {b : Nat} {L : List Idn} (h : MapAt w b L) : b < w.heap.size := by
  obtain ⟨es, clock, hb, he⟩ := h
  exact (Array.getElem?_eq_some_iff.1 hb).1
theorem MapAt.new (w : World) : MapAt (w.alloc (.map #[] 0)) w.heap.size [] := ⟨#[], 0, by show (w.heap.push _)[w.heap.size]? = _; simp, rfl⟩
end Go.Proofs.YtpidpdbjjdkhoaaGreat
