/- Locks: the acts' row; an act of a sound table. -/
import Derived.Test.YtpidpdbjjdkhoaaLlC
namespace Go.Proofs.Ytpidpdbjjdkhoaa
open Go.RowKit
set_option linter.unusedSimpArgs false
set_option linter.unusedVariables false
def opR : RowT LOp := ⟨fun o => [.int .i64 o.kind, .int .i64 o.id.n, .int .i64 o.id.c, .string o.key, .int .i64 o.mode], 5, ⟨0, ⟨0, 0⟩, ⟨#[]⟩, 0⟩, by decide, fun _ => rfl, fun x u hu => by
  simp only [List.mem_cons, List.mem_nil_iff, or_false] at hu
  rcases hu with rfl | rfl | rfl | rfl | rfl <;> rfl⟩
theorem rdO {w : World} {B n : Nat} {A : Option Addr} {l : List LOp} (h : Reads w B 5 A n (rc opR l)) {k : Nat} (hk : k < l.length) :
    ∃ b off, A = some ⟨b, off, none⟩ ∧ b < B ∧ w.cell? ⟨b, off + k * 5, none⟩ = some (.int .i64 (gr opR l k).kind) ∧ w.cell? ⟨b, off + k * 5 + 1, none⟩ = some (.int .i64 (gr opR l k).id.n) ∧ w.cell? ⟨b, off + k * 5 + 2, none⟩ = some (.int .i64 (gr opR l k).id.c) ∧ w.cell? ⟨b, off + k * 5 + 3, none⟩ = some (.string (gr opR l k).key) ∧ w.cell? ⟨b, off + k * 5 + 4, none⟩ = some (.int .i64 (gr opR l k).mode) := by
  obtain ⟨b, off, hA, hb, hc⟩ := Reads.elt (R := opR) h hk
  exact ⟨b, off, hA, hb, hc 0 _ rfl, hc 1 _ rfl, hc 2 _ rfl, hc 3 _ rfl, hc 4 _ rfl⟩
/-- an act of a sound table -/
theorem play_sane {w0 w : World} {T : List Nat} {d n : Nat} {q : Tb} {m : TbM} (h : TbX w0 T d q m w) (hs : Sane n q) (hn : n ≤ 400) (o : LOp) :
    Calls Try.prog 10 #[.pointer (some ⟨d, 0, none⟩), lopV o] w (PlayEnds d q m o w) :=
  play_any h.tb o (by have := hs.hurt; omega) (by have := hs.prep; omega) (fun _ => by have := hs.ask (lopL o); omega)
theorem TbX.kept {w0 w w' : World} {T S : List Nat} {d : Nat} {q : Tb} {m : TbM} (h : TbX w0 T d q m w) (hk : Kept S w w') (hs : ∀ k ∈ S, k ∈ T ∧ w0.heap.size ≤ k) : TbX w0 T d q m w' :=
  ⟨h.tb.kept hk (fun k hf hm => h.ap k (hs k hm).1 hf), h.lo, h.ap, fun k hm => Nat.lt_of_lt_of_le (h.lt k hm) hk.size, h.bel.trans (hk.below h.bel.size (fun x hx => (hs x hx).2))⟩
theorem reads_own_below {w w' : World} {base size n c : Nat} {e : TypeId} {A : Option Addr} {xs : List Value} (h : w.ownsRow base e size (.slice A n c) n xs) (hb : Below w.heap.size w w') : Reads w' w.heap.size size A n xs :=
  (Reads.of_own h).below hb
theorem own_below {w w' : World} {base size n c : Nat} {e : TypeId} {A : Option Addr} {xs : List Value} (h : w.ownsRow base e size (.slice A n c) n xs) (hb : Below w.heap.size w w') : w'.ownsRow base e size (.slice A n c) n xs :=
  (Kept.of_below (S := []) hb).own h (by simp)
theorem Reads.numbI {w : World} {B n : Nat} {A : Option Addr} {M : List Int} (h : Reads w B 1 A n (M.map (Value.int .i64))) {k : Nat} (hk : k < M.length) : ∃ ad, A = some ad ∧ ad.block < B ∧ w.cell? (ad.add k) = some (.int .i64 (M.getD k 0)) := by
  have hn : M.length = n := by simpa using h.1
  obtain ⟨ad, u, e, hb, hu, hc⟩ := h.at_ (k := k) (by omega)
  refine ⟨ad, e, hb, ?_⟩
  rw [List.getElem?_map, List.getElem?_eq_getElem hk, Option.map_some] at hu
  injection hu with hu
  rw [hc, ← hu, List.getD_eq_getElem?_getD, List.getElem?_eq_getElem hk, Option.getD_some]
end Go.Proofs.Ytpidpdbjjdkhoaa
