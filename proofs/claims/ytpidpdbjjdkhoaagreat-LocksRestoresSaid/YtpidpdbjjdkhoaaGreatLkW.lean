/- Locks: End. -/
import Derived.Test.YtpidpdbjjdkhoaaGreatLkV
namespace Go.Proofs.YtpidpdbjjdkhoaaGreat
open Go.RowKit
set_option linter.unusedSimpArgs false
set_option linter.unusedVariables false
attribute [local go_sem ↓] Go.wp_at_zero Go.wp_at_succ

theorem keep_id (id : Idn) (l : List Lk) : keepP (fun x => eqI x.id id) l = l.filter fun x => decide (x.id ≠ id) := by
  unfold keepP
  congr 1
  funext y
  show (!eqI y.id id) = _
  rw [eqI_dec]
  by_cases h : y.id = id <;> simp [h]
theorem endQ (id : Idn) (K : List ByteArray) (p3 p5 : Nat) : QuestionL 55 #[.pointer (some ⟨p3, 0, none⟩), .pointer (some ⟨p5, 0, none⟩)] (fun x => eqI x.id id) (EndSt id K p3 p5) :=
  fun pre S x W h hl => end1_any x id K p3 p5 pre S W h hl
theorem TbAt.delH {w w3 : World} {d : Nat} {q : Tb} {m : TbM} {T : List Nat} {l : List Lk} (h : TbAt w d q m) (hk : Kept T w w3) (hT : ∀ k ∈ T, k ∈ ob m.ah ∨ k ∉ fpT d m)
    (ho : w3.ownsRow 0 62 4 (.slice m.ah l.length m.ch) l.length (rc lkR l)) (hg : Good ⟨q.most, l, q.wait, q.prep, q.hurt⟩) (hn : l.length + q.wait.length ≤ 1000) :
    TbAt (w3.setCells d 1 [.slice m.ah l.length m.ch]) d ⟨q.most, l, q.wait, q.prep, q.hurt⟩ m := by
  have hd : d ∉ T := fun hm => (hT d hm).elim h.dh (fun h1 => h1 (by simp [fpT]))
  have hbd := hk.blk h.blk hd
  have hk2 : Kept [d] w3 (w3.setCells d 1 [.slice m.ah l.length m.ch]) := keptAll _ (Kept.refl _ _) (.inl (by simp))
  have nd : ∀ {A : Option Addr} {n c : Nat} {g : Nat}, d ∉ ob A → (Value.slice A n c).ownBlock = some g → g ∉ [d] := fun hA hg => by simp only [List.mem_singleton]; rintro rfl; exact hA (ownBlock_mem.1 hg)
  refine ⟨Blk.setAll [.slice m.ah l.length m.ch] (p := 1) hbd, hk2.own ho (fun g hg => nd h.dh hg), hk2.own (hk.own h.ow (fun g hg hm => ?_)) (fun g hg => nd h.dw hg), hk2.own (hk.own h.op (fun g hg hm => ?_)) (fun g hg => nd h.dp hg), hk2.own (hk.own h.ou (fun g hg hm => ?_)) (fun g hg => nd h.du hg), h.shw, h.spu, hg, hn, h.fm⟩
  · have hg := ownBlock_mem.1 hg
    exact (hT g hm).elim (fun h1 => h.shw g h1 hg) (fun h1 => h1 (by simp only [fpT, List.mem_cons, List.mem_append]; simp [hg]))
  · have hg := ownBlock_mem.1 hg
    exact (hT g hm).elim (fun h1 => own_own_ne h.oh h.op (by decide) g h1 hg) (fun h1 => h1 (by simp only [fpT, List.mem_cons, List.mem_append]; simp [hg]))
  · have hg := ownBlock_mem.1 hg
    exact (hT g hm).elim (fun h1 => own_own_ne h.oh h.ou (by decide) g h1 hg) (fun h1 => h1 (by simp only [fpT, List.mem_cons, List.mem_append]; simp [hg]))
theorem TbAt.delW {w w3 : World} {d : Nat} {q : Tb} {m : TbM} {T : List Nat} {l : List Lk} (h : TbAt w d q m) (hk : Kept T w w3) (hT : ∀ k ∈ T, k ∈ ob m.aw ∨ k ∉ fpT d m)
    (ho : w3.ownsRow 0 62 4 (.slice m.aw l.length m.cw) l.length (rc lkR l)) (hg : Good ⟨q.most, q.held, l, q.prep, q.hurt⟩) (hn : q.held.length + l.length ≤ 1000) :
    TbAt (w3.setCells d 2 [.slice m.aw l.length m.cw]) d ⟨q.most, q.held, l, q.prep, q.hurt⟩ m := by
  have hd : d ∉ T := fun hm => (hT d hm).elim h.dw (fun h1 => h1 (by simp [fpT]))
  have hbd := hk.blk h.blk hd
  have hk2 : Kept [d] w3 (w3.setCells d 2 [.slice m.aw l.length m.cw]) := keptAll _ (Kept.refl _ _) (.inl (by simp))
  have nd : ∀ {A : Option Addr} {n c : Nat} {g : Nat}, d ∉ ob A → (Value.slice A n c).ownBlock = some g → g ∉ [d] := fun hA hg => by simp only [List.mem_singleton]; rintro rfl; exact hA (ownBlock_mem.1 hg)
  refine ⟨Blk.setAll [.slice m.aw l.length m.cw] (p := 2) hbd, hk2.own (hk.own h.oh (fun g hg hm => ?_)) (fun g hg => nd h.dh hg), hk2.own ho (fun g hg => nd h.dw hg), hk2.own (hk.own h.op (fun g hg hm => ?_)) (fun g hg => nd h.dp hg), hk2.own (hk.own h.ou (fun g hg hm => ?_)) (fun g hg => nd h.du hg), h.shw, h.spu, hg, hn, h.fm⟩
  · have hg := ownBlock_mem.1 hg
    exact (hT g hm).elim (fun h1 => h.shw g hg h1) (fun h1 => h1 (by simp only [fpT, List.mem_cons, List.mem_append]; simp [hg]))
  · have hg := ownBlock_mem.1 hg
    exact (hT g hm).elim (fun h1 => own_own_ne h.ow h.op (by decide) g h1 hg) (fun h1 => h1 (by simp only [fpT, List.mem_cons, List.mem_append]; simp [hg]))
  · have hg := ownBlock_mem.1 hg
    exact (hT g hm).elim (fun h1 => own_own_ne h.ow h.ou (by decide) g h1 hg) (fun h1 => h1 (by simp only [fpT, List.mem_cons, List.mem_append]; simp [hg]))
/-- what stands when a list has been gone through by the question: T is what may have turned -/
theorem end_foot {d : Nat} {m : TbM} {A : Option Addr} {S S' : List Nat} {w w' : World} (hm : Moves (ob A ++ S) (ob A ++ S') w w') (hA : ∀ k ∈ ob A, k ∉ S') (hf : ∀ k ∈ fpT d m, k < w.heap.size ∧ k ∉ S) : ∀ k ∈ fpT d m, k ∉ S' := by
  intro k hk hS
  rcases hm.foot k (List.mem_append.2 (.inr hS)) with h1 | h1
  · rcases List.mem_append.1 h1 with h2 | h2
    · exact hA k h2 hS
    · exact (hf k hk).2 h2
  · have := (hf k hk).1; omega
end Go.Proofs.YtpidpdbjjdkhoaaGreat
