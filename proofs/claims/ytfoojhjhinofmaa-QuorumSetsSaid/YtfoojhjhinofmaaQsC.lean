/- Layer 7: words for the law QuorumSets. -/
import Derived.RangeFuncNested
import Derived.RangeFuncBound
import Derived.RangeFuncCalls
import Derived.RangeFuncLeaves
import Derived.Shelf.Abstract
import Derived.Shelf.RegionOpen
import Derived.WalkKit
import Derived.OwnWalkIn
import Derived.TacticsInMore
import Derived.LoopNIn
import Derived.LoopIn
import Derived.Test.YtfoojhjhinofmaaQsB
import Derived.Test.YtfoojhjhinofmaaQiE
import Derived.Laws.EntriesVeiled
namespace Go.Proofs.Ytfoojhjhinofmaa
open Go.RowKit Go.Shelf
set_option linter.unusedSimpArgs false
set_option linter.unusedVariables false
attribute [local go_sem] Oper.semAt_some

theorem run_eq_func (cap : Array Value) (w : World) : (binOp BinOp.eql 23 (Value.func (Fn.func 19) #[] cap) Value.nilFunc).run Try.prog w = .ok (.bool false) w := by kernel_rfl
/-- what Sets gives -/
def setsL (k : Int) : List Nat := if 1 ≤ k ∧ k ≤ 10 then refL k.toNat else []
theorem setsL_len (k : Int) : (setsL k).length ≤ 1024 := by
  unfold setsL
  split
  · rename_i h
    have h0 := (ok_ends (m := k.toNat) (by omega) (by omega)).1
    have h1 : 2 ^ k.toNat ≤ 2 ^ 10 := Nat.pow_le_pow_right (by decide) (by omega)
    omega
  · simp
theorem ref_all (k : Int) (hk : k ≤ 10 ∨ 16 < k) (w : World) : Calls Try.prog 9 #[.int .i64 k] w (RefEnds (setsL k) w) := by
  unfold setsL
  split
  · rename_i h
    have := refSets_any k.toNat w (by omega) (by omega)
    rw [show ((k.toNat : Nat) : Int) = k by omega] at this
    exact this
  · rename_i h
    refine (refSets_no k w (by omega)).mono fun e w' ⟨he, hw⟩ => ?_
    subst hw
    exact ⟨none, 0, he, World.ownsRow_nil _ _ _ _, Below.refl _ _, by simp [ob]⟩
theorem stops_all (n : Nat) (hn : 1 ≤ n) (Bn n₀ : Nat) (k : Int) (hk : k ≤ 10 ∨ 16 < k) (w : World) (hb : Bn < n₀) (hn₀ : n₀ ≤ w.heap.size) (hc : w.cell? ⟨Bn, 0, none⟩ = some (.int .i64 k)) :
    SeqStopsK Fence.wide n Try.prog 19 #[.pointer (some ⟨Bn, 0, none⟩)] (fun x : Nat => #[Value.int .u64 (x : Int)]) (Below n₀) (fun ys => ys = setsL k) (fun pre => pre <+: setsL k) (setsL k).length w := by
  unfold setsL
  split
  · rename_i h
    exact sets_stops n hn Bn n₀ k.toNat (by omega) (by omega) w hb hn₀ (by rw [show ((k.toNat : Nat) : Int) = k by omega]; exact hc)
  · rename_i h
    exact setsNo_stops n hn Bn n₀ k (by omega) w hb hn₀ hc
theorem ownFrom_or {β : Type} {B : Nat} {I J : β → World → Prop} (hI : OwnFrom B I) (hJ : OwnFrom B J) : OwnFrom B (fun s W => I s W ∨ J s W) :=
  fun s X Y row hs hg hr => hs.elim (fun h => .inl (hI s X Y row h hg hr)) (fun h => .inr (hJ s X Y row h hg hr))
theorem ownFrom_keepsFrom' {β : Type} {B B' : Nat} {w₀ : World} (hB : w₀.heap.size ≤ B') : OwnFrom B' (fun (_ : β) W => KeepsFrom B w₀ W) := ownFrom_keepsFrom hB
/-- what lies there while the law goes over the sequence -/
structure QEnv (W : World) (b4 b5 b6 b7 bn b8 : Nat) (stop inner k : Int) (Aw : Option Addr) (cw : Nat) (L : List Nat) : Prop where
  s4 : Boxed W b4 3 (.int .i64 stop)
  s5 : Boxed W b5 3 (.int .i64 inner)
  s6 : Boxed W b6 4 (.bool false)
  s7 : Boxed W b7 23 (.func (.func 19) #[] #[.pointer (some ⟨bn, 0, none⟩)])
  sn : Boxed W bn 3 (.int .i64 k)
  s8 : Boxed W b8 25 (.slice Aw L.length cw)
  row : Reads W W.heap.size 1 Aw L.length (uc L)
theorem _root_.Go.Boxed.blwQ {W W' : World} {N b : Nat} {t : TypeId} {v : Value} (h : Boxed W b t v) (hb : Below N W W') (hl : b < N) : Boxed W' b t v := (hb.block b hl).trans h
section
variable {W W' : World} {b4 b5 b6 b7 bn b8 : Nat} {stop inner k : Int} {Aw : Option Addr} {cw : Nat} {L : List Nat}
theorem QEnv.below (h : QEnv W b4 b5 b6 b7 bn b8 stop inner k Aw cw L) (hb : Below W.heap.size W W') : QEnv W' b4 b5 b6 b7 bn b8 stop inner k Aw cw L :=
  ⟨h.s4.blwQ hb h.s4.lt, h.s5.blwQ hb h.s5.lt, h.s6.blwQ hb h.s6.lt, h.s7.blwQ hb h.s7.lt, h.sn.blwQ hb h.sn.lt, h.s8.blwQ hb h.s8.lt, (h.row.below hb).more hb.size⟩
theorem QEnv.want (h : QEnv W b4 b5 b6 b7 bn b8 stop inner k Aw cw L) {i : Nat} (hi : i < L.length) : ∃ ad, Aw = some ad ∧ W.cell? (ad.add i) = some (.int .u64 (gn L i : Nat)) := by
  obtain ⟨ad, u, hA, hb, hu, hc⟩ := h.row.at_ (k := i) hi
  rw [uc_at hi] at hu
  cases hu
  exact ⟨ad, hA, hc⟩
end
theorem pre_on {L pre : List Nat} {x : Nat} (hp : pre = L.take pre.length) (hl : pre.length < L.length) (hx : x = gn L pre.length) : pre ++ [x] = L.take (pre ++ [x]).length := by
  rw [List.length_append, List.length_singleton, List.take_succ_eq_append_getElem hl, hx, gn_at hl, ← hp]
theorem pre_no {L pre : List Nat} {x : Nat} (hl : pre.length < L.length) (hx : ¬ x = gn L pre.length) : ¬ (pre ++ [x] <+: L) := by
  rintro ⟨t, ht⟩
  apply hx
  rw [gn_at hl]
  subst ht
  simp
theorem pre_len {pre : List Nat} {x : Nat} : ((pre ++ [x]).length : Int) = (pre.length : Int) + 1 := by simp
/-- a loop of three rounds at most, each of which has its own word -/
theorem rounds_of {F : Fence} {n : Nat} {P : Program} {c : Code} {Q : Exit → Act → World → Prop} (I : Nat → Act → World → Prop) (h3 : ∀ a w, ¬ I 3 a w)
    (h : ∀ k a w, I k a w → c.wpIn F n P (Exit.then (I (k + 1)) Q) a w) {a : Act} {w : World} (h0 : I 0 a w) : (Code.loop c).wpIn F n P Q a w := by
  refine wpIn_loop_rounds 4 ?_
  have key : ∀ m k, k + m = 4 → 1 ≤ m → ∀ a w, I k a w → Code.roundsIn F n P c Q m a w := by
    intro m
    induction m with
    | zero => intro k _ h1; omega
    | succ m ih =>
      intro k hk _ a w hi
      rw [roundsIn_succ]
      refine wpIn_mono (h k a w hi) (fun e a w hq => ?_)
      cases e with
      | normal =>
        by_cases hm : m = 0
        · subst hm
          have : k = 3 := by omega
          subst this
          exact absurd hi (h3 _ _)
        · exact ih (k + 1) (by omega) (by omega) a w hq
      | ret => exact hq
      | exit _ => exact hq
      | goto _ => exact hq
      | panic _ => exact hq
      | outgrown => exact hq
  exact key 4 0 rfl (by omega) a w h0
/-- the frame of a loop's body: the loop's own frame, the variable in its two places -/
theorem frame_of {F : Fence} {n : Nat} {P : Program} {c : Code} {Q : Exit → Act → World → Prop} {tm : Array Value} {ds : List Deferred} {W : World} (i j : Nat)
    (h : ∀ Fr : Nat → Act, (∀ x : Nat, Fr x = { tmps := (tm.setIfInBounds i (.int .u64 (x : Int))).setIfInBounds j (.int .u64 (x : Int)), defers := [] }) → c.wpIn F n P Q { tmps := tm, defers := ds } W) : c.wpIn F n P Q { tmps := tm, defers := ds } W := h _ (fun _ => rfl)
/-- the marks that a function leaves with -/
def Marks (B : Nat) : List Deferred → World → Prop
  | [], _ => True
  | d :: ds, W => (∃ D, d = { target := .collected D, args := #[] } ∧ B ≤ D ∧ W.heap[D]? = some (.deferred (some [])) ∧ ∀ d' ∈ ds, d'.target ≠ .collected D) ∧ Marks B ds W
theorem Marks.kept {B : Nat} {W W' : World} : ∀ {ds : List Deferred}, Marks B ds W → (∀ k o, W.heap[k]? = some o → o.isCells = false → (∃ d ∈ ds, d.target = .collected k) → W'.heap[k]? = some o) → Marks B ds W'
  | [], _, _ => trivial
  | d :: ds, ⟨⟨D, hd, hB, hD, hn⟩, hs⟩, h => ⟨⟨D, hd, hB, h D _ hD rfl ⟨d, by simp, by rw [hd]⟩, hn⟩, hs.kept (fun k o ho hc ⟨d', hd', ht⟩ => h k o ho hc ⟨d', by simp [hd'], ht⟩)⟩
theorem Marks.below {B N : Nat} {W W' : World} {ds : List Deferred} (h : Marks B ds W) (hb : Below W.heap.size W W') : Marks B ds W' :=
  h.kept (fun k o ho _ _ => (hb.block k (Array.getElem?_eq_some_iff.1 ho).1).trans ho)
theorem Marks.lt {B : Nat} {W : World} {k : Nat} : ∀ {ds : List Deferred}, Marks B ds W → ∀ d ∈ ds, d.target = .collected k → k < W.heap.size
  | d :: ds, ⟨⟨D, hd, _, hD, _⟩, hs⟩, d', hm, ht => by
    rcases List.mem_cons.1 hm with rfl | hm
    · rw [hd] at ht
      cases ht
      exact (Array.getElem?_eq_some_iff.1 hD).1
    · exact hs.lt d' hm ht
/-- the function leaves: its marks are taken up, one behind the other; what it returns lies in a box -/
theorem leaves_marks {fn : Func} {tmps : Array Value} {R : Ending → World → Prop} {n : Nat} {B b6 t : Nat} {v : Value} {w : World} (hBw : B = w.heap.size)
    (hres : ∀ W, W.cell? ⟨b6, 0, none⟩ = some v → Below B w W → LeavesIn Fence.wide n Try.prog fn tmps R [] .returning W) : ∀ {ds : List Deferred} {W : World}, Marks B ds W → Boxed W b6 t v → Below B w W → LeavesInM Fence.wide n Try.prog fn tmps R ds .returning W
  | [], W, _, hb, hB => hres W hb.cell hB
  | d :: ds, W, ⟨⟨D, hd, hBD, hD, hn⟩, hs⟩, hb, hB => by
    refine ⟨by simp, .inl ⟨D, _, by rw [hd], run_takeDeferred hD, ?_⟩⟩
    have hne : b6 ≠ D := by
      rintro rfl
      rw [show W.heap[b6]? = _ from hb] at hD
      cases hD
    refine leaves_marks hBw hres (hs.kept (fun k o ho hc ⟨d', hd', ht⟩ => ?_)) ((World.putObj_heap_other hne).trans hb) (hB.trans (belowK_b (w := w) (by omega) W D _ _ (by omega) hD rfl rfl))
    refine (World.putObj_heap_other (fun e => ?_)).trans ho
    subst e
    exact hn d' hd' ht
end Go.Proofs.Ytfoojhjhinofmaa
