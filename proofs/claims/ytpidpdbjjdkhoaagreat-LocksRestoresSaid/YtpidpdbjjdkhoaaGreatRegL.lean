/- A drawn region whose last operation waits for all others: it is the region of the others, and behind that the last one. -/
import Derived.OrdersHeld
import Derived.WalkKit
import Derived.Below
import Derived.Deep.RegionHeld
namespace Go.Proofs.YtpidpdbjjdkhoaaGreat

/-- the post of the others: the last operation runs, then Q -/
def withLast (P : Program) (o : Oper) (Q : Exit → Act → World → Prop) : Exit → Act → World → Prop
  | .normal, a, w => o.wp P a w (Q .normal) Q
  | .panic c, a, w => Q (.panic c) a w
  | .ret, a, w => Q .ret a w
  | .exit n, a, w => Q (.exit n) a w
  | .goto n, a, w => Q (.goto n) a w
  | .outgrown, a, w => Q .outgrown a w
/-- the last one waits for all others; edges go back -/
def lastOk (md : Region.Mode) (ops : Array Oper) (o : Oper) : Bool :=
  o.guard.isNone && (List.range ops.size).all fun i => match ops[i]? with
    | some p => (p.after.all fun e => !Region.binds md e || decide (e.on < i)) && (match p.guard with | none => true | some (g, _) => decide (g < ops.size)) &&
        ((o.after.any fun e => Region.binds md e && e.on == i) || (List.range ops.size).any fun j => decide (i < j) && (match ops[j]? with | some q => q.after.any (fun e => Region.binds md e && e.on == i) | none => false))
    | none => false
section
variable {P : Program} {md : Region.Mode} {ops : Array Oper} {o : Oper} {Q : Exit → Act → World → Prop}
theorem lastOk_at (h : lastOk md ops o = true) {i : Nat} {p : Oper} (hp : ops[i]? = some p) :
    (∀ e ∈ p.after, Region.binds md e = true → e.on < i) ∧ (∀ g b, p.guard = some (g, b) → g < ops.size) ∧
    ((∃ e ∈ o.after, Region.binds md e = true ∧ e.on = i) ∨ ∃ j q, i < j ∧ ops[j]? = some q ∧ ∃ e ∈ q.after, Region.binds md e = true ∧ e.on = i) := by
  unfold lastOk at h
  rw [Bool.and_eq_true, List.all_eq_true] at h
  have hi : i < ops.size := (Array.getElem?_eq_some_iff.1 hp).1
  have h1 := h.2 i (List.mem_range.2 hi)
  rw [hp] at h1
  simp only [Bool.and_eq_true, Bool.or_eq_true, List.any_eq_true, List.mem_range, decide_eq_true_eq, Array.all_eq_true_iff_forall_mem, Array.any_eq_true', beq_iff_eq, Bool.not_eq_true'] at h1
  obtain ⟨⟨h2, h3⟩, h4⟩ := h1
  refine ⟨fun e he hb => (h2 e he).resolve_left (by simp [hb]), fun g b hg => ?_, ?_⟩
  · rw [hg] at h3; simpa using h3
  · rcases h4 with ⟨e, he, hb⟩ | ⟨j, hj, hij, hq⟩
    · exact .inl ⟨e, he, hb⟩
    · cases hqj : ops[j]? with
      | none => rw [hqj] at hq; cases hq
      | some q =>
        rw [hqj] at hq
        simp only [Array.any_eq_true', Bool.and_eq_true, beq_iff_eq] at hq
        exact .inr ⟨j, q, hij, hqj, hq⟩
def closedL (md : Region.Mode) (ops : Array Oper) (listed : Array Bool) : Prop :=
  ∀ (i : Nat) (p : Oper), ops[i]? = some p → listed.getD i false = true → ∀ e ∈ p.after, Region.binds md e = true → listed.getD e.on false = true
theorem all_of_last (h : lastOk md ops o = true) {listed : Array Bool} (hc : closedL md ops listed) (hl : ∀ e ∈ o.after, Region.binds md e = true → listed.getD e.on false = true) :
    ∀ n i, ops.size - i ≤ n → i < ops.size → listed.getD i false = true
  | 0, i, h0, hi => by omega
  | n + 1, i, h0, hi => by
    obtain ⟨_, _, h3⟩ := lastOk_at h (Array.getElem?_eq_getElem hi)
    rcases h3 with ⟨e, he, hb, rfl⟩ | ⟨j, q, hij, hq, e, he, hb, rfl⟩
    · exact hl e he hb
    · have hj : j < ops.size := (Array.getElem?_eq_some_iff.1 hq).1
      exact hc j q hq (all_of_last h hc hl n j (by omega) hj) e he hb
theorem all_of_none (h : lastOk md ops o = true) {listed : Array Bool} (hs : listed.size = ops.size) (hr : Region.ready md ops listed = []) : ∀ n i, i ≤ n → i < ops.size → listed.getD i false = true
  | n, i, h0, hi => by
    have hlt : ∀ j, j < i → listed.getD j false = true := fun j hj => by
      rcases n with _ | n
      · omega
      · exact all_of_none h hs hr n j (by omega) (by omega)
    cases hv : listed.getD i true with
    | true =>
      have : i < listed.size := by omega
      rw [Array.getD_eq_getD_getElem?, Array.getElem?_eq_getElem this] at hv ⊢
      simpa using hv
    | false =>
      exfalso
      have : i ∈ Region.ready md ops listed := mem_ready.2 ⟨hv, _, Array.getElem?_eq_getElem hi, fun e he hb => hlt _ ((lastOk_at h (Array.getElem?_eq_getElem hi)).1 e he hb)⟩
      rw [hr] at this; cases this
theorem ready_push {listed : Array Bool} (hs : listed.size = ops.size) {i : Nat} (hi : i < ops.size) (h : lastOk md ops o = true) : i ∈ Region.ready md (ops.push o) (listed.push false) ↔ i ∈ Region.ready md ops listed := by
  rw [mem_ready, mem_ready]
  have g1 : ∀ d, (listed.push false).getD i d = listed.getD i d := fun d => by
    rw [Array.getD_eq_getD_getElem?, Array.getD_eq_getD_getElem?, Array.getElem?_push_lt (by omega), Array.getElem?_eq_getElem (by omega)]
  have g2 : (ops.push o)[i]? = ops[i]? := by rw [Array.getElem?_push_lt hi, Array.getElem?_eq_getElem hi]
  rw [g1, g2]
  refine and_congr_right fun _ => exists_congr fun p => and_congr_right fun hp => forall_congr' fun e => forall_congr' fun he => forall_congr' fun hb => ?_
  have hlt := (lastOk_at h hp).1 e he hb
  rw [Array.getD_eq_getD_getElem?, Array.getD_eq_getD_getElem?, Array.getElem?_push_lt (by omega), Array.getElem?_eq_getElem (by omega)]
theorem ready_last {listed : Array Bool} (hs : listed.size = ops.size) (hall : ∀ i, i < ops.size → listed.getD i false = true) (ho : ∀ e ∈ o.after, Region.binds md e = true → e.on < ops.size) : ops.size ∈ Region.ready md (ops.push o) (listed.push false) := by
  rw [mem_ready]
  refine ⟨?_, o, by simp, fun e he hb => ?_⟩
  · rw [Array.getD_eq_getD_getElem?, ← hs]; simp
  · have hlt := ho e he hb
    have := hall _ hlt
    rw [Array.getD_eq_getD_getElem?] at this ⊢
    rw [Array.getElem?_push_lt (by omega)]
    rw [Array.getElem?_eq_getElem (by omega)] at this
    exact this
theorem wp_post {p : Oper} {a : Act} {w : World} {K : Act → World → Prop} (h : p.wp P a w K (withLast P o Q)) : p.wp P a w K Q := by
  unfold Oper.wp at *
  generalize (execOp a.eval p).run P w = r at *
  cases r with
  | ok n w' =>
    cases n <;> simp only [Oper.upon] at h ⊢
    case value => exact h
    case skip => exact h
    case defer => exact h
    case enter f args => exact Calls.mono h fun e w'' he => by cases e <;> exact he
    case row => exact h
  | halt x w' =>
    cases x <;> simp only [Oper.upon] at h ⊢
    case panic => exact h
theorem yielded_push {tmps : Array Value} {g : Nat} (hg : g < ops.size) : yielded (ops.push o) tmps g = yielded ops tmps g := by
  unfold yielded
  rw [Array.getElem?_push_lt hg, Array.getElem?_eq_getElem hg]
theorem wpOp_push (h : lastOk md ops o = true) {i : Nat} (hi : i < ops.size) {K K' : Act → World → Prop} {a : Act} {w : World} (hK : ∀ a w, K a w → K' a w) (hw : wpOp P ops (withLast P o Q) i K a w) : wpOp P (ops.push o) Q i K' a w := by
  have hw := wpOp_mono hK hw
  unfold wpOp at *
  have hp := Array.getElem?_eq_getElem hi
  rw [Array.getElem?_push_lt hi]
  rw [hp] at hw
  simp only at hw ⊢
  have hwn : Region.wanted ops[i] (yielded (ops.push o) a.tmps) = Region.wanted ops[i] (yielded ops a.tmps) := by
    unfold Region.wanted
    cases hg : ops[i].guard with
    | none => rfl
    | some gb =>
      obtain ⟨g, b⟩ := gb
      simp only
      rw [yielded_push ((lastOk_at h hp).2.1 _ _ hg)]
  rw [hwn]
  split
  · rename_i hwt
    rw [if_pos hwt] at hw
    exact hw.imp wp_post id
  · rename_i hwt
    rw [if_neg hwt] at hw
    exact hw
theorem closed_set {listed : Array Bool} (hc : closedL md ops listed) {i : Nat} (hi : i ∈ Region.ready md ops listed) : closedL md ops (listed.setIfInBounds i true) := by
  intro j p hp hj e he hb
  obtain ⟨h0, q, hq, hall⟩ := mem_ready.1 hi
  by_cases hij : i = j
  · subst hij
    rw [hq] at hp
    injection hp with hp
    subst hp
    exact getD_set_true (hall e he hb)
  · rw [getD_set_ne false hij] at hj
    exact getD_set_true (hc j p hp hj e he hb)
theorem last_ready {listed : Array Bool} (hs : listed.size = ops.size) (h : ops.size ∈ Region.ready md (ops.push o) (listed.push false)) (ho : ∀ e ∈ o.after, Region.binds md e = true → e.on < ops.size) : ∀ e ∈ o.after, Region.binds md e = true → listed.getD e.on false = true := by
  obtain ⟨_, q, hq, hall⟩ := mem_ready.1 h
  simp at hq
  subst hq
  intro e he hb
  have h1 := hall e he hb
  have hlt := ho e he hb
  rw [Array.getD_eq_getD_getElem?] at h1 ⊢
  rw [Array.getElem?_push_lt (by omega)] at h1
  rw [Array.getElem?_eq_getElem (by omega)]
  exact h1
theorem ready_none {listed : Array Bool} (hs : listed.size = ops.size) (hall : ∀ i, i < ops.size → listed.getD i false = true) : Region.ready md ops listed = [] := by
  rw [List.eq_nil_iff_forall_not_mem]
  intro i hi
  obtain ⟨h0, q, hq, _⟩ := mem_ready.1 hi
  have hlt : i < ops.size := (Array.getElem?_eq_some_iff.1 hq).1
  have h1 := hall i hlt
  rw [Array.getD_eq_getD_getElem?, Array.getElem?_eq_getElem (by omega)] at h0 h1
  simp at h0 h1
  rw [h0] at h1; cases h1
theorem wpAny_last (hmem : ∀ e ∈ o.after, Region.binds md e = true → e.on < ops.size) (h : lastOk md ops o = true) : ∀ (fuel : Nat) (listed : Array Bool) (a : Act) (w : World), listed.size = ops.size → closedL md ops listed →
    wpAny P md ops (withLast P o Q) fuel listed a w → wpAny P md (ops.push o) Q (fuel + 1) (listed.push false) a w := by
  have hgo : o.guard = none := by
    unfold lastOk at h
    rw [Bool.and_eq_true] at h
    simpa using h.1
  have hlast : ∀ (fuel : Nat) (listed : Array Bool) (a : Act) (w : World), listed.size = ops.size → (∀ i, i < ops.size → listed.getD i false = true) → o.wp P a w (Q .normal) Q →
      wpOp P (ops.push o) Q ops.size (wpAny P md (ops.push o) Q fuel ((listed.push false).setIfInBounds ops.size true)) a w := by
    intro fuel listed a w hs hall hw
    unfold wpOp
    simp only [Array.getElem?_push_size]
    have : Region.wanted o (yielded (ops.push o) a.tmps) = true := by simp [Region.wanted, hgo]
    rw [if_pos this]
    refine .inl (Oper.wp_mono (fun a' w' hq => ?_) hw)
    have hr : Region.ready md (ops.push o) ((listed.push false).setIfInBounds ops.size true) = [] := by
      refine ready_none (by simp [hs]) (fun i hi => ?_)
      simp at hi
      by_cases hin : i = ops.size
      · subst hin
        rw [Array.getD_eq_getD_getElem?, ← hs]
        simp
      · rw [getD_set_ne false (fun e => hin e.symm), Array.getD_eq_getD_getElem?, Array.getElem?_push_lt (by omega)]
        have := hall i (by omega)
        rw [Array.getD_eq_getD_getElem?, Array.getElem?_eq_getElem (by omega)] at this
        exact this
    cases fuel with
    | zero => exact ⟨hr, hq⟩
    | succ n => exact ⟨fun _ => hq, by rw [hr]; simp⟩
  have hmem2 : ∀ {listed : Array Bool} {i : Nat}, i ∈ Region.ready md (ops.push o) (listed.push false) → i < ops.size ∨ i = ops.size := fun {listed i} hi => by
    obtain ⟨_, q, hq, _⟩ := mem_ready.1 hi
    have := (Array.getElem?_eq_some_iff.1 hq).1
    simp at this
    omega
  intro fuel
  induction fuel with
  | zero =>
    intro listed a w hs hc hw
    have hall := fun i hi => all_of_none h hs hw.1 i i (Nat.le_refl _) hi
    refine ⟨fun hn => ?_, fun i hi => ?_⟩
    · have := ready_last hs hall hmem
      rw [hn] at this; cases this
    · rcases hmem2 hi with hi2 | rfl
      · have := (ready_push hs hi2 h).1 hi
        rw [hw.1] at this; cases this
      · exact hlast 0 listed a w hs hall hw.2
  | succ fuel ih =>
    intro listed a w hs hc hw
    refine ⟨fun hn => ?_, fun i hi => ?_⟩
    · have hr : Region.ready md ops listed = [] := by
        rw [List.eq_nil_iff_forall_not_mem]
        intro i hi
        have hlt : i < ops.size := by obtain ⟨_, q, hq, _⟩ := mem_ready.1 hi; exact (Array.getElem?_eq_some_iff.1 hq).1
        have := (ready_push hs hlt h).2 hi
        rw [hn] at this; cases this
      have := ready_last hs (fun i hi => all_of_none h hs hr i i (Nat.le_refl _) hi) hmem
      rw [hn] at this; cases this
    · rcases hmem2 hi with hi2 | rfl
      · have hi3 := (ready_push hs hi2 h).1 hi
        have h1 := hw.2 i hi3
        refine wpOp_push h hi2 (fun a' w' h2 => ?_) h1
        have h4 := ih (listed.setIfInBounds i true) a' w' (by simp [hs]) (closed_set hc hi3) h2
        have h3 : (listed.setIfInBounds i true).push false = (listed.push false).setIfInBounds i true := by
          apply Array.ext_getElem?
          intro j
          rw [Array.getElem?_setIfInBounds, Array.getElem?_push, Array.getElem?_setIfInBounds, Array.getElem?_push, Array.size_setIfInBounds, Array.size_push]
          by_cases e : i = j
          · subst e
            have : i < listed.size := by omega
            rw [if_neg (by omega), if_pos rfl, if_pos this, if_pos rfl, if_pos (by omega)]
          · simp [e]
        rw [h3] at h4
        exact h4
      · have hlr := last_ready hs hi hmem
        have hall : ∀ i, i < ops.size → listed.getD i false = true := fun i hi1 => all_of_last h hc hlr (ops.size - i) i (Nat.le_refl _) hi1
        have hr := ready_none (md := md) (ops := ops) hs hall
        exact hlast (fuel + 1) listed a w hs hall (hw.1 hr)
/-- THE LAW: the region of the others first -/
theorem wp_region_last {id : Nat} {a : Act} {w : World} (hm : P.follows .mixedOrders = true) (h : lastOk .any ops o = true) (hmem : (o.after.all fun e => !Region.binds .any e || decide (e.on < ops.size)) = true)
    (hw : wpAny P .any ops (withLast P o Q) ops.size (Array.replicate ops.size false) a { w with drawn := w.drawn + 1 }) : (Code.region id (ops.push o) true).wp P Q a w := by
  refine wp_region_any hm ?_
  have := wpAny_last (P := P) (Q := Q) (fun e he hb => by
    rw [Array.all_eq_true_iff_forall_mem] at hmem
    have := hmem e he
    rw [hb] at this
    simpa using this) h ops.size (Array.replicate ops.size false) a { w with drawn := w.drawn + 1 } (by simp) (fun i p _ hi => by
      exfalso
      rw [Array.getD_eq_getD_getElem?] at hi
      by_cases hlt : i < ops.size
      · simp [hlt] at hi
      · simp [hlt] at hi) hw
  rw [Array.size_push, Array.replicate_succ]
  exact this
/-- .. and S held while the others run -/
theorem wp_region_last_held {ops' : Array Oper} {S : World → Prop} {id : Nat} {a : Act} {w : World} (he : ops' = ops.push o) (hm : P.follows .mixedOrders = true) (h : lastOk .any ops o = true)
    (hmem : (o.after.all fun e => !Region.binds .any e || decide (e.on < ops.size)) = true) (hS : S w.drew)
    (hw : S w.drew → wpAnyH P .any ops (withLast P o Q) S ops.size (Array.replicate ops.size false) a w.drew) : (Code.region id ops' true).wp P Q a w := by
  subst he
  exact wp_region_last hm h hmem (wpAny_of_held _ _ _ _ (hw hS))
theorem withLast_go {a : Act} {w : World} (h : ∀ K, (∀ a w, Q .normal a w → K a w) → o.wp P a w K Q) : withLast P o Q .normal a w := h _ (fun _ _ h => h)
end
/-! ### a run of operations that yield their values, taken one behind the other -/
section
variable {P : Program} {md : Region.Mode} {ops : Array Oper} {Q : Exit → Act → World → Prop} {S : World → Prop}
/-- each of them yields, and behind the last K holds -/
def Yld (P : Program) (ops : Array Oper) (Q : Exit → Act → World → Prop) (S : World → Prop) (K : Act → Prop) : List Nat → Act → Prop
  | [], a => K a
  | i :: is, a => ∃ oi v, ops[i]? = some oi ∧ (∀ c b w, Q (.panic c) (b.put oi.dst v) w → Q (.panic c) b w) ∧ YieldsIf P ops S oi v a ∧ Yld P ops Q S K is (a.put oi.dst v)
def laidAll : List Nat → Array Bool → Array Bool
  | [], l => l
  | i :: is, l => laidAll is (l.setIfInBounds i true)
def runOk (md : Region.Mode) (ops : Array Oper) : List Nat → Array Bool → Bool
  | [], _ => true
  | i :: is, l => Region.free md ops l i && (Region.ready md ops l).contains i && runOk md ops is (l.setIfInBounds i true)
theorem takes_ (hs : Region.noSelect ops = true) {n : Nat} {w : World} (hS : S w) : ∀ (is : List Nat) (listed : Array Bool) (a : Act), runOk md ops is listed = true →
    Yld P ops Q S (fun a => wpAnyH P md ops Q S n (laidAll is listed) a w) is a → wpAnyH P md ops Q S (n + is.length) listed a w
  | [], _, _, _, h => h
  | i :: is, listed, a, hb, ⟨oi, v, hi, hQ, hy, h⟩ => by
    simp only [runOk, Bool.and_eq_true] at hb
    exact wpAnyH_take hi hs hb.1.1 hb.1.2 hQ hy hS (takes_ hs hS is _ _ hb.2 h)
theorem takes {fuel : Nat} {listed : Array Bool} {a : Act} {w : World} (is : List Nat) (n : Nat) (hb : (Region.noSelect ops && runOk md ops is listed && (fuel == n + is.length)) = true) (hS : S w)
    (h : Yld P ops Q S (fun a => wpAnyH P md ops Q S n (laidAll is listed) a w) is a) : wpAnyH P md ops Q S fuel listed a w := by
  simp only [Bool.and_eq_true, beq_iff_eq] at hb
  rw [hb.2]
  exact takes_ hb.1.1 hS is listed a hb.1.2 h
/-- the beginning, S read off a hidden fact -/
theorem wp_region_heldH {B : World → Prop} {id : Nat} {a : Act} {w : World} (hm : P.follows .mixedOrders = true) (hS : Go.RowKit.Hid (∀ w', B w' → S w')) (hB : B w.drew)
    (h : S w.drew → wpAnyH P .any ops Q S ops.size (Array.replicate ops.size false) a w.drew) : (Code.region id ops true).wp P Q a w :=
  wp_region_held hm (h (hS.out _ hB))
theorem at_of {i : Nat} {oi : Oper} (h : (ops.toList.drop i).head? = some oi) : ops[i]? = some oi := by
  rw [List.head?_drop, Array.getElem?_toList] at h
  exact h
theorem readyC {fuel : Nat} {listed : Array Bool} {a : Act} {w : World} {i : Nat} {o : Oper} {rs : List Nat} (ho : (ops.toList.drop i).head? = some o)
    (h : ∀ K' : Act → World → Prop, Shut (∀ a w, S w → (S w → wpAnyH P md ops Q S fuel (listed.setIfInBounds i true) a w) → K' a w) → if Region.wanted o (yielded ops a.tmps) = true then Oper.wp P o a w K' Q else K' (a.put o.dst undef) w)
    (hs : AllReadyH P md ops Q S fuel listed a w rs) : AllReadyH P md ops Q S fuel listed a w (i :: rs) := AllReadyH.cons (at_of ho) h hs
theorem tkE {K : Act → Prop} {a : Act} (h : K a) : Yld P ops Q S K [] a := h
theorem tkY {K : Act → Prop} {i : Nat} {is : List Nat} {a : Act} {oi : Oper} {v : Value} (hi : (ops.toList.drop i).head? = some oi) (hQ : ∀ c b w, Q (.panic c) (b.put oi.dst v) w → Q (.panic c) b w)
    (hw : Region.wanted oi (yielded ops a.tmps) = true) (hy : ∀ w, S w → (execOp a.eval oi).run P w = .ok (.value v) w) (h : Yld P ops Q S K is (a.put oi.dst v)) : Yld P ops Q S K (i :: is) a :=
  ⟨oi, v, at_of hi, hQ, .inl ⟨hw, hy⟩, h⟩
theorem tkN {K : Act → Prop} {i : Nat} {is : List Nat} {a : Act} {oi : Oper} (hi : (ops.toList.drop i).head? = some oi) (hQ : ∀ c b w, Q (.panic c) (b.put oi.dst undef) w → Q (.panic c) b w)
    (hw : Region.wanted oi (yielded ops a.tmps) = false) (h : Yld P ops Q S K is (a.put oi.dst undef)) : Yld P ops Q S K (i :: is) a :=
  ⟨oi, undef, at_of hi, hQ, .inr ⟨hw, rfl⟩, h⟩
end
end Go.Proofs.YtpidpdbjjdkhoaaGreat
