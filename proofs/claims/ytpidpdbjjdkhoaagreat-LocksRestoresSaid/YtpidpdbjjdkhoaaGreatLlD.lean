/- Locks, plain: what the laws ask of a play. -/
import Derived.Test.YtpidpdbjjdkhoaaGreatLkY
namespace Go.Proofs.YtpidpdbjjdkhoaaGreat
set_option linter.unusedSimpArgs false
set_option linter.unusedVariables false

theorem ask_one (t : Tb) (x : Lk) : (askT t x).held.length + (askT t x).wait.length ≤ t.held.length + t.wait.length + 1 := by
  unfold askT
  cases refuse t x with
  | some e => simp only; omega
  | none =>
    have h1 := ins_len (lt := ah) (x := x) t.held
    have h2 := ins_len (lt := ah) (x := x) t.wait
    simp only
    split <;> simp only <;> omega
theorem prep_same (t : Tb) (id : Idn) : (prepT t id).held = t.held ∧ (prepT t id).wait = t.wait ∧ (prepT t id).hurt = t.hurt ∧ (prepT t id).most = t.most := by
  unfold prepT
  split <;> exact ⟨rfl, rfl, rfl, rfl⟩
theorem play_inv {q : Tb} (h : Inv q) (o : LOp) : Inv (playT q o) := by
  unfold playT
  split
  · exact ask_inv h _
  · split
    · exact prep_inv h _
    · exact end_inv h _
theorem play_one {q : Tb} (h : Good q) (o : LOp) : (playT q o).held.length + (playT q o).wait.length ≤ q.held.length + q.wait.length + 1 := by
  unfold playT
  split
  · exact ask_one _ _
  · split
    · obtain ⟨h1, h2, _, _⟩ := prep_same q o.id
      rw [h1, h2]; omega
    · have h1 := end_total h o.id
      have h2 := strip_total q o.id
      omega
theorem play_most {q : Tb} (h : Good q) (o : LOp) (hm : (q.held.length : Int) + (q.wait.length : Int) ≤ q.most) : ((playT q o).held.length : Int) + ((playT q o).wait.length : Int) ≤ q.most ∧ (playT q o).most = q.most := by
  unfold playT
  split
  · exact ask_most h _ hm
  · split
    · obtain ⟨h1, h2, _, h4⟩ := prep_same q o.id
      rw [h1, h2, h4]; exact ⟨hm, rfl⟩
    · have h1 := end_total h o.id
      have h2 := strip_total q o.id
      refine ⟨?_, end_most h _⟩
      omega
theorem inv0 (most : Int) : Inv (tb0 most) :=
  ⟨⟨good0 most, by simp [tb0], by simp [tb0], by simp [tb0], by simp [tb0], by simp [tb0], by simp [tb0], by simp [tb0]⟩, by simp [tb0]⟩
theorem len_sub {α : Type} [DecidableEq α] : ∀ {l m : List α}, l.Nodup → (∀ x ∈ l, x ∈ m) → l.length ≤ m.length
  | [], _, _, _ => Nat.zero_le _
  | x :: l, m, hn, hs => by
    have hx := List.nodup_cons.1 hn
    have hm := hs x (List.mem_cons_self ..)
    have h1 := len_sub (l := l) (m := m.erase x) hx.2 (fun y hy => (List.mem_erase_of_ne (fun e => hx.1 (by rw [← e]; exact hy))).2 (hs y (List.mem_cons_of_mem _ hy)))
    rw [List.length_erase_of_mem hm] at h1
    have := List.length_pos_of_mem hm
    rw [List.length_cons]; omega
theorem srt_nodup {α : Type} {lt : α → α → Bool} (ho : Ord' lt) {l : List α} (h : Srt lt l) : l.Nodup :=
  List.Pairwise.imp (fun {a b} hab e => by rw [e, ho.irr] at hab; cases hab) h
theorem marks_len {q : Tb} (h : Mid q) : q.prep.length ≤ q.held.length + q.wait.length ∧ q.hurt.length ≤ q.held.length + q.wait.length := by
  have hk : ∀ i, i ∈ q.prep ∨ i ∈ q.hurt → i ∈ (q.held ++ q.wait).map (·.id) := fun i hi => by
    obtain ⟨x, hx, rfl⟩ := h.known i hi
    exact List.mem_map.2 ⟨x, List.mem_append.2 hx, rfl⟩
  have hl : ((q.held ++ q.wait).map (·.id)).length = q.held.length + q.wait.length := by simp
  rw [← hl]
  exact ⟨len_sub (srt_nodup ol_ord h.good.sp) (fun x hx => hk x (.inl hx)), len_sub (srt_nodup ol_ord h.good.su) (fun x hx => hk x (.inr hx))⟩
/-- at an act's end: whatever bounds the walk wants -/
structure Sane (n : Nat) (q : Tb) : Prop where
  inv : Inv q
  few : q.held.length + q.wait.length ≤ n
theorem Sane.step {n : Nat} {q : Tb} (h : Sane n q) (o : LOp) : Sane (n + 1) (playT q o) :=
  ⟨play_inv h.inv o, by have := play_one h.inv.mid.good o; have := h.few; omega⟩
theorem Sane.hurt {n : Nat} {q : Tb} (h : Sane n q) : q.hurt.length ≤ n := by have := (marks_len h.inv.mid).2; have := h.few; omega
theorem Sane.prep {n : Nat} {q : Tb} (h : Sane n q) : q.prep.length ≤ n := by have := (marks_len h.inv.mid).1; have := h.few; omega
theorem Sane.ask {n : Nat} {q : Tb} (h : Sane n q) (x : Lk) : (askT q x).held.length + (askT q x).wait.length ≤ n + 1 := by have := ask_one q x; have := h.few; omega
theorem sane0 (most : Int) : Sane 0 (tb0 most) := ⟨inv0 most, by simp [tb0]⟩

/-! ### nobody waits for nothing -/
def why1 (q : Tb) (x : Lk) (j : Nat) : Bool := (q.held.take j).any (conf · x)
def why2 (q : Tb) (x : Lk) (j : Nat) : Bool := why1 q x q.held.length || (q.wait.take j).any (fun y => conf y x && ol y.id x.id)
theorem any_take {α : Type} {l : List α} {f : α → Bool} {j : Nat} {y : α} (h : l[j]? = some y) : (l.take (j + 1)).any f = ((l.take j).any f || f y) := by
  rw [take_on h, List.any_append]; simp
theorem why1_on {q : Tb} {x y : Lk} {j : Nat} (h : q.held[j]? = some y) : why1 q x (j + 1) = (why1 q x j || conf y x) := any_take h
theorem why2_on {q : Tb} {x y : Lk} {j : Nat} (h : q.wait[j]? = some y) : why2 q x (j + 1) = (why2 q x j || (conf y x && ol y.id x.id)) := by
  unfold why2
  rw [any_take h, Bool.or_assoc]
theorem why2_start (q : Tb) (x : Lk) : why2 q x 0 = why1 q x q.held.length := by simp [why2]
theorem why_end {q : Tb} (h : Inv q) {x : Lk} (hx : x ∈ q.wait) : why2 q x q.wait.length = true := by
  unfold why2 why1
  rw [List.take_length, List.take_length]
  rcases free_no.1 (h.why x hx) with ⟨l, hl, hc⟩ | ⟨l, hl, hc, ho⟩
  · rw [Bool.or_eq_true]
    exact .inl (List.any_eq_true.2 ⟨l, hl, hc⟩)
  · rw [Bool.or_eq_true]
    exact .inr (List.any_eq_true.2 ⟨l, hl, by rw [hc, ho]; rfl⟩)
theorem none_left {q : Tb} (h : Mid q) (h0 : (q.held ++ q.wait).length = 0) : q.prep.length = 0 ∧ q.hurt.length = 0 ∧ (edges q).length = 0 := by
  rw [List.length_append] at h0
  have := marks_len h
  have hw : q.wait = [] := List.eq_nil_of_length_eq_zero (by omega)
  refine ⟨by omega, by omega, ?_⟩
  unfold edges
  rw [hw]; rfl
theorem end_drops {q : Tb} (h : Good q) {x : Lk} (hx : x ∈ q.held ++ q.wait) : (endS q x.id).1.held.length + (endS q x.id).1.wait.length < q.held.length + q.wait.length := by
  have h1 := end_total h x.id
  have h2 := strip_less (List.mem_append.1 hx)
  omega

/-! ### right edges -/
theorem edge_ok {q : Tb} (h : Mid q) {x : Edg} (hx : x ∈ edges q) : ol x.h x.w = true ∨ hasI q.prep x.h = true ∨ hasI q.hurt x.h = true := by
  unfold edges at hx
  obtain ⟨w, hw, hx⟩ := List.mem_flatMap.1 hx
  obtain ⟨y, hy, rfl⟩ := List.mem_map.1 hx
  obtain ⟨hy, hc⟩ := List.mem_filter.1 hy
  rcases h.edge w hw y hy hc with h1 | h1 | h1
  · exact .inl h1
  · exact .inr (.inl (hasI_iff.2 h1))
  · exact .inr (.inr (hasI_iff.2 h1))
def cntR (q : Tb) (x : Lk) (j : Nat) : Nat := ((q.wait.take j).filter (conf x)).length
def cntH (q : Tb) (k : Nat) : Nat := ((q.held.take k).map fun x => (q.wait.filter (conf x)).length).sum
theorem cntR_on {q : Tb} {x y : Lk} {j : Nat} (h : q.wait[j]? = some y) : cntR q x (j + 1) = cntR q x j + if conf x y = true then 1 else 0 := by
  unfold cntR
  rw [take_on h, List.filter_append, List.length_append]
  cases hc : conf x y <;> simp [List.filter_cons, hc]
theorem cntH_on {q : Tb} {x : Lk} {k : Nat} (h : q.held[k]? = some x) : cntH q (k + 1) = cntH q k + cntR q x q.wait.length := by
  unfold cntH cntR
  rw [take_on h, List.map_append, List.sum_append, List.take_length]
  simp
theorem sum_nil : ∀ ws : List Lk, (ws.map fun w => (([] : List Lk).filter (conf w)).length).sum = 0
  | [] => rfl
  | y :: ws => by rw [List.map_cons, List.sum_cons, sum_nil ws]; rfl
theorem sum_cons (x : Lk) (hs : List Lk) : ∀ ws : List Lk, (ws.map fun w => ((x :: hs).filter (conf w)).length).sum = (ws.filter (conf x)).length + (ws.map fun w => (hs.filter (conf w)).length).sum
  | [] => rfl
  | y :: ws => by
    rw [List.map_cons, List.sum_cons, sum_cons x hs ws, List.map_cons, List.sum_cons, List.filter_cons, List.filter_cons, conf_symm y x]
    cases conf x y
    · simp only [Bool.false_eq_true, if_false]; omega
    · simp only [if_true, List.length_cons]; omega
theorem cnt_swap (ws : List Lk) : ∀ hs : List Lk, (hs.map fun x => (ws.filter (conf x)).length).sum = (ws.map fun w => (hs.filter (conf w)).length).sum
  | [] => (sum_nil ws).symm
  | x :: hs => by rw [List.map_cons, List.sum_cons, cnt_swap ws hs, sum_cons]
theorem cnt_edges (q : Tb) : cntH q q.held.length = (edges q).length := by
  unfold cntH edges
  rw [List.take_length, cnt_swap, List.length_flatMap]
  simp
theorem cntR_le (q : Tb) (x : Lk) (j : Nat) : cntR q x j ≤ q.wait.length := by
  unfold cntR
  refine Nat.le_trans (List.length_filter_le _ _) ?_
  rw [List.length_take]; omega
theorem cntH_le (q : Tb) (k : Nat) : cntH q k ≤ q.held.length * q.wait.length := by
  have hs : ∀ l : List Lk, (l.map fun x => (q.wait.filter (conf x)).length).sum ≤ l.length * q.wait.length := fun l => by
    induction l with
    | nil => simp
    | cons x l ih =>
      have := List.length_filter_le (conf x) q.wait
      rw [List.map_cons, List.sum_cons, List.length_cons, Nat.add_mul]
      omega
  refine Nat.le_trans (hs _) (Nat.mul_le_mul_right _ ?_)
  rw [List.length_take]; omega

/-! ### who is wounded -/
theorem wound_new {q : Tb} {o : LOp} {i : Idn} (h1 : i ∈ (playT q o).hurt) (h2 : i ∉ q.hurt) (hg : Good q) :
    o.kind = 0 ∧ ol o.id i = true ∧ hasI (playI q o) i = true ∧ ∃ x ∈ q.held, x.id = i ∧ x.key = o.key ∧ conf x (lopL o) = true := by
  unfold playT at h1
  unfold playI
  by_cases k0 : o.kind = 0
  · rw [if_pos k0] at h1 ⊢
    unfold askT at h1
    unfold askH
    cases hr : refuse q (lopL o) with
    | some e => rw [hr] at h1; exact absurd h1 h2
    | none =>
      rw [hr] at h1
      have h3 : i ∈ addAll q.hurt (victims q (lopL o)) := by
        simp only at h1
        split at h1 <;> exact h1
      have h4 := (mem_addAll.1 h3).resolve_left h2
      obtain ⟨l, hl, hi, hc, ho, _, _⟩ := mem_victims.1 h4
      exact ⟨k0, ho, hasI_iff.2 h4, l, hl, hi, (conf_iff.1 hc).1, hc⟩
  · rw [if_neg k0] at h1
    by_cases k1 : o.kind = 1
    · rw [if_pos k1, (prep_same q o.id).2.2.1] at h1
      exact absurd h1 h2
    · rw [if_neg k1, (end_marks hg o.id).2] at h1
      exact absurd (mem_ne.1 h1).1 h2
/-- the oldest of all asks for a key -/
structure First (key : ByteArray) (q : Tb) : Prop where
  inv : Inv q
  free : (⟨1, 0⟩ : Idn) ∉ q.hurt
  has : (⟨key, ⟨1, 0⟩, 2⟩ : Lk) ∈ q.held ∨ (⟨key, ⟨1, 0⟩, 2⟩ : Lk) ∈ q.wait
theorem first_old {y : Lk} (h : soundE y = 0) : ol y.id ⟨1, 0⟩ = false := by
  have h1 := sound_id h
  unfold idOk at h1
  rw [decide_eq_true_iff] at h1
  rw [ol_not]
  show ¬ (y.id.n < 1 ∨ (y.id.n = 1 ∧ y.id.c < 0))
  omega
theorem first_end {key : ByteArray} {q : Tb} (h : First key q) {id : Idn} (hid : id ≠ ⟨1, 0⟩) : First key (endS q id).1 := by
  refine ⟨end_inv h.inv id, fun hm => ?_, ?_⟩
  · rw [(end_marks h.inv.mid.good id).2] at hm
    exact h.free (mem_ne.1 hm).1
  · rcases h.has with hh | hw
    · exact .inl (end_first_held h.inv.mid hh rfl hid)
    · rcases end_first h.inv.mid hw rfl (fun y hy => first_old (hy.elim (h.inv.mid.good.hs y) (h.inv.mid.good.ws y))) hid with h1 | h1
      · exact .inl h1
      · exact .inr h1.1
/-- whoever stands in the way: of the list L, from place k on -/
def Way (key : ByteArray) (q : Tb) (L : List Lk) (k : Nat) : Prop :=
  (⟨key, ⟨1, 0⟩, 2⟩ : Lk) ∈ q.held ∨ ∀ h ∈ q.held, h.key = key → h.id ≠ ⟨1, 0⟩ → h ∈ L.drop k
theorem way_start (key : ByteArray) (q : Tb) : Way key q q.held 0 := .inr fun h hh _ _ => hh
theorem way_skip {key : ByteArray} {q : Tb} {L : List Lk} {k : Nat} {x : Lk} (hx : L[k]? = some x) (h : Way key q L k) (hn : ¬ (x.key = key ∧ x.id ≠ ⟨1, 0⟩)) : Way key q L (k + 1) := by
  rcases h with h | h
  · exact .inl h
  · refine .inr fun y hy hk hi => ?_
    have h1 := h y hy hk hi
    obtain ⟨hkl, hxe⟩ := List.getElem?_eq_some_iff.1 hx
    rw [List.drop_eq_getElem_cons hkl, hxe] at h1
    rcases List.mem_cons.1 h1 with e | h1
    · exact absurd ⟨e ▸ hk, e ▸ hi⟩ hn
    · exact h1
theorem way_end {key : ByteArray} {q : Tb} {L : List Lk} {k : Nat} {x : Lk} (hf : First key q) (hx : L[k]? = some x) (h : Way key q L k) (hn : x.id ≠ ⟨1, 0⟩) : Way key (endS q x.id).1 L (k + 1) := by
  rcases h with h | h
  · exact .inl (end_first_held hf.inv.mid h rfl hn)
  · rcases hf.has with hh | hw
    · exact .inl (end_first_held hf.inv.mid hh rfl hn)
    · rcases end_first hf.inv.mid hw rfl (fun y hy => first_old (hy.elim (hf.inv.mid.good.hs y) (hf.inv.mid.good.ws y))) hn with h1 | ⟨_, h1⟩
      · exact .inl h1
      · refine .inr fun y hy hk hi => ?_
        obtain ⟨h2, h3⟩ := h1 y hy hk hi
        have h4 := h y h2 hk hi
        obtain ⟨hkl, hxe⟩ := List.getElem?_eq_some_iff.1 hx
        rw [List.drop_eq_getElem_cons hkl, hxe] at h4
        rcases List.mem_cons.1 h4 with e | h4
        · exact absurd (by rw [e]) h3
        · exact h4
theorem way_done {key : ByteArray} {q : Tb} {L : List Lk} {k : Nat} (hf : First key q) (hk : L.length ≤ k) (h : Way key q L k) : modeI q ⟨1, 0⟩ key = 2 := by
  have hh : (⟨key, ⟨1, 0⟩, 2⟩ : Lk) ∈ q.held := by
    rcases h with h | h
    · exact h
    · rcases hf.has with hh | hw
      · exact hh
      · exfalso
        rcases free_no.1 (hf.inv.why _ hw) with ⟨l, hl, hc⟩ | ⟨l, hl, hc, ho⟩
        · obtain ⟨c1, c2, _⟩ := conf_iff.1 hc
          have := h l hl c1 c2
          rw [List.drop_eq_nil_of_le hk] at this
          cases this
        · rw [first_old (hf.inv.mid.good.ws l hl)] at ho; cases ho
  have := mode_of hf.inv.mid.good.sh hh
  exact this
theorem sound_first {key : ByteArray} (h1 : 1 ≤ key.size) (h2 : key.size ≤ 32) : soundE ⟨key, ⟨1, 0⟩, 2⟩ = 0 := by
  unfold soundE
  have hi : idOk ⟨1, 0⟩ = true := by decide
  simp only [hi]
  rw [if_neg (by simp), if_neg (fun hn => hn ⟨h1, h2⟩), if_neg (by simp)]
theorem first_ask {key : ByteArray} {q : Tb} (h : Inv q) (h1 : 1 ≤ key.size) (h2 : key.size ≤ 32) (hm : (q.held.length : Int) + (q.wait.length : Int) < q.most) :
    (First key (askT q ⟨key, ⟨1, 0⟩, 2⟩) ∧ (askE q ⟨key, ⟨1, 0⟩, 2⟩ = 0 ∨ askE q ⟨key, ⟨1, 0⟩, 2⟩ = 150)) ∨ askE q ⟨key, ⟨1, 0⟩, 2⟩ = 152 ∨ askE q ⟨key, ⟨1, 0⟩, 2⟩ = 8 := by
  have hs := sound_first h1 h2
  have hI := ask_inv h ⟨key, ⟨1, 0⟩, 2⟩
  have hfull : fullB q ⟨key, ⟨1, 0⟩, 2⟩ = false := by
    unfold fullB
    rw [decide_eq_false (by omega)]; rfl
  unfold askE
  cases hr : refuse q ⟨key, ⟨1, 0⟩, 2⟩ with
  | none =>
    obtain ⟨_, r2, _, r4, r5, _⟩ := refuse_none hr
    refine .inl ⟨⟨hI, ?_, ?_⟩, ?_⟩
    · unfold askT
      rw [hr]
      have hv : (⟨1, 0⟩ : Idn) ∉ addAll q.hurt (victims q ⟨key, ⟨1, 0⟩, 2⟩) := fun hm => by
        rcases mem_addAll.1 hm with h3 | h3
        · exact r2 h3
        · obtain ⟨l, hl, hi, _, ho, _⟩ := mem_victims.1 h3
          rw [ol_ord.irr] at ho; cases ho
      simp only
      split <;> exact hv
    · unfold askT
      rw [hr]
      simp only
      split
      · exact .inl mem_ins_self
      · exact .inr mem_ins_self
    · simp only
      split
      · exact .inl rfl
      · exact .inr rfl
  | some e =>
    simp only
    unfold askT at hI ⊢
    rw [hr] at hI ⊢
    simp only at hI ⊢
    unfold refuse at hr
    rw [if_neg (by rw [hs]; simp)] at hr
    by_cases c1 : hasI q.hurt ⟨1, 0⟩ = true
    · simp only [c1, if_true] at hr
      exact .inr (.inr (by injection hr with hr; exact hr.symm))
    have c1' : (⟨1, 0⟩ : Idn) ∉ q.hurt := fun hm => c1 (hasI_iff.2 hm)
    simp only [if_neg c1] at hr
    by_cases c2 : (2 : Int) ≤ modeI q ⟨1, 0⟩ key
    · simp only [if_pos c2] at hr
      refine .inl ⟨⟨h, c1', .inl ?_⟩, .inl (by injection hr with hr; exact hr.symm)⟩
      obtain ⟨y, hy, hk, hi, hmd⟩ := mode_some (t := q) (id := ⟨1, 0⟩) (key := key) (by omega)
      have := sound_mode (h.mid.good.hs y hy)
      have e : y = ⟨key, ⟨1, 0⟩, 2⟩ := lk_ext hk hi (by show y.mode = 2; omega)
      rw [← e]; exact hy
    simp only [if_neg c2] at hr
    cases hw : wantsL q ⟨1, 0⟩ with
    | some v =>
      rw [hw] at hr
      simp only at hr
      by_cases c3 : v.key = key ∧ (2 : Int) ≤ v.mode
      · rw [if_pos c3] at hr
        obtain ⟨hv, hvi⟩ := wants_some hw
        have := sound_mode (h.mid.good.ws v hv)
        have e : v = ⟨key, ⟨1, 0⟩, 2⟩ := lk_ext c3.1 hvi (by show v.mode = 2; have := c3.2; omega)
        refine .inl ⟨⟨h, c1', .inr (by rw [← e]; exact hv)⟩, .inr (by injection hr with hr; exact hr.symm)⟩
      · rw [if_neg c3] at hr
        exact .inr (.inl (by injection hr with hr; exact hr.symm))
    | none =>
      rw [hw] at hr
      simp only at hr
      by_cases c4 : hasI q.prep ⟨1, 0⟩ = true
      · rw [if_pos c4] at hr
        exact .inr (.inr (by injection hr with hr; exact hr.symm))
      · rw [if_neg c4, if_neg (by rw [hfull]; simp)] at hr
        cases hr
end Go.Proofs.YtpidpdbjjdkhoaaGreat
