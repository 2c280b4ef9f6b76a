/- Locks, plain: the table and its acts; what always holds of it. -/
import Derived.Test.YtpidpdbjjdkhoaaGreatLkA
namespace Go.Proofs.YtpidpdbjjdkhoaaGreat
structure Tb where
  most : Int
  held : List Lk
  wait : List Lk
  prep : List Idn
  hurt : List Idn
structure Edg where
  key : ByteArray
  w : Idn
  h : Idn
deriving DecidableEq, Inhabited
def conf (a b : Lk) : Bool := decide (a.key = b.key ∧ a.id ≠ b.id ∧ (a.mode = 2 ∨ b.mode = 2))
def idOk (i : Idn) : Bool := decide (1 ≤ i.n ∧ i.n ≤ 1099511627776 ∧ 0 ≤ i.c ∧ i.c < 16)
def soundE (x : Lk) : Int := if idOk x.id = false then 2 else if ¬ (1 ≤ x.key.size ∧ x.key.size ≤ 32) then 120 else if ¬ (x.mode = 1 ∨ x.mode = 2) then 5 else 0
def freeB (t : Tb) (x : Lk) : Bool := !(t.held.any fun l => conf l x) && !(t.wait.any fun l => conf l x && ol l.id x.id)
def modeI (t : Tb) (id : Idn) (key : ByteArray) : Int := match t.held.find? (fun l => at1 l ⟨key, id, 0⟩) with
  | some l => l.mode
  | none => 0
def wantsL (t : Tb) (id : Idn) : Option Lk := t.wait.find? (fun l => decide (l.id = id))
def hasI (l : List Idn) (i : Idn) : Bool := l.any fun j => decide (j = i)
def fullB (t : Tb) (x : Lk) : Bool := decide (t.most ≤ (t.held.length : Int) + (t.wait.length : Int)) && (decide (modeI t x.id x.key = 0) || (t.held.any (conf · x)) || (t.wait.any (conf · x)))
def refuse (t : Tb) (x : Lk) : Option Int :=
  if soundE x ≠ 0 then some (soundE x)
  else if hasI t.hurt x.id = true then some 8
  else if x.mode ≤ modeI t x.id x.key then some 0
  else match wantsL t x.id with
    | some w => if w.key = x.key ∧ x.mode ≤ w.mode then some 150 else some 152
    | none => if hasI t.prep x.id = true then some 8 else if fullB t x = true then some 151 else none
def victim (t : Tb) (x l : Lk) : Bool := conf l x && ol x.id l.id && !hasI t.prep l.id && !hasI t.hurt l.id
def victims (t : Tb) (x : Lk) : List Idn := (t.held.filter (victim t x)).map (·.id)
def addAll (l v : List Idn) : List Idn := v.foldl (fun l i => ins ol i l) l
def askT (t : Tb) (x : Lk) : Tb := match refuse t x with
  | some _ => t
  | none =>
    let t1 : Tb := ⟨t.most, t.held, t.wait, t.prep, addAll t.hurt (victims t x)⟩
    if freeB t x = true then ⟨t1.most, ins ah x t1.held, t1.wait, t1.prep, t1.hurt⟩ else ⟨t1.most, t1.held, ins ah x t1.wait, t1.prep, t1.hurt⟩
def askE (t : Tb) (x : Lk) : Int := match refuse t x with
  | some e => e
  | none => if freeB t x = true then 0 else 150
def askH (t : Tb) (x : Lk) : List Idn := match refuse t x with
  | some _ => []
  | none => victims t x
def prepE (t : Tb) (id : Idn) : Int := if t.held.any (fun l => decide (l.id = id)) = false then 171 else if (wantsL t id).isSome || hasI t.hurt id then 8 else 0
def prepT (t : Tb) (id : Idn) : Tb := if prepE t id = 0 then ⟨t.most, t.held, t.wait, ins ol id t.prep, t.hurt⟩ else t
def keysOf (t : Tb) (id : Idn) : List ByteArray := (((t.held ++ t.wait).filter fun l => decide (l.id = id)).map (·.key)).foldl (fun l k => ins bl k l) []
def strip (t : Tb) (id : Idn) : Tb := ⟨t.most, t.held.filter (fun l => decide (l.id ≠ id)), t.wait.filter (fun l => decide (l.id ≠ id)), t.prep.filter (fun i => decide (i ≠ id)), t.hurt.filter (fun i => decide (i ≠ id))⟩
def grant (s : Tb) (l : Lk) : Tb := ⟨s.most, ins ah l s.held, s.wait.filter (fun y => decide (y ≠ l)), s.prep, s.hurt⟩
def grant1 (k : ByteArray) (s : Tb × List Lk) (l : Lk) : Tb × List Lk := if l.key = k ∧ freeB s.1 l = true then (grant s.1 l, s.2 ++ [l]) else s
def grantK (s : Tb × List Lk) (k : ByteArray) : Tb × List Lk := s.1.wait.foldl (grant1 k) s
def endS (t : Tb) (id : Idn) : Tb × List Lk := (keysOf t id).foldl grantK (strip t id, [])
def edges (t : Tb) : List Edg := t.wait.flatMap fun w => (t.held.filter (conf w)).map fun h => ⟨w.key, w.id, h.id⟩

/-! ### what always holds -/
/-- the lists stand in their order, their members are such -/
structure Good (t : Tb) : Prop where
  sh : Srt ah t.held
  sw : Srt ah t.wait
  sp : Srt ol t.prep
  su : Srt ol t.hurt
  hs : ∀ x ∈ t.held, soundE x = 0
  ws : ∀ x ∈ t.wait, soundE x = 0
/-- what holds in the midst of an End too -/
structure Mid (t : Tb) : Prop where
  good : Good t
  noc : ∀ a ∈ t.held, ∀ b ∈ t.held, conf a b = false
  one : ∀ a ∈ t.wait, ∀ b ∈ t.wait, a.id = b.id → a = b
  edge : ∀ w ∈ t.wait, ∀ h ∈ t.held, conf w h = true → ol h.id w.id = true ∨ h.id ∈ t.prep ∨ h.id ∈ t.hurt
  pw : ∀ w ∈ t.wait, w.id ∉ t.prep
  ph : ∀ i ∈ t.prep, i ∉ t.hurt
  known : ∀ i, i ∈ t.prep ∨ i ∈ t.hurt → ∃ x, (x ∈ t.held ∨ x ∈ t.wait) ∧ x.id = i
  upg : ∀ w ∈ t.wait, ∀ h ∈ t.held, h.key = w.key → h.id = w.id → h.mode = 1 ∧ w.mode = 2
structure Inv (t : Tb) : Prop where
  mid : Mid t
  why : ∀ w ∈ t.wait, freeB t w = false

theorem conf_iff {a b : Lk} : conf a b = true ↔ a.key = b.key ∧ a.id ≠ b.id ∧ (a.mode = 2 ∨ b.mode = 2) := by simp [conf]
theorem conf_symm (a b : Lk) : conf a b = conf b a := by
  rw [Bool.eq_iff_iff, conf_iff, conf_iff]
  exact ⟨fun ⟨h1, h2, h3⟩ => ⟨h1.symm, fun e => h2 e.symm, h3.symm⟩, fun ⟨h1, h2, h3⟩ => ⟨h1.symm, fun e => h2 e.symm, h3.symm⟩⟩
theorem free_iff {t : Tb} {x : Lk} : freeB t x = true ↔ (∀ l ∈ t.held, conf l x = false) ∧ ∀ l ∈ t.wait, conf l x = true → ol l.id x.id = false := by
  unfold freeB
  simp only [Bool.and_eq_true, Bool.not_eq_true', List.any_eq_false, Bool.not_eq_true, not_and]
theorem free_no {t : Tb} {x : Lk} : freeB t x = false ↔ (∃ l ∈ t.held, conf l x = true) ∨ ∃ l ∈ t.wait, conf l x = true ∧ ol l.id x.id = true := by
  unfold freeB
  rw [Bool.and_eq_false_iff, Bool.not_eq_false', Bool.not_eq_false', List.any_eq_true, List.any_eq_true]
  simp only [Bool.and_eq_true]
theorem sound_mode {x : Lk} (h : soundE x = 0) : x.mode = 1 ∨ x.mode = 2 := by
  unfold soundE at h
  by_cases h1 : idOk x.id = false
  · rw [if_pos h1] at h; omega
  · rw [if_neg h1] at h
    by_cases h2 : ¬ (1 ≤ x.key.size ∧ x.key.size ≤ 32)
    · rw [if_pos h2] at h; omega
    · rw [if_neg h2] at h
      by_cases h3 : x.mode = 1 ∨ x.mode = 2
      · exact h3
      · rw [if_pos h3] at h; omega
theorem sound_id {x : Lk} (h : soundE x = 0) : idOk x.id = true := by
  unfold soundE at h
  cases h1 : idOk x.id with
  | true => rfl
  | false => rw [if_pos h1] at h; omega
theorem ol_or {a b : Idn} (h : a ≠ b) : ol a b = true ∨ ol b a = true := by
  cases h1 : ol a b with
  | true => exact .inl rfl
  | false => cases h2 : ol b a with
    | true => exact .inr rfl
    | false => exact absurd (ol_eq h1 h2) h
theorem hasI_iff {l : List Idn} {i : Idn} : hasI l i = true ↔ i ∈ l := by simp [hasI]
theorem hasI_no {l : List Idn} {i : Idn} : hasI l i = false ↔ i ∉ l := by rw [← Bool.not_eq_true, hasI_iff]
theorem srt_inj {l : List Lk} (h : Srt ah l) {a b : Lk} (ha : a ∈ l) (hb : b ∈ l) (hk : a.key = b.key) (hi : a.id = b.id) : a = b := by
  induction l with
  | nil => cases ha
  | cons y l ih =>
    have hy := List.pairwise_cons.1 h
    rcases List.mem_cons.1 ha with ea | ha1 <;> rcases List.mem_cons.1 hb with eb | hb1
    · rw [ea, eb]
    · have := hy.1 b hb1; rw [← ea, ah_at ⟨hk, hi⟩] at this; cases this
    · have := hy.1 a ha1; rw [← eb, ah_at ⟨hk.symm, hi.symm⟩] at this; cases this
    · exact ih hy.2 ha1 hb1
theorem mode_of {t : Tb} (h : Srt ah t.held) {y : Lk} (hy : y ∈ t.held) : modeI t y.id y.key = y.mode := by
  unfold modeI
  cases hf : t.held.find? (fun l => at1 l ⟨y.key, y.id, 0⟩) with
  | none =>
    rw [List.find?_eq_none] at hf
    exact absurd (at1_iff.2 ⟨rfl, rfl⟩) (hf y hy)
  | some z =>
    have h1 := List.mem_of_find?_eq_some hf
    have h2 := List.find?_some hf
    rw [at1_iff] at h2
    rw [srt_inj h h1 hy h2.1 h2.2]
theorem mode_none {t : Tb} {id : Idn} {key : ByteArray} (h : ∀ y ∈ t.held, ¬ (y.key = key ∧ y.id = id)) : modeI t id key = 0 := by
  unfold modeI
  have : t.held.find? (fun l => at1 l ⟨key, id, 0⟩) = none := by
    rw [List.find?_eq_none]
    intro y hy he
    exact h y hy (at1_iff.1 he)
  rw [this]
theorem mode_some {t : Tb} {id : Idn} {key : ByteArray} (h : modeI t id key ≠ 0) : ∃ y ∈ t.held, y.key = key ∧ y.id = id ∧ y.mode = modeI t id key := by
  unfold modeI at *
  cases hf : t.held.find? (fun l => at1 l ⟨key, id, 0⟩) with
  | none => rw [hf] at h; exact absurd rfl h
  | some z =>
    have h1 := List.mem_of_find?_eq_some hf
    have h2 := List.find?_some hf
    rw [at1_iff] at h2
    exact ⟨z, h1, h2.1, h2.2, rfl⟩
theorem wants_none {t : Tb} {id : Idn} (h : wantsL t id = none) : ∀ w ∈ t.wait, w.id ≠ id := by
  intro w hw e
  unfold wantsL at h
  rw [List.find?_eq_none] at h
  exact h w hw (by simp [e])
theorem wants_some {t : Tb} {id : Idn} {w : Lk} (h : wantsL t id = some w) : w ∈ t.wait ∧ w.id = id := by
  unfold wantsL at h
  exact ⟨List.mem_of_find?_eq_some h, by simpa using List.find?_some h⟩
theorem mem_addAll {i : Idn} : ∀ {v l : List Idn}, i ∈ addAll l v ↔ i ∈ l ∨ i ∈ v
  | [], l => by simp [addAll]
  | a :: v, l => by
    have : addAll l (a :: v) = addAll (ins ol a l) v := rfl
    rw [this, mem_addAll, List.mem_cons]
    constructor
    · rintro (h | h)
      · rcases mem_ins h with h | h
        · exact .inr (.inl h)
        · exact .inl h
      · exact .inr (.inr h)
    · rintro (h | h | h)
      · by_cases e : i = a
        · exact .inl (e ▸ mem_ins_self)
        · exact .inl (mem_ins_old (ol_or e) ol_ord h)
      · exact .inl (h ▸ mem_ins_self)
      · exact .inr h
theorem srt_addAll : ∀ {v l : List Idn}, Srt ol l → Srt ol (addAll l v)
  | [], _, h => h
  | _ :: v, _, h => srt_addAll (v := v) (srt_ins ol_ord h)
theorem mem_insL {x z : Lk} {l : List Lk} (h : z ∈ l) : z ∈ ins ah x l ∨ (z.key = x.key ∧ z.id = x.id) := by
  by_cases e : z.key = x.key ∧ z.id = x.id
  · exact .inr e
  · refine .inl (mem_ins_old ?_ ah_ord h)
    cases h1 : ah z x with
    | true => exact .inl rfl
    | false => cases h2 : ah x z with
      | true => exact .inr rfl
      | false => exact absurd (ah_eq h1 h2) e
/-- where one stands at that place already, laying makes the list no longer -/
theorem len_at {x y : Lk} : ∀ {l : List Lk}, Srt ah l → y ∈ l → y.key = x.key → y.id = x.id → (ins ah x l).length = l.length
  | [], _, h, _, _ => by cases h
  | z :: l, hs, hy, hk, hi => by
    have hz := List.pairwise_cons.1 hs
    cases h1 : ah z x with
    | true =>
      rw [ins_lt h1]
      rcases List.mem_cons.1 hy with e | hy
      · subst e; rw [ah_at ⟨hk, hi⟩] at h1; cases h1
      · simp [len_at hz.2 hy hk hi]
    | false => cases h2 : ah x z with
      | true =>
        exfalso
        rcases List.mem_cons.1 hy with e | hy
        · subst e; rw [ah_at ⟨hk.symm, hi.symm⟩] at h2; cases h2
        · have := ah_ord.tr _ _ _ h2 (hz.1 y hy)
          rw [ah_at ⟨hk.symm, hi.symm⟩] at this; cases this
      | false => rw [ins_eq h1 h2]; rfl

/-! ### Ask -/
theorem refuse_none {t : Tb} {x : Lk} (h : refuse t x = none) : soundE x = 0 ∧ x.id ∉ t.hurt ∧ modeI t x.id x.key < x.mode ∧ (∀ w ∈ t.wait, w.id ≠ x.id) ∧ x.id ∉ t.prep ∧ fullB t x = false := by
  unfold refuse at h
  by_cases h1 : soundE x ≠ 0
  · rw [if_pos h1] at h; cases h
  rw [if_neg h1] at h
  by_cases h2 : hasI t.hurt x.id = true
  · rw [if_pos h2] at h; cases h
  rw [if_neg h2] at h
  by_cases h3 : x.mode ≤ modeI t x.id x.key
  · rw [if_pos h3] at h; cases h
  rw [if_neg h3] at h
  cases hw : wantsL t x.id with
  | some w => rw [hw] at h; simp only at h; split at h <;> cases h
  | none =>
    rw [hw] at h
    simp only at h
    by_cases h4 : hasI t.prep x.id = true
    · rw [if_pos h4] at h; cases h
    rw [if_neg h4] at h
    by_cases h5 : fullB t x = true
    · rw [if_pos h5] at h; cases h
    exact ⟨by omega, fun hm => h2 (hasI_iff.2 hm), by omega, wants_none hw, fun hm => h4 (hasI_iff.2 hm), by simpa using h5⟩
theorem mem_victims {t : Tb} {x : Lk} {i : Idn} : i ∈ victims t x ↔ ∃ l ∈ t.held, l.id = i ∧ conf l x = true ∧ ol x.id i = true ∧ i ∉ t.prep ∧ i ∉ t.hurt := by
  unfold victims victim
  simp only [List.mem_map, List.mem_filter, Bool.and_eq_true, Bool.not_eq_true', hasI_no]
  constructor
  · rintro ⟨l, ⟨hl, ⟨⟨h1, h2⟩, h3⟩, h4⟩, rfl⟩
    exact ⟨l, hl, rfl, h1, h2, h3, h4⟩
  · rintro ⟨l, hl, rfl, h1, h2, h3, h4⟩
    exact ⟨l, ⟨hl, ⟨⟨h1, h2⟩, h3⟩, h4⟩, rfl⟩
theorem ask_good {t : Tb} (hg : Good t) (x : Lk) : Good (askT t x) := by
  unfold askT
  cases hr : refuse t x with
  | some e => exact hg
  | none =>
    obtain ⟨hx, _⟩ := refuse_none hr
    simp only
    split
    · exact ⟨srt_ins ah_ord hg.sh, hg.sw, hg.sp, srt_addAll hg.su, fun y hy => (mem_ins hy).elim (fun e => e ▸ hx) (hg.hs y), hg.ws⟩
    · exact ⟨hg.sh, srt_ins ah_ord hg.sw, hg.sp, srt_addAll hg.su, hg.hs, fun y hy => (mem_ins hy).elim (fun e => e ▸ hx) (hg.ws y)⟩
theorem ask_inv {t : Tb} (hi : Inv t) (x : Lk) : Inv (askT t x) := by
  have hgd := ask_good hi.mid.good x
  unfold askT at *
  cases hr : refuse t x with
  | some e => exact hi
  | none =>
    obtain ⟨hx, hxh, hxm, hxw, hxp, hxf⟩ := refuse_none hr
    obtain ⟨⟨hg, noc, one, edge, pw, ph, known, upg⟩, why⟩ := hi
    rw [hr] at hgd
    simp only at hgd ⊢
    have hv : ∀ i, i ∈ addAll t.hurt (victims t x) ↔ i ∈ t.hurt ∨ i ∈ victims t x := fun i => mem_addAll
    have hph : ∀ i ∈ t.prep, i ∉ addAll t.hurt (victims t x) := fun i hp hm => by
      rcases (hv i).1 hm with h | h
      · exact ph i hp h
      · obtain ⟨_, _, _, _, _, h5, _⟩ := mem_victims.1 h; exact h5 hp
    by_cases hf : freeB t x = true
    · rw [if_pos hf] at hgd ⊢
      obtain ⟨f1, f2⟩ := free_iff.1 hf
      refine ⟨⟨hgd, ?_, one, ?_, pw, hph, ?_, ?_⟩, ?_⟩
      · intro a ha b hb
        rcases mem_ins ha with ea | ha1 <;> rcases mem_ins hb with eb | hb1
        · rw [ea, eb]; simp [conf]
        · rw [ea, conf_symm]; exact f1 b hb1
        · rw [eb]; exact f1 a ha1
        · exact noc a ha1 b hb1
      · intro w hw h hh hc
        rcases mem_ins hh with rfl | hh
        · have := f2 w hw hc
          have hne := (conf_iff.1 hc).2.1
          exact .inl ((ol_or hne).resolve_left (by rw [this]; simp))
        · rcases edge w hw h hh hc with e | e | e
          · exact .inl e
          · exact .inr (.inl e)
          · exact .inr (.inr ((hv _).2 (.inl e)))
      · intro i hi
        have hk : ∀ y, (y ∈ t.held ∨ y ∈ t.wait) → ∃ z, (z ∈ ins ah x t.held ∨ z ∈ t.wait) ∧ z.id = y.id := by
          rintro y (hy | hy)
          · rcases mem_insL (x := x) hy with h | h
            · exact ⟨y, .inl h, rfl⟩
            · exact ⟨x, .inl mem_ins_self, h.2.symm⟩
          · exact ⟨y, .inr hy, rfl⟩
        rcases hi with hi | hi
        · obtain ⟨y, hy, rfl⟩ := known i (.inl hi); exact hk y hy
        · rcases (hv i).1 hi with hi | hi
          · obtain ⟨y, hy, rfl⟩ := known i (.inr hi); exact hk y hy
          · obtain ⟨l, hl, rfl, _⟩ := mem_victims.1 hi; exact hk l (.inl hl)
      · intro w hw h hh hk hi
        rcases mem_ins hh with rfl | hh
        · exact absurd hi.symm (hxw w hw)
        · exact upg w hw h hh hk hi
      · intro w hw
        rcases free_no.1 (why w hw) with ⟨l, hl, hc⟩ | ⟨l, hl, hc, ho⟩
        · refine free_no.2 (.inl ?_)
          rcases mem_insL (x := x) hl with h | ⟨hk, hi⟩
          · exact ⟨l, h, hc⟩
          · refine ⟨x, mem_ins_self, ?_⟩
            have hm := mode_of hg.sh hl
            rw [hk, hi] at hm
            have h1 := sound_mode (hg.hs l hl)
            have h2 := sound_mode hx
            obtain ⟨c1, c2, c3⟩ := conf_iff.1 hc
            exact conf_iff.2 ⟨hk ▸ c1, hi ▸ c2, by omega⟩
        · exact free_no.2 (.inr ⟨l, hl, hc, ho⟩)
    · rw [if_neg hf] at hgd ⊢
      have hf' : freeB t x = false := by simpa using hf
      have hold : ∀ w ∈ t.wait, w ∈ ins ah x t.wait := fun w hw => (mem_insL hw).resolve_right (fun h => hxw w hw h.2)
      have hsub : ∀ w : Lk, freeB t w = false → freeB ⟨t.most, t.held, ins ah x t.wait, t.prep, addAll t.hurt (victims t x)⟩ w = false := by
        intro w hw
        rcases free_no.1 hw with ⟨l, hl, hc⟩ | ⟨l, hl, hc, ho⟩
        · exact free_no.2 (.inl ⟨l, hl, hc⟩)
        · exact free_no.2 (.inr ⟨l, hold l hl, hc, ho⟩)
      refine ⟨⟨hgd, noc, ?_, ?_, ?_, hph, ?_, ?_⟩, ?_⟩
      · intro a ha b hb e
        rcases mem_ins ha with ea | ha1 <;> rcases mem_ins hb with eb | hb1
        · rw [ea, eb]
        · exact absurd (by rw [← e, ea]) (hxw b hb1)
        · exact absurd (by rw [e, eb]) (hxw a ha1)
        · exact one a ha1 b hb1 e
      · intro w hw h hh hc
        rcases mem_ins hw with rfl | hw
        · have hne := (conf_iff.1 hc).2.1
          rcases ol_or hne with h1 | h1
          · by_cases hp : h.id ∈ t.prep
            · exact .inr (.inl hp)
            · by_cases hu : h.id ∈ t.hurt
              · exact .inr (.inr ((hv _).2 (.inl hu)))
              · exact .inr (.inr ((hv _).2 (.inr (mem_victims.2 ⟨h, hh, rfl, by rw [conf_symm]; exact hc, h1, hp, hu⟩))))
          · exact .inl h1
        · rcases edge w hw h hh hc with e | e | e
          · exact .inl e
          · exact .inr (.inl e)
          · exact .inr (.inr ((hv _).2 (.inl e)))
      · intro w hw
        rcases mem_ins hw with rfl | hw
        · exact hxp
        · exact pw w hw
      · intro i hi
        have hk : ∀ y, (y ∈ t.held ∨ y ∈ t.wait) → ∃ z, (z ∈ t.held ∨ z ∈ ins ah x t.wait) ∧ z.id = y.id := by
          rintro y (hy | hy)
          · exact ⟨y, .inl hy, rfl⟩
          · exact ⟨y, .inr (hold y hy), rfl⟩
        rcases hi with hi | hi
        · obtain ⟨y, hy, rfl⟩ := known i (.inl hi); exact hk y hy
        · rcases (hv i).1 hi with hi | hi
          · obtain ⟨y, hy, rfl⟩ := known i (.inr hi); exact hk y hy
          · obtain ⟨l, hl, rfl, _⟩ := mem_victims.1 hi; exact hk l (.inl hl)
      · intro w hw h hh hk hi
        rcases mem_ins hw with rfl | hw
        · have hm := mode_of hg.sh hh
          rw [hk, hi] at hm
          have h1 := sound_mode (hg.hs h hh)
          have h2 := sound_mode hx
          omega
        · exact upg w hw h hh hk hi
      · intro w hw
        rcases mem_ins hw with rfl | hw
        · exact hsub w hf'
        · exact hsub w (why w hw)
theorem ask_most {t : Tb} (hg : Good t) (x : Lk) (h : (t.held.length : Int) + (t.wait.length : Int) ≤ t.most) : ((askT t x).held.length : Int) + ((askT t x).wait.length : Int) ≤ t.most ∧ (askT t x).most = t.most := by
  unfold askT
  cases hr : refuse t x with
  | some e => exact ⟨h, rfl⟩
  | none =>
    obtain ⟨hx, hxh, hxm, hxw, hxp, hxf⟩ := refuse_none hr
    simp only
    unfold fullB at hxf
    rw [Bool.and_eq_false_iff] at hxf
    have l1 := ins_len (lt := ah) (x := x) t.held
    have l2 := ins_len (lt := ah) (x := x) t.wait
    rcases hxf with h1 | h1
    · have : ¬ (t.most ≤ (t.held.length : Int) + (t.wait.length : Int)) := by simpa using h1
      split
      · exact ⟨by simp only; omega, rfl⟩
      · exact ⟨by simp only; omega, rfl⟩
    · simp only [Bool.or_eq_false_iff, decide_eq_false_iff_not, List.any_eq_false, Bool.not_eq_true] at h1
      obtain ⟨⟨h2, h3⟩, h4⟩ := h1
      have hf : freeB t x = true := free_iff.2 ⟨h3, fun l hl hc => by rw [h4 l hl] at hc; cases hc⟩
      rw [if_pos hf]
      obtain ⟨y, hy, hk, hi, _⟩ := mode_some h2
      exact ⟨by simp only; rw [len_at hg.sh hy hk hi]; exact h, rfl⟩

/-! ### Prepare -/
theorem prep_good {t : Tb} (hg : Good t) (id : Idn) : Good (prepT t id) := by
  unfold prepT
  split
  · exact ⟨hg.sh, hg.sw, srt_ins ol_ord hg.sp, hg.su, hg.hs, hg.ws⟩
  · exact hg
theorem prep_zero {t : Tb} {id : Idn} (h : prepE t id = 0) : (∃ x ∈ t.held, x.id = id) ∧ (∀ w ∈ t.wait, w.id ≠ id) ∧ id ∉ t.hurt := by
  unfold prepE at h
  cases h1 : t.held.any (fun l => decide (l.id = id)) with
  | false => rw [if_pos h1] at h; cases h
  | true =>
    rw [if_neg (by rw [h1]; simp)] at h
    cases h2 : ((wantsL t id).isSome || hasI t.hurt id) with
    | true => rw [if_pos h2] at h; cases h
    | false =>
      rw [Bool.or_eq_false_iff] at h2
      refine ⟨by simpa using h1, ?_, hasI_no.1 h2.2⟩
      cases hw : wantsL t id with
      | none => exact wants_none hw
      | some w => rw [hw] at h2; cases h2.1
theorem prep_inv {t : Tb} (hi : Inv t) (id : Idn) : Inv (prepT t id) := by
  have hgd := prep_good hi.mid.good id
  unfold prepT at *
  by_cases h0 : prepE t id = 0
  · rw [if_pos h0] at hgd ⊢
    obtain ⟨h1, h2, h3⟩ := prep_zero h0
    obtain ⟨⟨hg, noc, one, edge, pw, ph, known, upg⟩, why⟩ := hi
    refine ⟨⟨hgd, noc, one, ?_, ?_, ?_, ?_, upg⟩, why⟩
    · intro w hw h hh hc
      rcases edge w hw h hh hc with e | e | e
      · exact .inl e
      · by_cases e1 : h.id = id
        · exact .inr (.inl (by rw [e1]; exact mem_ins_self))
        · exact .inr (.inl (mem_ins_old (ol_or e1) ol_ord e))
      · exact .inr (.inr e)
    · intro w hw hm
      rcases mem_ins hm with e | hm
      · exact h2 w hw e
      · exact pw w hw hm
    · intro i hm
      rcases mem_ins hm with rfl | hm
      · exact h3
      · exact ph i hm
    · rintro i (hm | hm)
      · rcases mem_ins hm with rfl | hm
        · obtain ⟨x, hx, e⟩ := h1; exact ⟨x, .inl hx, e⟩
        · exact known i (.inl hm)
      · exact known i (.inr hm)
  · rw [if_neg h0]; exact hi
end Go.Proofs.YtpidpdbjjdkhoaaGreat
