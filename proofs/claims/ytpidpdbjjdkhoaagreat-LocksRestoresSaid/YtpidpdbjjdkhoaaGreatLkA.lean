/- Locks, plain: the orders, the sorted lists, laying an element at its place. -/
import Derived.WalkKit
namespace Go.Proofs.YtpidpdbjjdkhoaaGreat
open Go.RowKit

/-! ### the order of texts -/
theorem bl_irr : ∀ x : List UInt8, Op.bytesLess x x = false
  | [] => rfl
  | a :: x => by simp [Op.bytesLess, bl_irr x]
theorem bl_trans : ∀ x y z : List UInt8, Op.bytesLess x y = true → Op.bytesLess y z = true → Op.bytesLess x z = true
  | _, [], _, h, _ => by cases ‹List UInt8› <;> simp [Op.bytesLess] at h
  | _, _ :: _, [], _, h => by simp [Op.bytesLess] at h
  | [], _ :: _, _ :: _, _, _ => rfl
  | a :: x, b :: y, c :: z, h1, h2 => by
    simp only [Op.bytesLess, Bool.or_eq_true, Bool.and_eq_true, decide_eq_true_eq, beq_iff_eq] at h1 h2 ⊢
    rcases h1 with h1 | ⟨rfl, h1⟩
    · rcases h2 with h2 | ⟨rfl, h2⟩
      · exact .inl (UInt8.lt_trans h1 h2)
      · exact .inl h1
    · rcases h2 with h2 | ⟨rfl, h2⟩
      · exact .inl h2
      · exact .inr ⟨rfl, bl_trans x y z h1 h2⟩
theorem bl_tri : ∀ x y : List UInt8, Op.bytesLess x y = false → Op.bytesLess y x = false → x = y
  | [], [], _, _ => rfl
  | [], _ :: _, h, _ => by simp [Op.bytesLess] at h
  | _ :: _, [], _, h => by simp [Op.bytesLess] at h
  | a :: x, b :: y, h1, h2 => by
    simp only [Op.bytesLess, Bool.or_eq_false_iff, decide_eq_false_iff_not, Bool.and_eq_false_iff, beq_eq_false_iff_ne] at h1 h2
    have hab : a = b := UInt8.le_antisymm (UInt8.not_lt.1 h2.1) (UInt8.not_lt.1 h1.1)
    subst hab
    rw [bl_tri x y (h1.2.resolve_left (by simp)) (h2.2.resolve_left (by simp))]
/-- a text stands ahead of another -/
def bl (a b : ByteArray) : Bool := Op.bytesLess a.toList b.toList
theorem toList_inj {a b : ByteArray} (h : a.toList = b.toList) : a = b := by
  rw [ByteArray.toList_eq, ByteArray.toList_eq] at h
  obtain ⟨⟨a⟩⟩ := a
  obtain ⟨⟨b⟩⟩ := b
  simp only at h
  rw [h]
theorem bl_self (a : ByteArray) : bl a a = false := bl_irr _
theorem bl_lt {a b c : ByteArray} (h1 : bl a b = true) (h2 : bl b c = true) : bl a c = true := bl_trans _ _ _ h1 h2
theorem bl_eq {a b : ByteArray} (h1 : bl a b = false) (h2 : bl b a = false) : a = b := toList_inj (bl_tri _ _ h1 h2)
theorem bl_anti {a b : ByteArray} (h : bl a b = true) : bl b a = false := by
  cases hb : bl b a with
  | false => rfl
  | true => have := bl_lt h hb; rw [bl_self] at this; cases this

/-! ### identities and locks -/
structure Idn where
  n : Int
  c : Int
deriving DecidableEq, Inhabited
structure Lk where
  key : ByteArray
  id : Idn
  mode : Int
deriving DecidableEq, Inhabited
/-- older -/
def ol (a b : Idn) : Bool := decide (a.n < b.n ∨ (a.n = b.n ∧ a.c < b.c))
theorem ol_iff {a b : Idn} : ol a b = true ↔ a.n < b.n ∨ (a.n = b.n ∧ a.c < b.c) := by simp [ol]
theorem ol_not {a b : Idn} : ol a b = false ↔ ¬ (a.n < b.n ∨ (a.n = b.n ∧ a.c < b.c)) := by simp [ol]
theorem idn_ext {a b : Idn} (h1 : a.n = b.n) (h2 : a.c = b.c) : a = b := by cases a; cases b; simp_all
/-- a lock stands ahead of another -/
def ah (a b : Lk) : Bool := bl a.key b.key || (decide (a.key = b.key) && ol a.id b.id)
/-- at one place -/
def at1 (a b : Lk) : Bool := decide (a.key = b.key ∧ a.id = b.id)

/-- an order: elements that stand neither way are at one place -/
structure Ord' {α : Type} (lt : α → α → Bool) : Prop where
  irr : ∀ a, lt a a = false
  tr : ∀ a b c, lt a b = true → lt b c = true → lt a c = true
  ne : ∀ a b c, lt a b = false → lt b c = false → lt a c = false
theorem ol_ord : Ord' ol where
  irr a := by simp [ol]
  tr a b c h1 h2 := by rw [ol_iff] at *; omega
  ne a b c h1 h2 := by rw [ol_not] at *; omega
theorem ol_eq {a b : Idn} (h1 : ol a b = false) (h2 : ol b a = false) : a = b := by
  rw [ol_not] at *; exact idn_ext (by omega) (by omega)
theorem ah_iff {a b : Lk} : ah a b = true ↔ bl a.key b.key = true ∨ (a.key = b.key ∧ ol a.id b.id = true) := by simp [ah]
theorem ah_not {a b : Lk} : ah a b = false ↔ bl a.key b.key = false ∧ (a.key = b.key → ol a.id b.id = false) := by
  rw [← Bool.not_eq_true, ah_iff, not_or, Bool.not_eq_true, not_and, Bool.not_eq_true]
theorem ah_ord : Ord' ah where
  irr a := by simp [ah, bl_self, ol_ord.irr]
  tr a b c h1 h2 := by
    rw [ah_iff] at *
    rcases h1 with h1 | ⟨e1, h1⟩ <;> rcases h2 with h2 | ⟨e2, h2⟩
    · exact .inl (bl_lt h1 h2)
    · exact .inl (e2 ▸ h1)
    · exact .inl (e1 ▸ h2)
    · exact .inr ⟨e1.trans e2, ol_ord.tr _ _ _ h1 h2⟩
  ne a b c h1 h2 := by
    rw [ah_not] at *
    have hk : bl a.key c.key = false := by
      cases h : bl a.key c.key with
      | false => rfl
      | true =>
        by_cases e : b.key = a.key
        · rw [← e] at h; rw [h] at h2; cases h2.1
        · have hba : bl b.key a.key = true := by
            cases h' : bl b.key a.key with
            | true => rfl
            | false => exact absurd (bl_eq h' h1.1) e
          have := bl_lt hba h
          rw [h2.1] at this; cases this
    refine ⟨hk, fun e => ?_⟩
    by_cases e1 : a.key = b.key
    · exact ol_ord.ne _ _ _ (h1.2 e1) (h2.2 (e1 ▸ e))
    · have h3 : bl b.key a.key = true := by
        cases h' : bl b.key a.key with
        | true => rfl
        | false => exact absurd (bl_eq h1.1 h') e1
      rw [e] at h3
      rw [h2.1] at h3; cases h3
theorem ah_eq {a b : Lk} (h1 : ah a b = false) (h2 : ah b a = false) : a.key = b.key ∧ a.id = b.id := by
  rw [ah_not] at *
  have hk := bl_eq h1.1 h2.1
  exact ⟨hk, ol_eq (h1.2 hk) (h2.2 hk.symm)⟩
theorem at1_iff {a b : Lk} : at1 a b = true ↔ a.key = b.key ∧ a.id = b.id := by simp [at1]
theorem ah_at {a b : Lk} (h : a.key = b.key ∧ a.id = b.id) : ah a b = false := by
  rw [ah_not, h.1, h.2]; exact ⟨bl_self _, fun _ => ol_ord.irr _⟩

section
variable {α : Type} {lt : α → α → Bool}
theorem Ord'.asym (h : Ord' lt) {a b : α} (h1 : lt a b = true) : lt b a = false := by
  cases h2 : lt b a with
  | false => rfl
  | true => have := h.tr _ _ _ h1 h2; rw [h.irr] at this; cases this
theorem Ord'.lt_of_lt_not (h : Ord' lt) {a b c : α} (h1 : lt a b = true) (h2 : lt c b = false) : lt a c = true := by
  cases h3 : lt a c with
  | true => rfl
  | false => rw [h.ne _ _ _ h3 h2] at h1; cases h1
theorem Ord'.lt_of_not_lt (h : Ord' lt) {a b c : α} (h1 : lt b a = false) (h2 : lt b c = true) : lt a c = true := by
  cases h3 : lt a c with
  | true => rfl
  | false => rw [h.ne _ _ _ h1 h3] at h2; cases h2
/-- each ahead of all behind it -/
def Srt (lt : α → α → Bool) (l : List α) : Prop := l.Pairwise fun a b => lt a b = true
/-- laid at its place; what stood there gives way -/
def ins (lt : α → α → Bool) (x : α) : List α → List α
  | [] => [x]
  | y :: l => if lt y x then y :: ins lt x l else if lt x y then x :: y :: l else x :: l
theorem ins_lt {x y : α} {l : List α} (h : lt y x = true) : ins lt x (y :: l) = y :: ins lt x l := by simp [ins, h]
theorem ins_gt {x y : α} {l : List α} (h1 : lt y x = false) (h2 : lt x y = true) : ins lt x (y :: l) = x :: y :: l := by simp [ins, h1, h2]
theorem ins_eq {x y : α} {l : List α} (h1 : lt y x = false) (h2 : lt x y = false) : ins lt x (y :: l) = x :: l := by simp [ins, h1, h2]
theorem mem_ins {x z : α} : ∀ {l : List α}, z ∈ ins lt x l → z = x ∨ z ∈ l
  | [], h => .inl (by simpa [ins] using h)
  | y :: l, h => by
    cases h1 : lt y x with
    | true =>
      rw [ins_lt h1] at h
      rcases List.mem_cons.1 h with h | h
      · exact .inr (h ▸ List.mem_cons_self ..)
      · exact (mem_ins h).imp id (List.mem_cons_of_mem _)
    | false => cases h2 : lt x y with
      | true =>
        rw [ins_gt h1 h2] at h
        exact (List.mem_cons.1 h).imp id id
      | false =>
        rw [ins_eq h1 h2] at h
        exact (List.mem_cons.1 h).imp id (List.mem_cons_of_mem _)
theorem mem_ins_self {x : α} : ∀ {l : List α}, x ∈ ins lt x l
  | [] => by simp [ins]
  | y :: l => by
    unfold ins
    split
    · exact List.mem_cons_of_mem _ mem_ins_self
    · split <;> exact List.mem_cons_self ..
/-- what stands at another place stays -/
theorem mem_ins_old {x z : α} (hz : lt z x = true ∨ lt x z = true) (ho : Ord' lt) : ∀ {l : List α}, z ∈ l → z ∈ ins lt x l
  | [], h => by cases h
  | y :: l, h => by
    cases h1 : lt y x with
    | true =>
      rw [ins_lt h1]
      rcases List.mem_cons.1 h with h | h
      · rw [h]; exact List.mem_cons_self ..
      · exact List.mem_cons_of_mem _ (mem_ins_old hz ho h)
    | false => cases h2 : lt x y with
      | true => rw [ins_gt h1 h2]; exact List.mem_cons_of_mem _ h
      | false =>
        rw [ins_eq h1 h2]
        rcases List.mem_cons.1 h with h | h
        · subst h; rw [h1, h2] at hz; rcases hz with h | h <;> cases h
        · exact List.mem_cons_of_mem _ h
theorem srt_ins (ho : Ord' lt) {x : α} : ∀ {l : List α}, Srt lt l → Srt lt (ins lt x l)
  | [], _ => by simp [ins, Srt]
  | y :: l, h => by
    have hy := List.pairwise_cons.1 h
    cases h1 : lt y x with
    | true =>
      rw [ins_lt h1]
      refine List.pairwise_cons.2 ⟨fun z hz => ?_, srt_ins ho hy.2⟩
      rcases mem_ins hz with rfl | hz
      · exact h1
      · exact hy.1 z hz
    | false => cases h2 : lt x y with
      | true =>
        rw [ins_gt h1 h2]
        refine List.pairwise_cons.2 ⟨fun z hz => ?_, h⟩
        rcases List.mem_cons.1 hz with rfl | hz
        · exact h2
        · exact ho.tr _ _ _ h2 (hy.1 z hz)
      | false =>
        rw [ins_eq h1 h2]
        exact List.pairwise_cons.2 ⟨fun z hz => ho.lt_of_not_lt h1 (hy.1 z hz), hy.2⟩
theorem srt_filter {l : List α} (h : Srt lt l) (p : α → Bool) : Srt lt (l.filter p) := List.Pairwise.filter _ h
theorem ins_len {x : α} : ∀ l : List α, (ins lt x l).length ≤ l.length + 1
  | [] => by simp [ins]
  | y :: l => by
    have := ins_len (x := x) l
    unfold ins
    split
    · simp; omega
    · split <;> simp
theorem len_ins {x : α} : ∀ l : List α, l.length ≤ (ins lt x l).length
  | [] => by simp [ins]
  | y :: l => by
    have := len_ins (x := x) l
    unfold ins
    split
    · simp; omega
    · split <;> simp
/-- the place of an element: the first that does not stand ahead of it -/
def pos (lt : α → α → Bool) (x : α) : List α → Nat
  | [] => 0
  | y :: l => if lt y x then pos lt x l + 1 else 0
def isAt (lt : α → α → Bool) (x : α) (l : List α) : Bool := match l[pos lt x l]? with
  | some y => !lt x y
  | none => false
theorem pos_le {x : α} : ∀ l : List α, pos lt x l ≤ l.length
  | [] => Nat.le_refl _
  | y :: l => by
    have := pos_le (x := x) l
    unfold pos
    split <;> simp <;> omega
/-- laying by place -/
theorem ins_pos {x : α} : ∀ l : List α, ins lt x l = l.take (pos lt x l) ++ x :: l.drop (pos lt x l + if isAt lt x l then 1 else 0)
  | [] => by simp [ins, pos, isAt]
  | y :: l => by
    cases h1 : lt y x with
    | true =>
      have hp : pos lt x (y :: l) = pos lt x l + 1 := by simp [pos, h1]
      have hi : isAt lt x (y :: l) = isAt lt x l := by unfold isAt; rw [hp]; simp
      rw [ins_lt h1, ins_pos l, hp, hi, List.take_succ_cons, Nat.add_right_comm, List.drop_succ_cons, List.cons_append]
    | false =>
      have hp : pos lt x (y :: l) = 0 := by simp [pos, h1]
      have hi : isAt lt x (y :: l) = !lt x y := by unfold isAt; rw [hp]; simp
      cases h2 : lt x y with
      | true => rw [ins_gt h1 h2, hp, hi, h2]; simp
      | false => rw [ins_eq h1 h2, hp, hi, h2]; simp
/-- how a binary search knows a place -/
theorem pos_of (ho : Ord' lt) {x : α} : ∀ {l : List α}, Srt lt l → ∀ {i : Nat}, i ≤ l.length → (∀ k y, k + 1 = i → l[k]? = some y → lt y x = true) → (∀ y, l[i]? = some y → lt y x = false) → pos lt x l = i
  | [], _, i, hi, _, _ => by simp at hi; simp [pos, hi]
  | y :: l, h, i, hi, hlo, hhi => by
    have hy := List.pairwise_cons.1 h
    rcases i with _ | i
    · have := hhi y rfl
      simp [pos, this]
    · have hyx : lt y x = true := by
        rcases i with _ | i
        · exact hlo 0 y rfl rfl
        · have hil : i < l.length := by simp at hi; omega
          have h1 := hlo (i + 1) l[i] rfl (by simp [hil])
          exact ho.tr _ _ _ (hy.1 _ (List.getElem_mem hil)) h1
      have := pos_of ho hy.2 (i := i) (by simp at hi; omega) (fun k z hk hz => hlo (k + 1) z (by omega) (by simpa using hz)) (fun z hz => hhi z (by simpa using hz))
      simp [pos, hyx, this]
theorem pos_lo (ho : Ord' lt) {x : α} : ∀ {l : List α}, Srt lt l → ∀ k y, k < pos lt x l → l[k]? = some y → lt y x = true
  | [], _, k, _, hk, _ => by simp [pos] at hk
  | z :: l, h, k, y, hk, hy => by
    have hz := List.pairwise_cons.1 h
    cases h1 : lt z x with
    | false => simp [pos, h1] at hk
    | true =>
      simp [pos, h1] at hk
      rcases k with _ | k
      · simp at hy; rw [← hy]; exact h1
      · exact pos_lo ho hz.2 k y (by omega) (by simpa using hy)
theorem pos_hi {x : α} : ∀ {l : List α} {y : α}, l[pos lt x l]? = some y → lt y x = false
  | [], y, h => by simp [pos] at h
  | z :: l, y, h => by
    cases h1 : lt z x with
    | false => simp [pos, h1] at h; rw [← h]; exact h1
    | true => simp [pos, h1] at h; exact pos_hi h
/-- taken from the front, one by one -/
theorem take_on {l : List α} {k : Nat} {x : α} (h : l[k]? = some x) : l.take (k + 1) = l.take k ++ [x] := by
  obtain ⟨hk, rfl⟩ := List.getElem?_eq_some_iff.1 h
  exact List.take_succ_eq_append_getElem hk
theorem srt_ext (ho : Ord' lt) (he : ∀ a b, lt a b = false → lt b a = false → a = b) : ∀ {l m : List α}, Srt lt l → Srt lt m → (∀ x, x ∈ l ↔ x ∈ m) → l = m
  | [], [], _, _, _ => rfl
  | [], y :: m, _, _, h => by have := (h y).2 (List.mem_cons_self ..); cases this
  | x :: l, [], _, _, h => by have := (h x).1 (List.mem_cons_self ..); cases this
  | x :: l, y :: m, hl, hm, h => by
    have h1 := List.pairwise_cons.1 hl
    have h2 := List.pairwise_cons.1 hm
    have hxy : x = y := by
      rcases List.mem_cons.1 ((h x).1 (List.mem_cons_self ..)) with e | hx
      · exact e
      · rcases List.mem_cons.1 ((h y).2 (List.mem_cons_self ..)) with e | hy
        · exact e.symm
        · have a := h2.1 x hx
          have b := h1.1 y hy
          rw [ho.asym a] at b; cases b
    subst hxy
    rw [srt_ext ho he h1.2 h2.2 (fun z => ⟨fun hz => ?_, fun hz => ?_⟩)]
    · rcases List.mem_cons.1 ((h z).1 (List.mem_cons_of_mem _ hz)) with e | h3
      · have := h1.1 z hz; rw [e, ho.irr] at this; cases this
      · exact h3
    · rcases List.mem_cons.1 ((h z).2 (List.mem_cons_of_mem _ hz)) with e | h3
      · have := h2.1 z hz; rw [e, ho.irr] at this; cases this
      · exact h3
end
end Go.Proofs.YtpidpdbjjdkhoaaGreat
