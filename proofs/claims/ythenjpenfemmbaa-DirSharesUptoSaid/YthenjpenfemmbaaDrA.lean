/- Layer 12, plain: the order of texts, keys, what New answers, how many first keys stand at or below a key. -/
import Derived.Test.YthenjpenfemmbaaProg
import Derived.Test.YthenjpenfemmbaaAid
namespace Go.Proofs.Ythenjpenfemmbaa
open Go.RowKit

/-! ### the order of texts -/
theorem bl_irr : ∀ x : List UInt8, Op.bytesLess x x = false
  | [] => rfl
  | a :: x => by simp [Op.bytesLess, bl_irr x]
theorem bl_trans : ∀ x y z : List UInt8, Op.bytesLess x y = true → Op.bytesLess y z = true → Op.bytesLess x z = true
  | _, [], _, h, _ => by cases ‹List UInt8› <;> simp [Op.bytesLess] at h
  | _, _ :: _, [], _, h => by simp [Op.bytesLess] at h
  | [], _ :: _, _ :: _, _, _ => rfl
  | a :: x, b :: y, c :: z, h1, h2 => by
    simp only [Op.bytesLess, Bool.or_eq_true, Bool.and_eq_true, decide_eq_true_eq, beq_iff_eq] at h1 h2 ⊢
    rcases h1 with h1 | ⟨rfl, h1⟩
    · rcases h2 with h2 | ⟨rfl, h2⟩
      · exact .inl (UInt8.lt_trans h1 h2)
      · exact .inl h1
    · rcases h2 with h2 | ⟨rfl, h2⟩
      · exact .inl h2
      · exact .inr ⟨rfl, bl_trans x y z h1 h2⟩
theorem bl_tri : ∀ x y : List UInt8, Op.bytesLess x y = false → Op.bytesLess y x = false → x = y
  | [], [], _, _ => rfl
  | [], _ :: _, h, _ => by simp [Op.bytesLess] at h
  | _ :: _, [], _, h => by simp [Op.bytesLess] at h
  | a :: x, b :: y, h1, h2 => by
    simp only [Op.bytesLess, Bool.or_eq_false_iff, decide_eq_false_iff_not, Bool.and_eq_false_iff, beq_eq_false_iff_ne] at h1 h2
    have hab : a = b := UInt8.le_antisymm (UInt8.not_lt.1 h2.1) (UInt8.not_lt.1 h1.1)
    subst hab
    rw [bl_tri x y (h1.2.resolve_left (by simp)) (h2.2.resolve_left (by simp))]
/-- a text stands ahead of another -/
def bl (a b : ByteArray) : Bool := Op.bytesLess a.toList b.toList
theorem toList_inj {a b : ByteArray} (h : a.toList = b.toList) : a = b := by
  rw [ByteArray.toList_eq, ByteArray.toList_eq] at h
  obtain ⟨⟨a⟩⟩ := a
  obtain ⟨⟨b⟩⟩ := b
  simp only at h
  rw [h]
theorem bl_self (a : ByteArray) : bl a a = false := bl_irr _
theorem bl_lt {a b c : ByteArray} (h1 : bl a b = true) (h2 : bl b c = true) : bl a c = true := bl_trans _ _ _ h1 h2
theorem bl_eq {a b : ByteArray} (h1 : bl a b = false) (h2 : bl b a = false) : a = b := toList_inj (bl_tri _ _ h1 h2)
theorem bl_anti {a b : ByteArray} (h : bl a b = true) : bl b a = false := by
  cases hb : bl b a with
  | false => rfl
  | true => have := bl_lt h hb; rw [bl_self] at this; cases this
/-- at or ahead: not behind -/
def le (a b : ByteArray) : Bool := !bl b a
theorem le_or (a b : ByteArray) : (Op.bytesLess a.toList b.toList || a.toList == b.toList) = le a b := by
  show (bl a b || a.toList == b.toList) = !bl b a
  cases h1 : bl a b with
  | true => rw [bl_anti h1]; rfl
  | false =>
    cases h2 : bl b a with
    | true =>
      have : (a.toList == b.toList) = false := by
        rw [beq_eq_false_iff_ne]
        intro h
        rw [toList_inj h, bl_self] at h2
        cases h2
      rw [this]; rfl
    | false => rw [bl_eq h1 h2]; simp
theorem lt_le {a b c : ByteArray} (h1 : bl a b = true) (h2 : le b c = true) : bl a c = true := by
  unfold le at h2
  cases h : bl a c with
  | true => rfl
  | false =>
    by_cases e : c = a
    · subst e; rw [h1] at h2; cases h2
    · have h3 : bl c a = true := by
        cases h4 : bl c a with
        | true => rfl
        | false => exact absurd (bl_eq h4 h) e
      rw [bl_lt h3 h1] at h2
      cases h2
theorem le_lt {a b c : ByteArray} (h1 : le a b = true) (h2 : bl b c = true) : bl a c = true := by
  unfold le at h1
  cases h : bl a c with
  | true => rfl
  | false =>
    by_cases e : a = c
    · subst e; rw [h2] at h1; cases h1
    · have h3 : bl c a = true := by
        cases h4 : bl c a with
        | true => rfl
        | false => exact absurd (bl_eq h h4) e
      rw [bl_lt h2 h3] at h1
      cases h1
theorem le_trans' {a b c : ByteArray} (h1 : le a b = true) (h2 : le b c = true) : le a c = true := by
  unfold le
  cases h : bl c a with
  | false => rfl
  | true =>
    have h3 := lt_le h h1
    unfold le at h2
    rw [h3] at h2
    cases h2

/-! ### keys and first keys -/
def keyB (s : ByteArray) : Bool := decide (1 ≤ s.size ∧ s.size ≤ 32)
theorem key_yes {s : ByteArray} (h : keyB s = true) : 1 ≤ s.size ∧ s.size ≤ 32 := by simpa [keyB] using h
theorem key_no {s : ByteArray} (h : keyB s = false) : s.size < 1 ∨ 32 < s.size := by
  simp [keyB] at h
  omega
def E0 : ByteArray := ⟨#[]⟩
def gx (L : List ByteArray) (i : Nat) : ByteArray := L.getD i E0
/-- what is wrong at a place -/
def badAt (L : List ByteArray) (k : Nat) : Int := if keyB (gx L k) = false then 120 else if 0 < k ∧ bl (gx L (k - 1)) (gx L k) = false then 2 else 0
def scanI (L : List ByteArray) : Nat → Nat → Int
  | 0, _ => 0
  | f + 1, k => if badAt L k ≠ 0 then badAt L k else scanI L f (k + 1)
/-- what New answers -/
def newE (L : List ByteArray) : Int := if 8 ≤ L.length then 9 else scanI L L.length 0
theorem bad_key {L : List ByteArray} {k : Nat} (h : keyB (gx L k) = false) : badAt L k = 120 := by unfold badAt; rw [if_pos h]
theorem bad_range {L : List ByteArray} {k : Nat} (h : keyB (gx L k) = true) (h0 : 0 < k) (h1 : bl (gx L (k - 1)) (gx L k) = false) : badAt L k = 2 := by unfold badAt; rw [if_neg (by simp [h]), if_pos ⟨h0, h1⟩]
theorem bad_not {L : List ByteArray} {k : Nat} (h : keyB (gx L k) = true) (h1 : 0 < k → bl (gx L (k - 1)) (gx L k) = true) : badAt L k = 0 := by
  unfold badAt
  rw [if_neg (by simp [h]), if_neg]
  rintro ⟨h0, h2⟩
  rw [h1 h0] at h2
  cases h2
theorem scan_bad {L : List ByteArray} {f k : Nat} {e : Int} (h : badAt L k = e) (he : e ≠ 0) : scanI L (f + 1) k = e := by
  show (if badAt L k ≠ 0 then badAt L k else _) = e
  rw [h, if_pos he]
theorem scan_on {L : List ByteArray} {f k : Nat} (h : badAt L k = 0) : scanI L (f + 1) k = scanI L f (k + 1) := by
  show (if badAt L k ≠ 0 then badAt L k else _) = _
  rw [h, if_neg (by simp)]
/-- first keys that New takes: they rise -/
structure Rises (L : List ByteArray) : Prop where
  few : L.length < 8
  key : ∀ i, i < L.length → keyB (gx L i) = true
  lt : ∀ i j, i < j → j < L.length → bl (gx L i) (gx L j) = true
theorem bad_zero {L : List ByteArray} {k : Nat} (h : badAt L k = 0) : keyB (gx L k) = true ∧ (0 < k → bl (gx L (k - 1)) (gx L k) = true) := by
  unfold badAt at h
  cases hk : keyB (gx L k) with
  | false => rw [hk, if_pos rfl] at h; cases h
  | true =>
    rw [hk, if_neg (by simp)] at h
    refine ⟨rfl, fun h0 => ?_⟩
    cases hb : bl (gx L (k - 1)) (gx L k) with
    | true => rfl
    | false => rw [hb, if_pos ⟨h0, rfl⟩] at h; cases h
theorem scan_zero {L : List ByteArray} : ∀ (f k : Nat), scanI L f k = 0 → ∀ i, k ≤ i → i < k + f → badAt L i = 0 := by
  intro f
  induction f with
  | zero => intro k _ i h1 h2; omega
  | succ f ih =>
    intro k h i h1 h2
    by_cases hb : badAt L k = 0
    · rw [scan_on hb] at h
      by_cases e : i = k
      · rw [e]; exact hb
      · exact ih (k + 1) h i (by omega) (by omega)
    · rw [scan_bad rfl hb] at h
      exact absurd h hb
theorem newE_zero {L : List ByteArray} (h : newE L = 0) : Rises L := by
  unfold newE at h
  by_cases h8 : 8 ≤ L.length
  · rw [if_pos h8] at h; cases h
  · rw [if_neg h8] at h
    have hz := scan_zero _ _ h
    have step : ∀ d i, i + d + 1 < L.length → bl (gx L i) (gx L (i + d + 1)) = true := by
      intro d
      induction d with
      | zero =>
        intro i hi
        have := (bad_zero (hz (i + 1) (by omega) (by omega))).2 (by omega)
        exact this
      | succ d ih =>
        intro i hi
        have h1 := ih i (by omega)
        have h2 := (bad_zero (hz (i + d + 1 + 1) (by omega) (by omega))).2 (by omega)
        exact bl_lt h1 h2
    refine ⟨by omega, fun i hi => (bad_zero (hz i (by omega) (by omega))).1, fun i j hij hj => ?_⟩
    have := step (j - i - 1) i (by omega)
    rwa [show i + (j - i - 1) + 1 = j by omega] at this

/-! ### how many first keys stand ahead, and at or ahead -/
def cntL (L : List ByteArray) (s : ByteArray) : Nat := L.countP (fun x => bl x s)
def cntE (L : List ByteArray) (s : ByteArray) : Nat := L.countP (fun x => le x s)
theorem count_at (p : ByteArray → Bool) : ∀ (L : List ByteArray) (k : Nat), k ≤ L.length → (∀ t, t < k → p (gx L t) = true) → (∀ t, k ≤ t → t < L.length → p (gx L t) = false) → L.countP p = k := by
  intro L
  induction L with
  | nil => intro k hk _ _; simp at hk; subst hk; rfl
  | cons x r ih =>
    intro k hk h1 h2
    rcases k with _ | k
    · rw [List.countP_eq_zero]
      intro y hy
      obtain ⟨i, hi, rfl⟩ := List.mem_iff_getElem.1 hy
      have := h2 i (Nat.zero_le _) hi
      unfold gx at this
      rw [List.getD_eq_getElem?_getD, List.getElem?_eq_getElem hi] at this
      simp at this
      simp [this]
    · have hx : p x = true := h1 0 (by omega)
      rw [List.countP_cons_of_pos hx, ih k (by simpa using hk) (fun t ht => h1 (t + 1) (by omega)) (fun t ht hl => h2 (t + 1) (by omega) (by simp; omega))]
theorem gx_map {L : List ByteArray} {i : Nat} (h : i < L.length) : (L.map Value.string)[i]? = some (.string (gx L i)) := by
  unfold gx
  rw [List.getElem?_map, List.getElem?_eq_getElem h, List.getD_eq_getElem?_getD, List.getElem?_eq_getElem h]
  rfl
/-- the group of a key -/
def grp (L : List ByteArray) (s : ByteArray) : Int := if keyB s then (cntE L s : Int) else -1
/-- where the halving ends -/
theorem half_ends {L : List ByteArray} (hR : Rises L) {s : ByteArray} {k : Nat} (hk : k ≤ L.length) (h1 : ∀ t, t < k → bl (gx L t) s = true) (h2 : ∀ t, k ≤ t → t < L.length → bl (gx L t) s = false) :
    cntL L s = k ∧ (k < L.length → gx L k = s → cntE L s = k + 1) ∧ ((k < L.length → gx L k ≠ s) → cntE L s = k) := by
  have hle : ∀ t, t < k → le (gx L t) s = true := fun t ht => by unfold le; rw [bl_anti (h1 t ht)]; rfl
  refine ⟨count_at _ L k hk h1 h2, fun hlt he => ?_, fun hne => ?_⟩
  · refine count_at _ L (k + 1) (by omega) (fun t ht => ?_) (fun t ht hl => ?_)
    · by_cases e : t = k
      · rw [e, he]; unfold le; rw [bl_self]; rfl
      · exact hle t (by omega)
    · have := hR.lt k t (by omega) hl
      rw [he] at this
      unfold le
      rw [this]
      rfl
  · refine count_at _ L k hk hle (fun t ht hl => ?_)
    have hk' : k < L.length := by omega
    have hb : bl s (gx L k) = true := by
      cases hb : bl s (gx L k) with
      | true => rfl
      | false => exact absurd (bl_eq (h2 k (Nat.le_refl _) hk') hb) (hne hk')
    have : bl s (gx L t) = true := by
      by_cases e : t = k
      · rw [e]; exact hb
      · exact bl_lt hb (hR.lt k t (by omega) hl)
    unfold le
    rw [this]
    rfl
theorem cnt_snoc (L : List ByteArray) (s : ByteArray) (k : Nat) (h : k < L.length) : cntE (L.take (k + 1)) s = cntE (L.take k) s + (if le (gx L k) s then 1 else 0) := by
  unfold cntE gx
  rw [List.take_succ_eq_append_getElem h, List.countP_append, List.countP_singleton, List.getD_eq_getElem?_getD, List.getElem?_eq_getElem h]
  rfl
theorem cntE_le (L : List ByteArray) (s : ByteArray) : cntE L s ≤ L.length := List.countP_le_length
end Go.Proofs.Ythenjpenfemmbaa
