/- Rows of identities and of locks: how the library's functions read them. -/
import Derived.Test.YtpidpdbjjdkhoaaGreatLkF
namespace Go.Proofs.YtpidpdbjjdkhoaaGreat
open Go.RowKit
set_option linter.unusedSimpArgs false
set_option linter.unusedVariables false
attribute [local go_sem ↓] Go.wp_at_zero Go.wp_at_succ

/-- what a question of a row answers: it may keep a state of its own (St, of what was asked so far, in the blocks S), and leaves all other blocks alone -/
def Answers (p : Bool) (S1 : List Nat → World → Prop) (S : List Nat) (W : World) (e : Ending) (w' : World) : Prop := e = .returned (.bool p) ∧ ∃ S', S1 S' w' ∧ Moves S S' W w'
theorem Reads.kept {w w' : World} {B size n : Nat} {A : Option Addr} {xs : List Value} {S : List Nat} (h : Reads w B size A n xs) (hk : Kept S w w') (hB : B ≤ w.heap.size) (hS : 0 < n → ∀ k ∈ ob A, k ∉ S) : Reads w' B size A n xs :=
  ⟨h.1, fun hn => by
    obtain ⟨ad, e, hb, hc⟩ := h.2 hn
    refine ⟨ad, e, hb, fun j u hu => ?_⟩
    rw [← hc j u hu]
    exact World.cell?_of_block (by rw [block_of_add]; exact hk.block _ (by omega) (hS hn _ (by rw [e]; simp [ob])))⟩
theorem Moves.none {w w' : World} {S' : List Nat} (h : Moves [] S' w w') : Below w.heap.size w w' := h.kept.below0
theorem rdI {w : World} {B n : Nat} {A : Option Addr} {l : List Idn} (h : Reads w B 2 A n (rc idR l)) {k : Nat} (hk : k < l.length) :
    ∃ b off, A = some ⟨b, off, none⟩ ∧ b < B ∧ w.cell? ⟨b, off + k * 2, none⟩ = some (.int .i64 (gr idR l k).n) ∧ w.cell? ⟨b, off + k * 2 + 1, none⟩ = some (.int .i64 (gr idR l k).c) := by
  obtain ⟨b, off, hA, hb, hc⟩ := Reads.elt (R := idR) h hk
  exact ⟨b, off, hA, hb, hc 0 _ rfl, hc 1 _ rfl⟩
def QuestionI (g : Nat) (lb : Array Value) (p : Idn → Bool) (St : List Idn → List Nat → World → Prop) : Prop :=
  ∀ pre S x W, St pre S W → pre.length < 8796093022208 → Calls Tryz.prog g (#[idV x] ++ lb) W (Answers (p x) (St (pre ++ [x])) S W)
def IdxRI (p : Idn → Bool) (St : List Idn → World → Prop) (l : List Idn) (w' : World) (r : Int) : Prop :=
  (r = -1 ∧ (∀ i, i < l.length → p (gr idR l i) = false) ∧ St l w') ∨ ∃ k : Nat, k < l.length ∧ r = k ∧ p (gr idR l k) = true ∧ (∀ i, i < k → p (gr idR l i) = false) ∧ St (l.take (k + 1)) w'
def IdxEndsI (p : Idn → Bool) (St : List Idn → List Nat → World → Prop) (S : List Nat) (l : List Idn) (w : World) (e : Ending) (w' : World) : Prop :=
  ∃ (r : Int) (S' : List Nat), e = .returned (.int .i64 r) ∧ IdxRI p (fun pre => St pre S') l w' r ∧ Moves S S' w w'
def IdxRelI (p : Idn → Bool) (St : List Idn → List Nat → World → Prop) (S : List Nat) (l : List Idn) (w : World) (i : Value) (wr : World) : Prop :=
  ∃ (k : Nat) (S' : List Nat), i = .int .i64 k ∧ k ≤ l.length ∧ (∀ i, i < k → p (gr idR l i) = false) ∧ St (l.take k) S' wr ∧ Moves S S' w wr
set_option maxHeartbeats 4000000 in
set_option maxRecDepth 100000 in
theorem idxfI (g : Nat) (lb : Array Value) (eg : ∀ args w, (callFunc g args).run Tryz.prog w = .ok (.enter g args) w) (p : Idn → Bool) (St : List Idn → List Nat → World → Prop) (S : List Nat) (hq : QuestionI g lb p St)
    (A : Option Addr) (c B : Nat) (l : List Idn) (w : World) (hr : Reads w B 2 A l.length (rc idR l)) (hB : B ≤ w.heap.size) (hS : 0 < l.length → ∀ k ∈ ob A, k ∉ S) (h0 : St [] S w) (hl : l.length ≤ 8796093022208) :
    Calls Tryz.prog 98 #[.slice A l.length c, .func (.func g) #[] lb] w (IdxEndsI p St S l w) := by
  have HQ := Lib.hid hq
  have HR := Lib.hid (fun w' (hk : Kept S w w') => hr.kept hk hB hS)
  have H0 := Lib.hid h0
  clear hq hr hS h0
  go_enter Tryz.func98, Tryz.ntmps98
  go_wp2
  go_loopw [8] (IdxRelI p St S l w) (fun i _ => l.length - (intOf i).toNat)
  case atStart => exact ⟨0, S, rfl, Nat.zero_le _, fun i h => absurd h (by omega), H0.out, Moves.refl _ _⟩
  case round =>
    obtain ⟨k, S', rfl, hk, hno, hst, hso⟩ := hrel
    have HNO := Lib.hid hno
    have HST := Lib.hid hst
    have HSO := Lib.hid hso
    clear hno hst hso H0
    by_cases hlt : k < l.length
    · obtain ⟨b, off, rfl, _, a0, a1⟩ := rdI (HR.out _ HSO.out.kept) hlt
      have kL : (0 : Int) ≤ (k : Int) := by omega
      have kU : (k : Int) < (l.length : Int) := by omega
      have HX : Hid (l[k]? = some (gr idR l k)) := Lib.hid (gr_get hlt)
      have HC := Lib.hid (HQ.out (l.take k) S' (gr idR l k) wr HST.out (by rw [List.length_take]; omega))
      rw [← take_on HX.out] at HC
      obtain ⟨x, hx⟩ : ∃ x, x = gr idR l k := ⟨_, rfl⟩
      rw [← hx] at a0 a1 HC
      have Hx := Lib.hid hx
      unfold idV at HC
      clear hx
      cases hp : p x with
      | true =>
        rw [hp] at HC
        have HP := Lib.hid hp
        clear hp
        go_wp2_with fail
        refine HC.out.mono ?_
        rintro e w1 ⟨rfl, S1, hs1, ho1⟩
        have HS1 := Lib.hid hs1
        have HO1 := Lib.hid ho1
        clear hs1 ho1
        go_wp2_with fail
        go_ret
        exact ⟨k, S1, rfl, .inr ⟨k, hlt, rfl, by rw [← Hx.out]; exact HP.out, HNO.out, HS1.out⟩, HSO.out.trans HO1.out⟩
      | false =>
        rw [hp] at HC
        have HP := Lib.hid hp
        clear hp
        go_wp2_with fail
        refine HC.out.mono ?_
        rintro e w1 ⟨rfl, S1, hs1, ho1⟩
        have HS1 := Lib.hid hs1
        have HO1 := Lib.hid ho1
        clear hs1 ho1
        go_wp2_with fail
        go_roundw
        case rel => exact ⟨k + 1, S1, by go_num, by omega, fun i hi => by
            by_cases e : i = k
            · rw [e, ← Hx.out]; exact HP.out
            · exact HNO.out i (by omega), HS1.out, HSO.out.trans HO1.out⟩
        case measure => simp [intOf]; omega
    · have hkk : l.take k = l := List.take_of_length_le (by omega)
      rw [hkk] at HST
      clear hkk
      go_wp2
      go_ret
      exact ⟨-1, S', rfl, .inl ⟨rfl, fun i hi => HNO.out i (by omega), HST.out⟩, HSO.out⟩
theorem idx_anyI {p : Idn → Bool} {St : List Idn → World → Prop} {l : List Idn} {w' : World} {r : Int} (h : IdxRI p St l w' r) : (decide (0 ≤ r) = l.any p) ∧ ∃ pre, St pre w' := by
  rcases h with ⟨rfl, hn, hs⟩ | ⟨k, hk, rfl, hp, hn, hs⟩
  · refine ⟨?_, l, hs⟩
    rw [show l.any p = false by
      rw [List.any_eq_false]
      intro x hx
      obtain ⟨i, hi, rfl⟩ := List.mem_iff_getElem.1 hx
      rw [← gr_at (R := idR) hi, hn i hi]; simp]
    rfl
  · refine ⟨?_, _, hs⟩
    rw [show l.any p = true from List.any_eq_true.2 ⟨_, gr_mem (R := idR) hk, hp⟩]
    simp
theorem cloneI (A : Option Addr) (c B : Nat) (l : List Idn) (w : World) (hr : Reads w B 2 A l.length (rc idR l)) (hB : B ≤ w.heap.size) (hl : l.length ≤ 8796093022208) :
    Calls Tryz.prog 30 #[.slice A l.length c] w fun e w' => ∃ A1 c1, e = .returned (.slice A1 l.length c1) ∧ w'.ownsRow 0 29 2 (.slice A1 l.length c1) l.length (rc idR l) ∧ Below w.heap.size w w' ∧ ∀ k ∈ ob A1, w.heap.size ≤ k := by
  obtain ⟨i0, hi0, hz0, hz1, hz2⟩ := info_parts Tryz.infoId
  rcases A with _ | ad
  · have h0 : l.length = 0 := by
      rcases Nat.eq_zero_or_pos l.length with h0 | h0
      · exact h0
      · obtain ⟨ad, h, _⟩ := hr.2 h0
        cases h
    obtain rfl : l = [] := List.eq_nil_of_length_eq_zero h0
    clear h0
    have e1 : ∀ w : World, (binOp .eql 36 (.slice none 0 c) (.slice none 0 0)).run Tryz.prog w = .ok (.bool true) w := fun w => Lib.run_eql_slice_nil w 36 29 none 0 c 0 0 Tryz.underlying36
    go_enter Tryz.func30, Tryz.ntmps30
    go_wp2
    go_ret
    exact ⟨none, 0, rfl, World.ownsRow_nil _ _ _ _, Below.refl _ _, by simp [ob]⟩
  · have e1 : ∀ w : World, (binOp .eql 36 (.slice (some ad) l.length c) (.slice none 0 0)).run Tryz.prog w = .ok (.bool false) w := fun w => Lib.run_eql_slice_nil w 36 29 (some ad) l.length c 0 0 Tryz.underlying36
    go_enter Tryz.func30, Tryz.ntmps30
    go_wp2_with (at_builtin; refine wpList_app rfl (.tmp 5) (.tmp 6) 36 36 rfl 29 i0 _ 2 16 Tryz.underlying36 hi0 hz0 hz1 hz2 rfl (by omega) (some ⟨w.heap.size, 0, none⟩) 0 0 [] rfl (World.ownsRow_made w #[] 0 (Nat.zero_le _) (by simp [maxLen]) rfl) _ l.length (rc idR l) rfl (Src.ofReads Tryz.underlying36 (hr.alloc hB _) (rc_one _)) (by simp only [maxLen]; omega) (by omega) ?_; intro A1 k1 w1 hown1 hk1 hf1; rw [Nat.zero_add, List.nil_append] at hown1)
    go_ret
    refine ⟨A1, k1, rfl, hown1, hk1.of_alloc.below (Nat.le_refl _) (by simp [ob]), fun x hx => ?_⟩
    exact (hf1 x hx).elim (fun h => by simp [ob] at h; omega) (fun h => by simp at h; omega)
theorem rdL {w : World} {B n : Nat} {A : Option Addr} {l : List Lk} (h : Reads w B 4 A n (rc lkR l)) {k : Nat} (hk : k < l.length) :
    ∃ b off, A = some ⟨b, off, none⟩ ∧ b < B ∧ w.cell? ⟨b, off + k * 4, none⟩ = some (.string (gr lkR l k).key) ∧ w.cell? ⟨b, off + k * 4 + 1, none⟩ = some (.int .i64 (gr lkR l k).id.n) ∧ w.cell? ⟨b, off + k * 4 + 2, none⟩ = some (.int .i64 (gr lkR l k).id.c) ∧ w.cell? ⟨b, off + k * 4 + 3, none⟩ = some (.int .i64 (gr lkR l k).mode) := by
  obtain ⟨b, off, hA, hb, hc⟩ := Reads.elt (R := lkR) h hk
  exact ⟨b, off, hA, hb, hc 0 _ rfl, hc 1 _ rfl, hc 2 _ rfl, hc 3 _ rfl⟩
def QuestionL (g : Nat) (lb : Array Value) (p : Lk → Bool) (St : List Lk → List Nat → World → Prop) : Prop :=
  ∀ pre S x W, St pre S W → pre.length < 3518437208883 → Calls Tryz.prog g (#[lkV x] ++ lb) W (Answers (p x) (St (pre ++ [x])) S W)
def IdxRL (p : Lk → Bool) (St : List Lk → World → Prop) (l : List Lk) (w' : World) (r : Int) : Prop :=
  (r = -1 ∧ (∀ i, i < l.length → p (gr lkR l i) = false) ∧ St l w') ∨ ∃ k : Nat, k < l.length ∧ r = k ∧ p (gr lkR l k) = true ∧ (∀ i, i < k → p (gr lkR l i) = false) ∧ St (l.take (k + 1)) w'
def IdxEndsL (p : Lk → Bool) (St : List Lk → List Nat → World → Prop) (S : List Nat) (l : List Lk) (w : World) (e : Ending) (w' : World) : Prop :=
  ∃ (r : Int) (S' : List Nat), e = .returned (.int .i64 r) ∧ IdxRL p (fun pre => St pre S') l w' r ∧ Moves S S' w w'
def IdxRelL (p : Lk → Bool) (St : List Lk → List Nat → World → Prop) (S : List Nat) (l : List Lk) (w : World) (i : Value) (wr : World) : Prop :=
  ∃ (k : Nat) (S' : List Nat), i = .int .i64 k ∧ k ≤ l.length ∧ (∀ i, i < k → p (gr lkR l i) = false) ∧ St (l.take k) S' wr ∧ Moves S S' w wr
set_option maxHeartbeats 4000000 in
set_option maxRecDepth 100000 in
theorem idxfL (g : Nat) (lb : Array Value) (eg : ∀ args w, (callFunc g args).run Tryz.prog w = .ok (.enter g args) w) (p : Lk → Bool) (St : List Lk → List Nat → World → Prop) (S : List Nat) (hq : QuestionL g lb p St)
    (A : Option Addr) (c B : Nat) (l : List Lk) (w : World) (hr : Reads w B 4 A l.length (rc lkR l)) (hB : B ≤ w.heap.size) (hS : 0 < l.length → ∀ k ∈ ob A, k ∉ S) (h0 : St [] S w) (hl : l.length ≤ 3518437208883) :
    Calls Tryz.prog 79 #[.slice A l.length c, .func (.func g) #[] lb] w (IdxEndsL p St S l w) := by
  have HQ := Lib.hid hq
  have HR := Lib.hid (fun w' (hk : Kept S w w') => hr.kept hk hB hS)
  have H0 := Lib.hid h0
  clear hq hr hS h0
  go_enter Tryz.func79, Tryz.ntmps79
  go_wp2
  go_loopw [8] (IdxRelL p St S l w) (fun i _ => l.length - (intOf i).toNat)
  case atStart => exact ⟨0, S, rfl, Nat.zero_le _, fun i h => absurd h (by omega), H0.out, Moves.refl _ _⟩
  case round =>
    obtain ⟨k, S', rfl, hk, hno, hst, hso⟩ := hrel
    have HNO := Lib.hid hno
    have HST := Lib.hid hst
    have HSO := Lib.hid hso
    clear hno hst hso H0
    by_cases hlt : k < l.length
    · obtain ⟨b, off, rfl, _, a0, a1, a2, a3⟩ := rdL (HR.out _ HSO.out.kept) hlt
      have kL : (0 : Int) ≤ (k : Int) := by omega
      have kU : (k : Int) < (l.length : Int) := by omega
      have HX : Hid (l[k]? = some (gr lkR l k)) := Lib.hid (gr_get hlt)
      have HC := Lib.hid (HQ.out (l.take k) S' (gr lkR l k) wr HST.out (by rw [List.length_take]; omega))
      rw [← take_on HX.out] at HC
      obtain ⟨x, hx⟩ : ∃ x, x = gr lkR l k := ⟨_, rfl⟩
      rw [← hx] at a0 a1 a2 a3 HC
      have Hx := Lib.hid hx
      unfold lkV at HC
      clear hx
      cases hp : p x with
      | true =>
        rw [hp] at HC
        have HP := Lib.hid hp
        clear hp
        go_wp2_with fail
        refine HC.out.mono ?_
        rintro e w1 ⟨rfl, S1, hs1, ho1⟩
        have HS1 := Lib.hid hs1
        have HO1 := Lib.hid ho1
        clear hs1 ho1
        go_wp2_with fail
        go_ret
        exact ⟨k, S1, rfl, .inr ⟨k, hlt, rfl, by rw [← Hx.out]; exact HP.out, HNO.out, HS1.out⟩, HSO.out.trans HO1.out⟩
      | false =>
        rw [hp] at HC
        have HP := Lib.hid hp
        clear hp
        go_wp2_with fail
        refine HC.out.mono ?_
        rintro e w1 ⟨rfl, S1, hs1, ho1⟩
        have HS1 := Lib.hid hs1
        have HO1 := Lib.hid ho1
        clear hs1 ho1
        go_wp2_with fail
        go_roundw
        case rel => exact ⟨k + 1, S1, by go_num, by omega, fun i hi => by
            by_cases e : i = k
            · rw [e, ← Hx.out]; exact HP.out
            · exact HNO.out i (by omega), HS1.out, HSO.out.trans HO1.out⟩
        case measure => simp [intOf]; omega
    · have hkk : l.take k = l := List.take_of_length_le (by omega)
      rw [hkk] at HST
      clear hkk
      go_wp2
      go_ret
      exact ⟨-1, S', rfl, .inl ⟨rfl, fun i hi => HNO.out i (by omega), HST.out⟩, HSO.out⟩
theorem idx_anyL {p : Lk → Bool} {St : List Lk → World → Prop} {l : List Lk} {w' : World} {r : Int} (h : IdxRL p St l w' r) : (decide (0 ≤ r) = l.any p) ∧ ∃ pre, St pre w' := by
  rcases h with ⟨rfl, hn, hs⟩ | ⟨k, hk, rfl, hp, hn, hs⟩
  · refine ⟨?_, l, hs⟩
    rw [show l.any p = false by
      rw [List.any_eq_false]
      intro x hx
      obtain ⟨i, hi, rfl⟩ := List.mem_iff_getElem.1 hx
      rw [← gr_at (R := lkR) hi, hn i hi]; simp]
    rfl
  · refine ⟨?_, _, hs⟩
    rw [show l.any p = true from List.any_eq_true.2 ⟨_, gr_mem (R := lkR) hk, hp⟩]
    simp
theorem cloneL (A : Option Addr) (c B : Nat) (l : List Lk) (w : World) (hr : Reads w B 4 A l.length (rc lkR l)) (hB : B ≤ w.heap.size) (hl : l.length ≤ 3518437208883) :
    Calls Tryz.prog 29 #[.slice A l.length c] w fun e w' => ∃ A1 c1, e = .returned (.slice A1 l.length c1) ∧ w'.ownsRow 0 62 4 (.slice A1 l.length c1) l.length (rc lkR l) ∧ Below w.heap.size w w' ∧ ∀ k ∈ ob A1, w.heap.size ≤ k := by
  obtain ⟨i0, hi0, hz0, hz1, hz2⟩ := info_parts Tryz.infoLk
  rcases A with _ | ad
  · have h0 : l.length = 0 := by
      rcases Nat.eq_zero_or_pos l.length with h0 | h0
      · exact h0
      · obtain ⟨ad, h, _⟩ := hr.2 h0
        cases h
    obtain rfl : l = [] := List.eq_nil_of_length_eq_zero h0
    clear h0
    have e1 : ∀ w : World, (binOp .eql 34 (.slice none 0 c) (.slice none 0 0)).run Tryz.prog w = .ok (.bool true) w := fun w => Lib.run_eql_slice_nil w 34 62 none 0 c 0 0 Tryz.underlying34
    go_enter Tryz.func29, Tryz.ntmps29
    go_wp2
    go_ret
    exact ⟨none, 0, rfl, World.ownsRow_nil _ _ _ _, Below.refl _ _, by simp [ob]⟩
  · have e1 : ∀ w : World, (binOp .eql 34 (.slice (some ad) l.length c) (.slice none 0 0)).run Tryz.prog w = .ok (.bool false) w := fun w => Lib.run_eql_slice_nil w 34 62 (some ad) l.length c 0 0 Tryz.underlying34
    go_enter Tryz.func29, Tryz.ntmps29
    go_wp2_with (at_builtin; refine wpList_app rfl (.tmp 5) (.tmp 6) 34 34 rfl 62 i0 _ 4 40 Tryz.underlying34 hi0 hz0 hz1 hz2 rfl (by omega) (some ⟨w.heap.size, 0, none⟩) 0 0 [] rfl (World.ownsRow_made w #[] 0 (Nat.zero_le _) (by simp [maxLen]) rfl) _ l.length (rc lkR l) rfl (Src.ofReads Tryz.underlying34 (hr.alloc hB _) (rc_one _)) (by simp only [maxLen]; omega) (by omega) ?_; intro A1 k1 w1 hown1 hk1 hf1; rw [Nat.zero_add, List.nil_append] at hown1)
    go_ret
    refine ⟨A1, k1, rfl, hown1, hk1.of_alloc.below (Nat.le_refl _) (by simp [ob]), fun x hx => ?_⟩
    exact (hf1 x hx).elim (fun h => by simp [ob] at h; omega) (fun h => by simp at h; omega)
def AnyEnds (p : Lk → Bool) (St : List Lk → List Nat → World → Prop) (S : List Nat) (l : List Lk) (w : World) (e : Ending) (w' : World) : Prop :=
  e = .returned (.bool (l.any p)) ∧ ∃ S', (∃ pre, St pre S' w') ∧ Moves S S' w w'
theorem contfL (g : Nat) (lb : Array Value) (eg : ∀ args w, (callFunc g args).run Tryz.prog w = .ok (.enter g args) w) (p : Lk → Bool) (St : List Lk → List Nat → World → Prop) (S : List Nat) (hq : QuestionL g lb p St)
    (A : Option Addr) (c B : Nat) (l : List Lk) (w : World) (hr : Reads w B 4 A l.length (rc lkR l)) (hB : B ≤ w.heap.size) (hS : 0 < l.length → ∀ k ∈ ob A, k ∉ S) (h0 : St [] S w) (hl : l.length ≤ 3518437208883) :
    Calls Tryz.prog 40 #[.slice A l.length c, .func (.func g) #[] lb] w (AnyEnds p St S l w) := by
  have HI := Lib.hid (idxfL g lb eg p St S hq A c B l w hr hB hS h0 hl)
  clear hq hr hS h0
  go_enter Tryz.func40, Tryz.ntmps40
  go_wp2_with fail
  refine HI.out.mono ?_
  rintro e w1 ⟨r, S', rfl, hr, hs⟩
  have HA := Lib.hid (idx_anyL hr)
  have HM := Lib.hid hs
  clear hr hs
  go_wp2
  go_ret
  exact ⟨ret_bool HA.out.1, S', HA.out.2, HM.out⟩
theorem hasI_take {l : List Idn} {i : Idn} {k : Nat} (h : ∀ j, j < k → eqI (gr idR l j) i = false) : hasI (l.take k) i = false := by
  rw [hasI_no]
  intro hm
  obtain ⟨j, hj, rfl⟩ := List.mem_iff_getElem.1 hm
  rw [List.length_take] at hj
  have h1 := h j (by omega)
  rw [gr_at (by omega), List.getElem_take, eqI_iff.2 rfl] at h1
  cases h1
def IxRel (l : List Idn) (x : Idn) (w : World) (i : Value) (wr : World) : Prop := ∃ k q : Nat, i = .int .i64 k ∧ k ≤ l.length ∧ (∀ j, j < k → eqI (gr idR l j) x = false) ∧ wr = w.drewN q
def IxEnds (l : List Idn) (x : Idn) (w : World) (e : Ending) (w' : World) : Prop := ∃ r : Int, e = .returned (.int .i64 r) ∧ decide (0 ≤ r) = hasI l x ∧ Below w.heap.size w w'
set_option maxHeartbeats 4000000 in
set_option maxRecDepth 100000 in
theorem index_any (A : Option Addr) (c : Nat) (l : List Idn) (x : Idn) (w : World) (hr : Reads w w.heap.size 2 A l.length (rc idR l)) (hl : l.length ≤ 8796093022208) :
    Calls Tryz.prog 81 #[.slice A l.length c, idV x] w (IxEnds l x w) := by
  have HR := Lib.hid hr
  have HE := Lib.hid (fun y => run_eqI x y)
  clear hr
  unfold idV
  go_enter Tryz.func81, Tryz.ntmps81
  go_upto_block 0 with fail
  have k1 := Blk.new w 29 #[.int .i64 x.n, .int .i64 x.c]
  have HB := Lib.hid (below_alloc w (.cells #[.int .i64 x.n, .int .i64 x.c] 29))
  obtain ⟨w2, hw2⟩ : ∃ w2, w2 = (w.alloc (.cells #[.int .i64 x.n, .int .i64 x.c] 29)) := ⟨_, rfl⟩
  obtain ⟨p1, hp1⟩ : ∃ p1, p1 = w.heap.size := ⟨_, rfl⟩
  rw [← hw2] at HB k1
  rw [← hp1] at k1
  rw [← hw2]
  rw [← hp1]
  clear hw2 hp1
  have x10 : w2.cell? ⟨p1, 0, none⟩ = some (.int .i64 x.n) := k1.cell 0
  have x11 : w2.cell? ⟨p1, 1, none⟩ = some (.int .i64 x.c) := k1.cell 1
  have HRR := Lib.hid ((HR.out.below HB.out).more HB.out.size)
  clear k1
  go_wp2_with fail
  go_loopw [8] (IxRel l x w2) (fun i _ => l.length - (intOf i).toNat)
  case atStart => exact ⟨0, 0, rfl, Nat.zero_le _, fun i h => absurd h (by omega), rfl⟩
  case round =>
    obtain ⟨k, q, rfl, hk, hno, rfl⟩ := hrel
    have HNO := Lib.hid hno
    clear hno
    by_cases hlt : k < l.length
    · obtain ⟨b, off, rfl, _, a0, a1⟩ := rdI HRR.out hlt
      have kL : (0 : Int) ≤ (k : Int) := by omega
      have kU : (k : Int) < (l.length : Int) := by omega
      have he := HE.out (gr idR l k)
      have HX : Hid (gr idR l k = gr idR l k) := Lib.hid rfl
      cases hq : eqI x (gr idR l k) with
      | true =>
        rw [hq] at he
        have HF : Hid (hasI l x = true) := Lib.hid (by rw [hasI_iff, eqI_iff.1 hq]; exact gr_mem hlt)
        generalize gr idR l k = y at *
        clear hq HX
        go_wp2
        go_quiet (fail)
        go_wp2
        go_ret
        exact ⟨k, rfl, by rw [HF.out]; simp, by first | exact below_drewN HB.out _ | exact below_drewN (below_drewN HB.out _) _⟩
      | false =>
        rw [hq] at he
        have HF : Hid (eqI (gr idR l k) x = false) := Lib.hid (by
          cases h : eqI (gr idR l k) x with
          | false => rfl
          | true => rw [eqI_iff.1 h, eqI_iff.2 rfl] at hq; cases hq)
        have HY : Hid (∀ y, y = gr idR l k → eqI y x = false) := Lib.hid (fun y hy => by rw [hy]; exact HF.out)
        obtain ⟨y, hy⟩ : ∃ y, y = gr idR l k := ⟨_, rfl⟩
        have Hy := Lib.hid hy
        rw [← hy] at a0 a1 he
        clear hq HX hy
        go_wp2
        go_quiet (fail)
        go_wp2
        go_roundw
        case rel => exact ⟨k + 1, _, by go_num, by omega, fun i hi => by
            by_cases e : i = k
            · rw [e]; exact HF.out
            · exact HNO.out i (by omega), rfl⟩
        case measure => simp [intOf]; omega
    · have HF : Hid (hasI l x = false) := Lib.hid (by
        have := hasI_take (l := l) (i := x) (k := k) HNO.out
        rwa [List.take_of_length_le (by omega)] at this)
      go_wp2
      go_ret
      exact ⟨-1, rfl, by rw [HF.out]; rfl, by first | exact below_drewN HB.out _ | exact below_drewN (below_drewN HB.out _) _⟩
theorem contains_any (A : Option Addr) (c : Nat) (l : List Idn) (x : Idn) (w : World) (hr : Reads w w.heap.size 2 A l.length (rc idR l)) (hl : l.length ≤ 8796093022208) :
    Calls Tryz.prog 37 #[.slice A l.length c, idV x] w (BoolIs (hasI l x) w) := by
  obtain ⟨i0, hi0⟩ : ∃ i0, i0 = below_alloc w (.cells #[.int .i64 x.n, .int .i64 x.c] 29) := ⟨_, rfl⟩
  clear hi0
  have HI := Lib.hid (fun w' (hb : Below w.heap.size w w') => index_any A c l x w' ((hr.below hb).more hb.size) hl)
  have HB0 := Lib.hid i0
  clear hr i0
  unfold idV at HI ⊢
  go_enter Tryz.func37, Tryz.ntmps37
  go_wp2_with fail
  refine (HI.out _ HB0.out).mono ?_
  rintro e w1 ⟨r, rfl, hr, hb⟩
  have HA := Lib.hid hr
  clear hr
  go_wp2
  go_ret
  exact ⟨ret_bool HA.out, HB0.out.trans (hb.mono HB0.out.size)⟩
end Go.Proofs.YtpidpdbjjdkhoaaGreat
