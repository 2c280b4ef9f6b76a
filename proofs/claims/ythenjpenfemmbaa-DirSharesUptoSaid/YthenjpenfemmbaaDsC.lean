/- Layer 12: Clone of writes, the closure of Share, IndexFunc. -/
import Derived.Test.YthenjpenfemmbaaWrB
import Derived.Test.YthenjpenfemmbaaDrF
namespace Go.Proofs.Ythenjpenfemmbaa
open Go.RowKit
set_option linter.unusedSimpArgs false
set_option linter.unusedVariables false

/-- writes of the call's own that read as l, in new memory -/
def NewWrts (w : World) (l : List Wrt) (e : Ending) (w' : World) : Prop :=
  ∃ A c, e = .returned (.slice A l.length c) ∧ w'.ownsRow 0 45 3 (.slice A l.length c) l.length (wc l) ∧ Below w.heap.size w w' ∧ ∀ k ∈ ob A, w.heap.size ≤ k
set_option maxHeartbeats 1000000 in
theorem wclone_any (A : Option Addr) (c B : Nat) (l : List Wrt) (w : World) (hr : Reads w B 3 A l.length (wc l)) (hB : B ≤ w.heap.size) (hl : l.length ≤ 1000000) :
    Calls Try.prog 30 #[.slice A l.length c] w (NewWrts w l) := by
  obtain ⟨i0, hi0, hz0, hz1, hz2⟩ := info_parts Try.infoW
  rcases A with _ | ad
  · have h0 : l.length = 0 := by
      rcases Nat.eq_zero_or_pos l.length with h0 | h0
      · exact h0
      · obtain ⟨ad, h, _⟩ := hr.2 h0
        cases h
    obtain rfl : l = [] := List.eq_nil_of_length_eq_zero h0
    clear h0
    have e1 : ∀ w : World, (binOp .eql 40 (.slice none 0 c) (.slice none 0 0)).run Try.prog w = .ok (.bool true) w := fun w => Lib.run_eql_slice_nil w 40 45 none 0 c 0 0 Try.underlying40
    go_enter Try.func30, Try.ntmps30
    go_wp2
    go_ret
    exact ⟨none, 0, rfl, World.ownsRow_nil _ _ _ _, Below.refl _ _, by simp [ob]⟩
  · have e1 : ∀ w : World, (binOp .eql 40 (.slice (some ad) l.length c) (.slice none 0 0)).run Try.prog w = .ok (.bool false) w := fun w => Lib.run_eql_slice_nil w 40 45 (some ad) l.length c 0 0 Try.underlying40
    go_enter Try.func30, Try.ntmps30
    go_wp2_with (at_builtin; refine wpList_app rfl (.tmp 5) (.tmp 6) 40 40 rfl 45 i0 _ 3 40 Try.underlying40 hi0 hz0 hz1 hz2 rfl (by omega) (some ⟨w.heap.size, 0, none⟩) 0 0 [] rfl (World.ownsRow_made w #[] 0 (Nat.zero_le _) (by simp [maxLen]) rfl) _ l.length (wc l) rfl (Src.ofReads Try.underlying40 (hr.alloc hB _) (wc_one _)) (by simp only [maxLen]; omega) (by omega) ?_; intro A1 k1 w1 hown1 hk1 hf1; rw [Nat.zero_add, List.nil_append] at hown1)
    go_ret
    refine ⟨A1, k1, rfl, hown1, hk1.of_alloc.below (Nat.le_refl _) (by simp [ob]), fun x hx => ?_⟩
    exact (hf1 x hx).elim (fun h => by simp [ob] at h; omega) (fun h => by simp at h; omega)

theorem IsD.kept0 {w w' : World} {d c : Nat} {L : List ByteArray} {A : Option Addr} {S : List Nat} (h : IsD w d L A c) (hk : Kept S w w') (hd : d ∉ S) (ha : 0 < L.length → ∀ k ∈ ob A, k ∉ S) : IsD w' d L A c := by
  rcases Nat.eq_zero_or_pos L.length with h0 | h0
  · exact ⟨hk.blk h.blk hd, h.row.1, fun hn => by omega⟩
  · exact h.kept hk hd (ha h0)
/-- what Share's closure has captured, and the directory behind it -/
structure ShEnv (w : World) (d : Nat) (L : List ByteArray) (A : Option Addr) (c : Nat) (g : Int) (b1 b2 : Nat) : Prop where
  dir : IsD w d L A c
  p : Blk w b1 23 #[.pointer (some ⟨d, 0, none⟩)]
  g : Blk w b2 3 #[.int .i64 g]
  ris : Rises L
theorem ShEnv.below {w w' : World} {d c b1 b2 : Nat} {L : List ByteArray} {A : Option Addr} {g : Int} (h : ShEnv w d L A c g b1 b2) (hb : Below w.heap.size w w') : ShEnv w' d L A c g b1 b2 :=
  ⟨h.dir.below hb, h.p.below hb h.p.lt, h.g.below hb h.g.lt, h.ris⟩
theorem ShEnv.kept {w w' : World} {d c b1 b2 : Nat} {L : List ByteArray} {A : Option Addr} {g : Int} {S : List Nat} (h : ShEnv w d L A c g b1 b2) (hk : Kept S w w') (hd : ∀ k ∈ [d, b1, b2], k ∉ S) (ha : 0 < L.length → ∀ k ∈ ob A, k ∉ S) : ShEnv w' d L A c g b1 b2 :=
  ⟨h.dir.kept0 hk (hd d (by simp)) ha, hk.blk h.p (hd b1 (by simp)), hk.blk h.g (hd b2 (by simp)), h.ris⟩
/-- another group's -/
def oth (L : List ByteArray) (g : Int) (x : Wrt) : Bool := grp L x.key != g
def BoolIs (w : World) (b : Bool) (e : Ending) (w' : World) : Prop := e = .returned (.bool b) ∧ Below w.heap.size w w'
set_option maxHeartbeats 1000000 in
theorem oth_any (w : World) (d : Nat) (L : List ByteArray) (A : Option Addr) (c : Nat) (g : Int) (b1 b2 : Nat) (x : Wrt) (h : ShEnv w d L A c g b1 b2) :
    Calls Try.prog 28 #[.agg #[.string x.key, .string x.val, .bool x.del], .pointer (some ⟨b1, 0, none⟩), .pointer (some ⟨b2, 0, none⟩)] w (BoolIs w (oth L g x)) := by
  have h0 := h.below (below_alloc w (.cells #[.string x.key, .string x.val, .bool x.del] 45))
  have c1 := h0.p.cell 0
  have c2 := h0.g.cell 0
  have c3 := (Blk.new w 45 #[.string x.key, .string x.val, .bool x.del]).cell 0
  simp only [List.getElem?_toArray, List.getElem?_cons_zero] at c1 c2 c3
  have hb0 := below_alloc w (.cells #[.string x.key, .string x.val, .bool x.del] 45)
  have HO : Hid (oth L g x = (grp L x.key != g)) := Lib.hid rfl
  go_enter Try.func28, Try.ntmps28
  go_wp2
  generalize w.alloc (.cells #[.string x.key, .string x.val, .bool x.del] 45) = w1 at *
  go_quiet ((go_at_call 12; refine quiet_mine (group_any d A c L x.key _ (h0.dir.drewN _) h0.ris)))
  go_wp2
  go_ret
  exact ⟨by rw [HO.out]; rfl, below_drewN hb0 _⟩

/-- the first place where p holds, or -1 -/
def IdxIs (p : Wrt → Bool) (l : List Wrt) (r : Int) : Prop :=
  (r = -1 ∧ ∀ i, i < l.length → p (gw l i) = false) ∨ ∃ k : Nat, k < l.length ∧ r = k ∧ p (gw l k) = true ∧ ∀ i, i < k → p (gw l i) = false
def IdxEnds (p : Wrt → Bool) (l : List Wrt) (w : World) (e : Ending) (w' : World) : Prop := ∃ r, e = .returned (.int .i64 r) ∧ IdxIs p l r ∧ Below w.heap.size w w'
def IdxRelW (p : Wrt → Bool) (l : List Wrt) (w : World) (d : Nat) (L : List ByteArray) (A : Option Addr) (c : Nat) (g : Int) (b1 b2 : Nat) (i : Value) (wr : World) : Prop :=
  ∃ k : Nat, i = .int .i64 k ∧ k ≤ l.length ∧ (∀ i, i < k → p (gw l i) = false) ∧ Below w.heap.size w wr ∧ ShEnv wr d L A c g b1 b2
set_option maxHeartbeats 4000000 in
set_option maxRecDepth 100000 in
theorem windex_any (w : World) (d : Nat) (L : List ByteArray) (A : Option Addr) (c : Nat) (g : Int) (b1 b2 : Nat) (h : ShEnv w d L A c g b1 b2) (A2 : Option Addr) (c2 : Nat) (l : List Wrt) (hr : Reads w w.heap.size 3 A2 l.length (wc l)) (hl : l.length ≤ 1000000) :
    Calls Try.prog 35 #[.slice A2 l.length c2, .func (.func 28) #[] #[.pointer (some ⟨b1, 0, none⟩), .pointer (some ⟨b2, 0, none⟩)]] w (IdxEnds (oth L g) l w) := by
  go_enter Try.func35, Try.ntmps35
  go_wp2
  go_loopw [8] (IdxRelW (oth L g) l w d L A c g b1 b2) (fun i _ => l.length - (intOf i).toNat)
  case atStart => exact ⟨0, rfl, Nat.zero_le _, fun i h => absurd h (by omega), Below.refl _ _, h⟩
  case round =>
    obtain ⟨k, rfl, hk, hno, hb, hE⟩ := hrel
    have HNO := Lib.hid hno
    clear hno h
    by_cases hlt : k < l.length
    · obtain ⟨bb, off, rfl, _, a0, a1, a2⟩ := (hr.below hb).wrt hlt
      have kL : (0 : Int) ≤ (k : Int) := by omega
      have kU : (k : Int) < (l.length : Int) := by omega
      have HX : Hid (gw l k = gw l k) := Lib.hid rfl
      have HC := Lib.hid (oth_any wr d L A c g b1 b2 (gw l k) hE)
      obtain ⟨x, hx⟩ : ∃ x, x = gw l k := ⟨_, rfl⟩
      rw [← hx] at a0 a1 a2 HC
      have Hx := Lib.hid hx
      clear hx HX hr
      cases hp : oth L g x with
      | true =>
        rw [hp] at HC
        have HP := Lib.hid hp
        clear hp
        go_wp2_with fail
        refine HC.out.mono ?_
        rintro e w1 ⟨rfl, hb1⟩
        go_wp2
        go_ret
        exact ⟨k, rfl, .inr ⟨k, hlt, rfl, by rw [← Hx.out]; exact HP.out, HNO.out⟩, hb.trans (hb1.mono hb.size)⟩
      | false =>
        rw [hp] at HC
        have HP := Lib.hid hp
        clear hp
        go_wp2_with fail
        refine HC.out.mono ?_
        rintro e w1 ⟨rfl, hb1⟩
        have hE1 := hE.below hb1
        go_wp2
        go_roundw
        case rel => exact ⟨k + 1, by go_num, by omega, fun i hi => by
            by_cases e : i = k
            · rw [e, ← Hx.out]; exact HP.out
            · exact HNO.out i (by omega), hb.trans (hb1.mono hb.size), hE1⟩
        case measure => simp [intOf]; omega
    · go_wp2
      go_ret
      exact ⟨-1, rfl, .inl ⟨rfl, fun i hi => HNO.out i (by omega)⟩, hb⟩
end Go.Proofs.Ythenjpenfemmbaa
