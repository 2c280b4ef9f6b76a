/- Layer 12: New of the program and of the reference. -/
import Derived.Test.YthenjpenfemmbaaDrB
import Derived.Deep.RegionHeld3
import Derived.WalkLawsBesides
namespace Go.Proofs.Ythenjpenfemmbaa
open Go.RowKit
set_option linter.unusedSimpArgs false
set_option linter.unusedVariables false

/-- block d is the program's directory of L -/
structure IsD (w : World) (d : Nat) (L : List ByteArray) (A : Option Addr) (c : Nat) : Prop where
  blk : Blk w d 58 #[.slice A L.length c]
  row : Reads w w.heap.size 1 A L.length (sc L)
theorem IsD.below {w w' : World} {d c : Nat} {L : List ByteArray} {A : Option Addr} (h : IsD w d L A c) (hb : Below w.heap.size w w') : IsD w' d L A c :=
  ⟨h.blk.below hb h.blk.lt, (h.row.below hb).more hb.size⟩
theorem IsD.drewN {w : World} {d c : Nat} {L : List ByteArray} {A : Option Addr} (h : IsD w d L A c) (n : Nat) : IsD (w.drewN n) d L A c := ⟨h.blk.drewN n, h.row.drewN n⟩
/-- New's answer -/
def NewEnds (w : World) (L : List ByteArray) (e : Ending) (w' : World) : Prop :=
  Below w.heap.size w w' ∧ ((newE L ≠ 0 ∧ e = .returned (.tuple #[.pointer none, .int .i64 (newE L)])) ∨ (newE L = 0 ∧ ∃ d A c, e = .returned (.tuple #[.pointer (some ⟨d, 0, none⟩), .int .i64 0]) ∧ IsD w' d L A c ∧ w.heap.size ≤ d ∧ ∀ k ∈ ob A, w.heap.size ≤ k))
theorem NewEnds.bad {w : World} {L : List ByteArray} {x : Int} (h : newE L = x) (hx : x ≠ 0) (n : Nat) : NewEnds w L (.returned (.tuple #[.pointer none, .int .i64 x])) (w.drewN n) :=
  ⟨⟨rfl, rfl, rfl, Nat.le_refl _, fun _ _ => rfl⟩, .inl ⟨by rw [h]; exact hx, by rw [h]⟩⟩

def NewRel (L : List ByteArray) (w : World) (p q i : Value) (wr : World) : Prop :=
  ∃ k : Nat, i = .int .i64 k ∧ p = .pointer none ∧ q = .int .i64 0 ∧ k ≤ L.length ∧ newE L = scanI L (L.length - k) k ∧ wr = w
theorem cell_add0 {w : World} {ad : Addr} {v : Option Value} (h : w.cell? (ad.add 0) = v) : w.cell? ad = v := by
  unfold Addr.add at h
  simpa using h
set_option maxHeartbeats 4000000 in
set_option maxRecDepth 100000 in
theorem dnew_any (A : Option Addr) (c B : Nat) (L : List ByteArray) (w : World) (hr : Reads w B 1 A L.length (sc L)) (hB : B ≤ w.heap.size) (hl : L.length ≤ 8796093022208) :
    Calls Try.prog 7 #[.slice A L.length c] w (NewEnds w L) := by
  by_cases h8 : 8 ≤ L.length
  · have hE : newE L = 9 := by unfold newE; rw [if_pos h8]
    have H := Lib.hid hE
    clear hE
    go_enter Try.func7, Try.ntmps7
    go_wp2
    go_ret2
    exact NewEnds.bad H.out (by decide) 0
  · have hE : newE L = scanI L L.length 0 := by unfold newE; rw [if_neg h8]
    have H := Lib.hid hE
    clear hE
    go_enter Try.func7, Try.ntmps7
    go_wp2
    go_loopw [2, 3, 11] (NewRel L w) (fun _ _ i _ => L.length - (intOf i).toNat)
    case atStart => exact ⟨0, rfl, rfl, rfl, Nat.zero_le _, by rw [H.out]; rfl, rfl⟩
    case round =>
      obtain ⟨k, rfl, rfl, rfl, hk, hs, rfl⟩ := hrel
      clear H
      by_cases hlt : k < L.length
      · obtain ⟨ad, rfl, hadB, hcell⟩ := hr.text hlt
        obtain ⟨f, hf⟩ : ∃ f, L.length - k = f + 1 := ⟨L.length - k - 1, by omega⟩
        rw [hf] at hs
        cases hk0 : keyB (gx L k) with
        | false =>
          have hE := Lib.hid (hs.trans (scan_bad (bad_key hk0) (by decide)))
          have HK := key_false (gx L k) wr hk0
          clear hs hk0 hf
          go_wp2_with (go_at_call 25; refine HK.mono ?_; rintro e w' ⟨rfl, rfl⟩)
          go_ret2
          exact NewEnds.bad hE.out (by decide) 0
        | true =>
          have HK := key_true (gx L k) wr hk0
          by_cases h0 : k = 0
          · have hE := Lib.hid (hs.trans (scan_on (bad_not hk0 (fun h => absurd h (by omega)))))
            have hf1 := Lib.hid (show f = L.length - (k + 1) by omega)
            have hw3 : decide (0 < (k : Int)) = false := decide_eq_false (by omega)
            have hw4 : decide (0 < k) = false := decide_eq_false (by omega)
            have hw5 : ¬ (0 < k) := by omega
            clear hs hk0 hf h0
            go_wp2_with (go_at_call 25; refine HK.mono ?_; rintro e w' ⟨rfl, rfl⟩)
            go_roundw
            case rel => exact ⟨k + 1, by go_num, rfl, rfl, by omega, by rw [hE.out, hf1.out], rfl⟩
            case measure => simp [intOf]; omega
          · obtain ⟨ad', e', _, hcell'⟩ := hr.text (k := k - 1) (by omega)
            cases e'
            have hw0 : 1 ≤ k := by omega
            have hw3 : decide (0 < (k : Int)) = true := decide_eq_true (by omega)
            cases hb : bl (gx L (k - 1)) (gx L k) with
            | true =>
              have hE := Lib.hid (hs.trans (scan_on (bad_not hk0 (fun _ => hb))))
              have hf1 := Lib.hid (show f = L.length - (k + 1) by omega)
              have hb' : Op.bytesLess (gx L (k - 1)).toList (gx L k).toList = true := hb
              clear hs hk0 hf hb
              go_wp2_with (go_at_call 25; refine HK.mono ?_; rintro e w' ⟨rfl, rfl⟩)
              go_roundw
              case rel => exact ⟨k + 1, by go_num, rfl, rfl, by omega, by rw [hE.out, hf1.out], rfl⟩
              case measure => simp [intOf]; omega
            | false =>
              have hE := Lib.hid (hs.trans (scan_bad (bad_range hk0 (by omega) hb) (by decide)))
              have hb' : Op.bytesLess (gx L (k - 1)).toList (gx L k).toList = false := hb
              clear hs hk0 hf hb
              go_wp2_with (go_at_call 25; refine HK.mono ?_; rintro e w' ⟨rfl, rfl⟩)
              go_ret2
              exact NewEnds.bad hE.out (by decide) 0
      · have hE := Lib.hid (show newE L = 0 by rw [hs, show L.length - k = 0 by omega]; rfl)
        clear hs
        go_wp2_with (go_at_call 26; refine (clone_any A c B L wr hr hB hl).mono ?_; rintro e w1 ⟨A1, c1, rfl, hr1, hb1, hf1⟩)
        go_ret2
        exact ⟨hb1.alloc hb1.size _, .inr ⟨hE.out, w1.heap.size, A1, c1, rfl, ⟨Blk.new _ _ _, (hr1.alloc (Nat.le_refl _) _).more (by simp)⟩, hb1.size, hf1⟩⟩
end Go.Proofs.Ythenjpenfemmbaa
