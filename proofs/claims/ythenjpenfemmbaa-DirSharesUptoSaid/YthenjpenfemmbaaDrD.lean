/- Layer 12: the reference's New. -/
import Derived.Test.YthenjpenfemmbaaDrC
namespace Go.Proofs.Ythenjpenfemmbaa
open Go.RowKit
set_option linter.unusedSimpArgs false
set_option linter.unusedVariables false

/-- the reference's New's answer -/
def RNewEnds (w : World) (L : List ByteArray) (e : Ending) (w' : World) : Prop :=
  Below w.heap.size w w' ∧ ((newE L ≠ 0 ∧ e = .returned (.tuple #[.agg #[.slice none 0 0], .int .i64 (newE L)])) ∨ (newE L = 0 ∧ ∃ A c, e = .returned (.tuple #[.agg #[.slice A L.length c], .int .i64 0]) ∧ Reads w' w'.heap.size 1 A L.length (sc L) ∧ ∀ k ∈ ob A, w.heap.size ≤ k))
theorem RNewEnds.bad {w w' : World} {L : List ByteArray} {x : Int} (h : newE L = x) (hx : x ≠ 0) (hb : Below w.heap.size w w') : RNewEnds w L (.returned (.tuple #[.agg #[.slice none 0 0], .int .i64 x])) w' :=
  ⟨hb, .inl ⟨by rw [h]; exact hx, by rw [h]⟩⟩
def RNewRel (L : List ByteArray) (w : World) (b0 : Nat) (q i : Value) (wr : World) : Prop :=
  ∃ k : Nat, i = .int .i64 k ∧ q = .int .i64 0 ∧ k ≤ L.length ∧ newE L = scanI L (L.length - k) k ∧ Blk wr b0 28 #[.slice none 0 0] ∧ Below w.heap.size w wr
theorem below_drewN {B : Nat} {w w1 : World} (h : Below B w w1) (n : Nat) : Below B w (w1.drewN n) := ⟨h.os, h.tape, h.output, h.size, h.block⟩
set_option maxHeartbeats 4000000 in
set_option maxRecDepth 100000 in
theorem rnew_any (A : Option Addr) (c B : Nat) (L : List ByteArray) (w : World) (hr : Reads w B 1 A L.length (sc L)) (hB : B ≤ w.heap.size) (hl : L.length ≤ 8796093022208) :
    Calls Try.prog 8 #[.slice A L.length c] w (RNewEnds w L) := by
  obtain ⟨i0, hi0, hz0, hz1, hz2⟩ := info_parts Try.info9
  by_cases h8 : 8 ≤ L.length
  · have hE : newE L = 9 := by unfold newE; rw [if_pos h8]
    have H := Lib.hid hE
    clear hE
    go_enter Try.func8, Try.ntmps8
    go_wp2
    exact bodyPost_ret (v := .tuple #[.agg #[.slice none 0 0], .int .i64 9]) (by simp [results, Try.results8, go_sem]) rfl (RNewEnds.bad H.out (by decide) ((Below.refl _ _).alloc (Nat.le_refl _) _))
  · have hE : newE L = scanI L L.length 0 := by unfold newE; rw [if_neg h8]
    have H := Lib.hid hE
    clear hE
    have hb0 : Below w.heap.size w (w.alloc (.cells #[.slice none 0 0] 28)) := (Below.refl _ _).alloc (Nat.le_refl _) _
    have hx0 : Blk (w.alloc (.cells #[.slice none 0 0] 28)) w.heap.size 28 #[.slice none 0 0] := Blk.new _ _ _
    have hbb : w.heap.size ≤ w.heap.size := Nat.le_refl _
    go_enter Try.func8, Try.ntmps8
    go_wp2
    obtain ⟨b0, hb00⟩ : ∃ b0, b0 = w.heap.size := ⟨_, rfl⟩
    have hble : w.heap.size ≤ b0 := by omega
    rw [← hb00] at hx0 ⊢
    clear hb00 hbb
    go_loopw [3, 4] (RNewRel L w b0) (fun _ i _ => L.length - (intOf i).toNat)
    case atStart => exact ⟨0, rfl, rfl, Nat.zero_le _, by rw [H.out]; rfl, hx0, hb0⟩
    case round =>
      obtain ⟨k, rfl, rfl, hk, hs, hx, hb⟩ := hrel
      clear H hx0 hb0
      have c0 := hx.cell 0
      have f0 := hx.frozen 0
      simp only [List.getElem?_toArray, List.getElem?_cons_zero] at c0
      have hsz := hx.lt
      by_cases hlt : k < L.length
      · obtain ⟨ad, rfl, hadB, hcell⟩ := (hr.below (hb.mono hB)).text hlt
        obtain ⟨f, hf⟩ : ∃ f, L.length - k = f + 1 := ⟨L.length - k - 1, by omega⟩
        rw [hf] at hs
        cases hk0 : keyB (gx L k) with
        | false =>
          have hE := Lib.hid (hs.trans (scan_bad (bad_key hk0) (by decide)))
          have HK := rkey_false (gx L k) wr hk0
          clear hs hk0 hf
          go_wp2_with (go_at_call 17; refine HK.mono ?_; rintro e w' ⟨rfl, rfl⟩)
          exact bodyPost_ret (v := .tuple #[.agg #[.slice none 0 0], .int .i64 120]) (by simp [results, Try.results8, go_sem, c0]) rfl (RNewEnds.bad hE.out (by decide) (hb.setCell hble _))
        | true =>
          have HK := rkey_true (gx L k) wr hk0
          by_cases h0 : k = 0
          · have hE := Lib.hid (hs.trans (scan_on (bad_not hk0 (fun h => absurd h (by omega)))))
            have hf1 := Lib.hid (show f = L.length - (k + 1) by omega)
            have hw3 : decide (0 < (k : Int)) = false := decide_eq_false (by omega)
            have hw4 : decide (0 < k) = false := decide_eq_false (by omega)
            have hw5 : ¬ (0 < k) := by omega
            clear hs hk0 hf h0
            go_wp2_with (go_at_call 17; refine HK.mono ?_; rintro e w' ⟨rfl, rfl⟩)
            go_quiet (fail)
            go_wp2
            go_roundw
            case rel => exact ⟨k + 1, by go_num, rfl, by omega, by rw [hE.out, hf1.out], hx.drewN _, below_drewN hb _⟩
            case measure => simp [intOf]; omega
          · obtain ⟨ad', e', _, hcell'⟩ := (hr.below (hb.mono hB)).text (k := k - 1) (by omega)
            cases e'
            have hw0 : 1 ≤ k := by omega
            have hw3 : decide (0 < (k : Int)) = true := decide_eq_true (by omega)
            have hw4 : decide (0 < k) = true := decide_eq_true (by omega)
            have hw5 : 0 < k := by omega
            have hw6 : IntKind.i64.wrap ((k : Int) - 1) = (k : Int) - 1 := IntWalk.i64_in _ (by omega)
            have hw7 : (0 : Int) ≤ (k : Int) - 1 := by omega
            have hw8 : ((k : Int) - 1).toNat = k - 1 := by omega
            have hw9 : (k : Int) - 1 < (L.length : Int) := by omega
            cases hb0 : bl (gx L (k - 1)) (gx L k) with
            | true =>
              have hE := Lib.hid (hs.trans (scan_on (bad_not hk0 (fun _ => hb0))))
              have hf1 := Lib.hid (show f = L.length - (k + 1) by omega)
              have hb' : Op.bytesLess (gx L (k - 1)).toList (gx L k).toList = true := hb0
              clear hs hk0 hf hb0
              go_wp2_with (go_at_call 17; refine HK.mono ?_; rintro e w' ⟨rfl, rfl⟩)
              go_quiet (fail)
              go_wp2
              go_roundw
              case rel => exact ⟨k + 1, by go_num, rfl, by omega, by rw [hE.out, hf1.out], hx.drewN _, below_drewN hb _⟩
              case measure => simp [intOf]; omega
            | false =>
              have hE := Lib.hid (hs.trans (scan_bad (bad_range hk0 (by omega) hb0) (by decide)))
              have hb' : Op.bytesLess (gx L (k - 1)).toList (gx L k).toList = false := hb0
              clear hs hk0 hf hb0
              go_wp2_with (go_at_call 17; refine HK.mono ?_; rintro e w' ⟨rfl, rfl⟩)
              go_quiet (fail)
              go_wp2
              exact bodyPost_ret (v := .tuple #[.agg #[.slice none 0 0], .int .i64 2]) (by simp [results, Try.results8, go_sem, c0]) rfl (RNewEnds.bad hE.out (by decide) ((below_drewN hb _).setCell hble _))
      · have hE := Lib.hid (show newE L = 0 by rw [hs, show L.length - k = 0 by omega]; rfl)
        clear hs
        have hr1 := (hr.below (hb.mono hB)).alloc (Nat.le_trans hB hb.size) (.cells #[] 9)
        have hx1 := hx.alloc (.cells #[] 9)
        go_wp2_with (at_builtin; refine wpList_app rfl (.tmp 37) (.tmp 38) 22 22 rfl 9 i0 _ 1 16 Try.underlying22 hi0 hz0 hz1 hz2 rfl (by omega) (some ⟨wr.heap.size, 0, none⟩) 0 0 [] rfl (World.ownsRow_made wr #[] 0 (Nat.zero_le _) (by simp [maxLen]) rfl) _ L.length (sc L) rfl (Src.ofReads Try.underlying22 hr1 (sc_one _)) (by simp only [maxLen]; omega) (by omega) ?_; intro A1 k1 w1 hown1 hk1 hf1; rw [Nat.zero_add, List.nil_append] at hown1; have hx2 := hk1.blk hx1 (by simp [ob]; omega); have c2 := hx2.cell 0; have f2 := hx2.frozen 0; simp only [List.getElem?_toArray, List.getElem?_cons_zero] at c2)
        have hnew : ∀ x ∈ ob A1, wr.heap.size ≤ x := fun x hx => (hf1 x hx).elim (fun h => by simp [ob] at h; omega) (fun h => by simp at h; omega)
        have hbel := hb.trans (hk1.of_alloc.below hb.size (by simp [ob]; exact hb.size))
        refine bodyPost_ret (v := .tuple #[.agg #[.slice A1 L.length k1], .int .i64 0]) (by simp [results, Try.results8, go_sem, c2]) rfl ⟨hbel.setCell hble _, .inr ⟨hE.out, A1, k1, rfl, ?_, fun x hx => Nat.le_trans hb.size (hnew x hx)⟩⟩
        have hown2 := own_far (p := ⟨b0, 0, none⟩) hown1 (fun g hg he => by have := hnew g (ownBlock_mem.1 hg); simp at he; omega) (.slice A1 L.length k1)
        exact Reads.of_own hown2
end Go.Proofs.Ythenjpenfemmbaa
