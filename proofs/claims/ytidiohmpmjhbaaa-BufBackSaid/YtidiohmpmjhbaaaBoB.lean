/- The law's own trial of both: works. -/
import Derived.Test.YtidiohmpmjhbaaaBoA
namespace Go.Proofs.Ytidiohmpmjhbaaa
open Go.RowKit

theorem reads_blk {w : World} {g B : Nat} {t : TypeId} {cs : Array Value} (h : Blk w g t cs) (hB : g < B) : Reads w B 1 (some ⟨g, 0, none⟩) cs.size cs.toList :=
  ⟨by simp, fun _ => ⟨_, rfl, hB, fun j u hj => by
    rw [Addr.add_lit, Nat.zero_add]
    exact (h.cell j).trans (by simpa using hj)⟩⟩
theorem vb_300 : vb 300 = [172, 2] := by rw [vb_big (by decide), vb_small (by decide)]; decide
theorem w_1 : (Wr.new 10).put (vb 300) = ⟨10, [172, 2], false⟩ := by rw [vb_300]; rfl
theorem w_2 : (⟨10, [172, 2], false⟩ : Wr).put (vb (zig (-1))) = ⟨10, [172, 2, 1], false⟩ := by rw [show zig (-1) = 1 from rfl, vb_small (by decide)]; rfl
theorem w_3 : (⟨10, [172, 2, 1], false⟩ : Wr).text ⟨#[97, 98]⟩ = ⟨10, [172, 2, 1, 2, 97, 98], false⟩ := by
  have e : tb ⟨#[97, 98]⟩ = [2, 97, 98] := by
    unfold tb
    rw [show (ByteArray.mk #[97, 98]).size = 2 from rfl, vb_small (by decide)]
    rfl
  unfold Wr.text
  rw [e]
  rfl
theorem r_1 : (⟨[172, 2, 1], 0, 0⟩ : Rd).uint = (300, ⟨[172, 2, 1], 2, 0⟩) := rfl
theorem r_2 : (⟨[172, 2, 1], 2, 0⟩ : Rd).int = (-1, ⟨[172, 2, 1], 3, 0⟩) := rfl
theorem r_3 : (⟨[172, 2, 1], 3, 0⟩ : Rd).fin = 0 := rfl
set_option maxHeartbeats 4000000 in
set_option maxRecDepth 100000 in
theorem works_any (w : World) : Calls Try.prog 18 #[] w fun e w' => e = .returned (.bool true) ∧ Below w.heap.size w w' := by
  have hbw : Blk (w.alloc (.cells #[.slice none 0 0, .int .i64 (max 0 10), .bool false] 63)) w.heap.size 63 #[.slice none 0 0, .int .i64 (max 0 10), .bool false] := Blk.new _ _ _
  have hW : IsW (w.alloc (.cells #[.slice none 0 0, .int .i64 (max 0 10), .bool false] 63)) w.heap.size (Wr.new 10) none 0 := ⟨hbw, World.ownsRow_nil _ _ _ _, by decide, by decide⟩
  have hb0 := below_alloc w (.cells #[.slice none 0 0, .int .i64 (max 0 10), .bool false] 63)
  go_enter Try.func18, Try.ntmps18
  go_wp2_with fail
  refine (new_any 10 w).mono ?_
  rintro e w1 ⟨rfl, rfl⟩
  generalize w.alloc (.cells #[.slice none 0 0, .int .i64 (max 0 10), .bool false] 63) = w1 at *
  have hW2 := hW.below (below_alloc w1 (.cells #[.int .u8 172, .int .u8 2, .int .u8 1] 5))
  have hb1 := (hb0.alloc hb0.size (.cells #[.int .u8 172, .int .u8 2, .int .u8 1] 5))
  have hr := reads_blk (Blk.new w1 5 #[.int .u8 172, .int .u8 2, .int .u8 1]) (B := (w1.alloc (.cells #[.int .u8 172, .int .u8 2, .int .u8 1] 5)).heap.size) (by simp)
  go_wp2_with fail
  refine (rnew_any (some ⟨w1.heap.size, 0, none⟩) 3 _ [172, 2, 1] (w1.alloc (.cells #[.int .u8 172, .int .u8 2, .int .u8 1] 5)) hr (Nat.le_refl _) (by decide)).mono ?_
  rintro e w2 ⟨b, A, c, rfl, hR, hb2, hf⟩
  have hb12 := hb1.trans (hb2.mono hb1.size)
  have hW3 := hW2.below hb2
  have hRlt := hR.lt
  have hbs := hb1.size
  have hd0 : ∀ k ∈ b :: ob A, k ∉ w.heap.size :: ob none := fun k hk hm => by
    have h1 := hf k hk
    rw [World.size_alloc] at h1
    have h2 := hbw.lt
    simp [ob] at hm
    omega
  go_wp2_with fail
  have HC := wuint_any w.heap.size (Wr.new 10) none 0 300 w2 hW3 (by decide) (by decide)
  rw [w_1] at HC
  refine HC.mono ?_
  clear HC
  rintro e w3 ⟨rfl, A3, c3, hW4, hM3⟩
  have hR3 := hR.kept hM3.kept hd0
  have hd3 := hM3.apart hRlt hd0
  go_wp2_with fail
  have HC := wint_any w.heap.size _ A3 c3 (-1) w3 hW4 (by decide) (by decide) (by simp)
  rw [w_2] at HC
  refine HC.mono ?_
  clear HC
  rintro e w4 ⟨rfl, A4, c4, hW5, hM4⟩
  have hR4 := hR3.kept hM4.kept hd3
  have hd4 := hM4.apart hR3.lt hd3
  go_wp2_with fail
  have HC := wtext_any w.heap.size _ A4 c4 ⟨#[97, 98]⟩ w4 hW5 (by decide)
  rw [w_3] at HC
  refine HC.mono ?_
  clear HC
  rintro e w5 ⟨rfl, A5, c5, hW6, hM5⟩
  have hR5 := hR4.kept hM5.kept hd4
  have hMM := (hM3.trans hM4).trans hM5
  have hb5 : Below w.heap.size w w5 := hb12.trans (hMM.kept.below hb12.size (by simp [ob]))
  clear hM3 hM4 hM5 hMM hd0 hd3 hd4 hRlt hR hR3 hR4 hW hW2 hW3 hW4 hW5
  go_wp2_with fail
  have HC : Calls Try.prog 10 #[.pointer (some ⟨w.heap.size, 0, none⟩)] w5 (Told w5 [172, 2, 1, 2, 97, 98] 0) := wbytes_any w.heap.size _ A5 c5 w5 hW6 (by simp)
  refine HC.mono ?_
  clear HC
  rintro e w6 ⟨A6, c6, rfl, hown, hb6, hf6⟩
  have hR6 := hR5.below hb6
  have hb56 := hb5.trans (hb6.mono hb5.size)
  have hr6 := reads_blk (Blk.new w6 5 #[.int .u8 172, .int .u8 2, .int .u8 1, .int .u8 2, .int .u8 97, .int .u8 98]) (B := w6.heap.size + 1) (by simp)
  have ho6 := (Reads.of_own hown).alloc (Nat.le_refl _) (.cells #[.int .u8 172, .int .u8 2, .int .u8 1, .int .u8 2, .int .u8 97, .int .u8 98] 5)
  have hR7 := hR6.below (below_alloc w6 (.cells #[.int .u8 172, .int .u8 2, .int .u8 1, .int .u8 2, .int .u8 97, .int .u8 98] 5))
  have hb7 := hb56.alloc hb56.size (.cells #[.int .u8 172, .int .u8 2, .int .u8 1, .int .u8 2, .int .u8 97, .int .u8 98] 5)
  go_wp2_with fail
  refine (same_yes _ _ _ _ _ _ _ _ [172, 2, 1, 2, 97, 98] (w6.alloc (.cells #[.int .u8 172, .int .u8 2, .int .u8 1, .int .u8 2, .int .u8 97, .int .u8 98] 5)) ho6 hr6).mono ?_
  rintro e w7 ⟨rfl, hw7⟩
  rw [hw7] at hR7 hb7
  clear hw7 hr6 ho6
  go_wp2_with fail
  have HC := ruint_any b _ A c w7 hR7
  rw [r_1] at HC
  refine HC.mono ?_
  clear HC
  rintro e w8 ⟨rfl, hR8, hk8⟩
  go_wp2_with fail
  refine (rat_any b _ A c w8 hR8).mono ?_
  rintro e w9 ⟨rfl, rfl⟩
  go_wp2_with fail
  have HC := rint_any b _ A c w8 hR8
  rw [r_2] at HC
  refine HC.mono ?_
  clear HC
  rintro e w9 ⟨rfl, hR9, hk9⟩
  go_wp2_with fail
  have HC := rend_any b _ A c w9 hR9
  rw [r_3] at HC
  refine HC.mono ?_
  clear HC
  rintro e w10 ⟨rfl, n, rfl⟩
  go_wp2
  go_ret
  have hge : w.heap.size ≤ b := by
    have h1 := hf b (by simp)
    rw [World.size_alloc] at h1
    have h2 := hbw.lt
    omega
  exact ⟨rfl, ((hb7.trans (hk8.below hb7.size (by simp; omega))).trans (hk9.below (Nat.le_trans hb7.size hk8.size) (by simp; omega))).trans ⟨rfl, rfl, rfl, Nat.le_refl _, fun _ _ => rfl⟩⟩
end Go.Proofs.Ytidiohmpmjhbaaa
