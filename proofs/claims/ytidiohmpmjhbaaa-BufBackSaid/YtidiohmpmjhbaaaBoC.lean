/- BufOne: the plain law of its loop. -/
import Derived.Test.YtidiohmpmjhbaaaBoA
namespace Go.Proofs.Ytidiohmpmjhbaaa
open Go.RowKit

/-- what was read so far was written, byte for byte -/
structure InvO (d : List UInt8) (R : Rd) (W : Wr) : Prop where
  bs : R.bs = d
  most : W.most = d.length
  over : W.over = false
  xs : W.xs = d.take R.at_
  le : R.at_ ≤ d.length
theorem InvO.same {d : List UInt8} {R R1 : Rd} {W : Wr} (h : InvO d R W) (hb : R1.bs = R.bs) (ha : R1.at_ = R.at_) : InvO d R1 W :=
  ⟨hb.trans h.bs, h.most, h.over, by rw [ha]; exact h.xs, by rw [ha]; exact h.le⟩
theorem InvO.on {d : List UInt8} {R : Rd} {W : Wr} (h : InvO d R W) (k : Nat) (hk : R.at_ + k ≤ d.length) (e : Int) (ys : List UInt8) (hy : ys = R.rest.take k) : InvO d ⟨R.bs, R.at_ + k, e⟩ (W.put ys) := by
  obtain ⟨hbs, hm, ho, hx, hl⟩ := h
  have hyl : ys.length = k := by
    rw [hy, List.length_take, rest_len, hbs]
    omega
  have hxl : W.xs.length = R.at_ := by rw [hx, List.length_take]; omega
  have hp : W.put ys = { W with xs := W.xs ++ ys } := by
    unfold Wr.put
    rw [if_neg (by simp [ho]), if_neg (by rw [hm, hxl, hyl]; omega)]
  rw [hp]
  refine ⟨hbs, hm, ho, ?_, hk⟩
  simp only
  rw [hx, hy]
  unfold Rd.rest
  rw [hbs, List.take_add]
theorem byte_bad {R : Rd} (h : R.byte.2.e ≠ 0) : R.byte.2.bs = R.bs ∧ R.byte.2.at_ = R.at_ := by
  unfold Rd.byte at h ⊢
  split at h
  · rename_i he
    rw [if_pos he]
    simp only [step_e] at h ⊢
    by_cases h0 : byteE R.rest = 0
    · rw [if_pos h0] at h
      exact absurd he h
    · unfold Rd.step
      rw [if_neg h0]
      exact ⟨rfl, rfl⟩
  · rename_i he
    rw [if_neg he]
    exact ⟨rfl, rfl⟩
theorem InvO.byte {d : List UInt8} {R : Rd} {W : Wr} (h : InvO d R W) (he : R.byte.2.e = 0) : InvO d R.byte.2 (W.put [UInt8.ofNat R.byte.1]) := by
  unfold Rd.byte at he ⊢
  split at he
  · rename_i h0
    rw [if_pos h0]
    simp only [step_e] at he ⊢
    have h1 : byteE R.rest = 0 := by
      rcases Decidable.em (byteE R.rest = 0) with h1 | h1
      · exact h1
      · rw [if_neg h1] at he
        exact he
    have h2 : R.rest.length ≠ 0 := by
      intro h2
      unfold byteE at h1
      rw [if_pos h2] at h1
      cases h1
    have h3 : byteK R.rest = 1 := by unfold byteK; rw [if_neg h2]
    have h4 : [UInt8.ofNat (byteV R.rest)] = R.rest.take 1 := by
      cases hr : R.rest with
      | nil => rw [hr] at h2; simp at h2
      | cons x r => simp [byteV]
    have hl := rest_len R
    rw [h.bs] at hl
    have := h.on 1 (by omega) R.e _ h4
    unfold Rd.step
    rw [h1, h3, if_pos rfl]
    exact this
  · rename_i h0
    exact absurd he h0
theorem uint_bad {R : Rd} (h : R.uint.2.e ≠ 0) : R.uint.2.bs = R.bs ∧ R.uint.2.at_ = R.at_ := by
  unfold Rd.uint at h ⊢
  split at h
  · rename_i he
    rw [if_pos he]
    simp only [step_e] at h ⊢
    by_cases h0 : (num R.rest).2.2 = 0
    · rw [if_pos h0] at h
      exact absurd he h
    · unfold Rd.step
      rw [if_neg h0]
      exact ⟨rfl, rfl⟩
  · rename_i he
    rw [if_neg he]
    exact ⟨rfl, rfl⟩
theorem InvO.uint {d : List UInt8} {R : Rd} {W : Wr} (h : InvO d R W) (he : R.uint.2.e = 0) : InvO d R.uint.2 (W.put (vb R.uint.1)) := by
  obtain ⟨h0, h1, h2⟩ := uint_ok R he
  have h3 : num R.rest = ((num R.rest).1, (num R.rest).2.1, 0) := by rw [← h1]
  obtain ⟨h4, _⟩ := num_vb h3
  have hl := rest_len R
  have hk := num_le R.rest
  have hle := h.le
  rw [h.bs] at hl
  rw [h2]
  exact h.on _ (by omega) R.e _ h4
theorem InvO.int {d : List UInt8} {R : Rd} {W : Wr} (h : InvO d R W) (he : R.int.2.e = 0) : InvO d R.int.2 (W.put (vb (zig R.int.1))) := by
  have := h.uint (W := W) he
  show InvO d R.uint.2 (W.put (vb (zig (zag R.uint.1))))
  rw [zig_zag]
  exact this
theorem text_bad' {R : Rd} {m : Int} (h : (R.text m).2.e ≠ 0) : (R.text m).2.bs = R.bs ∧ (R.text m).2.at_ = R.at_ := by
  unfold Rd.text at h ⊢
  split at h
  · rename_i he
    rw [if_pos he]
    simp only [step_e] at h ⊢
    by_cases h0 : textE m R.rest = 0
    · rw [if_pos h0] at h
      exact absurd he h
    · unfold Rd.step
      rw [if_neg h0]
      exact ⟨rfl, rfl⟩
  · rename_i he
    rw [if_neg he]
    exact ⟨rfl, rfl⟩
theorem InvO.text {d : List UInt8} {R : Rd} {W : Wr} (h : InvO d R W) (m : Int) (he : (R.text m).2.e = 0) : InvO d (R.text m).2 (W.text ⟨(R.text m).1.toArray⟩) := by
  unfold Rd.text at he ⊢
  split at he
  · rename_i h0
    rw [if_pos h0]
    simp only [step_e] at he ⊢
    have h1 : textE m R.rest = 0 := by
      rcases Decidable.em (textE m R.rest = 0) with h1 | h1
      · exact h1
      · rw [if_neg h1] at he
        exact he
    obtain ⟨h2, _, h3⟩ := text_ok h1
    have hk : textK m R.rest = (num R.rest).2.1 + (num R.rest).1 := by unfold textK; rw [if_pos h1]
    have hs : textS m R.rest = (R.rest.drop (num R.rest).2.1).take (num R.rest).1 := by unfold textS; rw [if_pos h1]
    obtain ⟨h4, _⟩ := num_vb (show num R.rest = ((num R.rest).1, (num R.rest).2.1, 0) by rw [← h2])
    have hl := rest_len R
    have hkl := num_le R.rest
    have hle := h.le
    rw [h.bs] at hl
    rw [hs, hk, h1]
    generalize (num R.rest).1 = n at *
    generalize (num R.rest).2.1 = k at *
    have hsz : (ByteArray.mk ((R.rest.drop k).take n).toArray).size = n := by
      show ((R.rest.drop k).take n).toArray.size = n
      simp
      omega
    have ht : tb (ByteArray.mk ((R.rest.drop k).take n).toArray) = R.rest.take (k + n) := by
      unfold tb sb
      rw [hsz, h4, List.take_add]
    have hw : W.text (ByteArray.mk ((R.rest.drop k).take n).toArray) = W.put (R.rest.take (k + n)) := by
      unfold Wr.text
      rw [hsz, if_neg (by rw [h.most]; omega), ht]
    rw [hw]
    unfold Rd.step
    rw [if_pos rfl]
    exact h.on _ (by omega) R.e _ rfl
  · rename_i h0
    exact absurd he h0
end Go.Proofs.Ytidiohmpmjhbaaa
