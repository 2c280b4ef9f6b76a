/- The law's own put, the calls that tell, and Raw. -/
import Derived.Test.YtidiohmpmjhbaaaBwC
namespace Go.Proofs.Ytidiohmpmjhbaaa
open Go.RowKit

theorem same_yes (A A' : Option Addr) (n n' c c' B B' : Nat) (xs : List UInt8) (w : World) (h1 : Reads w B 1 A n (bc xs)) (h2 : Reads w B' 1 A' n' (bc xs)) :
    Calls Try.prog 12 #[.slice A n c, .slice A' n' c'] w fun e w' => e = .returned (.bool true) ∧ w = w' :=
  (same_any A A' n n' c c' B B' xs xs w h1 h2).mono fun _ _ ⟨he, hw⟩ => ⟨by rw [he]; simp, hw⟩

set_option maxHeartbeats 2000000 in
set_option maxRecDepth 100000 in
theorem put_5 (bw c bv c' B : Nat) (A A' Ab : Option Addr) (cb : Nat) (W : Wr) (o : OpD) (w : World) (h : Pair w B bw A c bv A' c' W) (ho : o.Fine w B Ab) (hl : W.xs.length + o.size ≤ 1099511627776) (k0 : o.kind ≠ 0) (k1 : o.kind ≠ 1) (k2 : o.kind ≠ 2) (k3 : o.kind ≠ 3) (k4 : o.kind ≠ 4) :
    Calls Try.prog 9 #[.pointer (some ⟨bw, 0, none⟩), .pointer (some ⟨bv, 0, none⟩), .agg (opCells o Ab cb)] w (PutBoth w B bw A bv A' (W.step o)) := by
  have hW : W.step o = W := by unfold Wr.step; rw [if_neg k0, if_neg k1, if_neg k2, if_neg k3, if_neg k4]
  rw [hW]
  clear hW
  unfold OpD.size at hl
  obtain ⟨kd, n, i, s, bs, two⟩ := o
  obtain ⟨hn, hi1, hi2, hb⟩ := ho
  simp only at k0 k1 k2 k3 k4 hn hi1 hi2 hb hl
  simp only [opCells]
  have q0 : (kd == 0) = false := beq_eq_false_iff_ne.2 k0
  have q1 : (kd == 1) = false := beq_eq_false_iff_ne.2 k1
  have q2 : (kd == 2) = false := beq_eq_false_iff_ne.2 k2
  have q3 : (kd == 3) = false := beq_eq_false_iff_ne.2 k3
  have q4 : (kd == 4) = false := beq_eq_false_iff_ne.2 k4
  clear k0 k1 k2 k3 k4
  have hbel := below_alloc w (.cells #[.int .i64 kd, .int .u64 n, .int .i64 i, .string s, .slice Ab bs.length cb, .bool two] 32)
  have h0 := h.below hbel
  have hout : W.out.length ≤ 1099511627776 := by unfold Wr.out; split <;> (try simp) <;> omega
  go_enter Try.func9, Try.ntmps9
  go_wp2_with fail
  refine (wbytes_any bw W A c _ h0.isW (by omega)).mono ?_
  rintro e w1 ⟨Aa, ca, rfl, hownA, hb1, hfA⟩
  have h1 := h0.below hb1
  go_wp2_with fail
  refine (vbytes_any bv W A' c' _ h1.isV (by omega)).mono ?_
  rintro e w2 ⟨Ab2, cb2, rfl, hownB, hb2, hfB⟩
  have h2 := h1.below hb2
  have hownA2 := (Kept.of_below (S := []) hb2).own hownA (by simp)
  have hne : (W.err != W.err) = false := by simp
  go_wp2_with (go_at_call 12; refine (same_yes _ _ _ _ _ _ _ _ W.out _ (Reads.of_own hownA2) (Reads.of_own hownB)).mono ?_; rintro e w' ⟨rfl, rfl⟩)
  have hall : Below w.heap.size w w2 := hbel.trans ((hb1.mono (by simp)).trans (hb2.mono (by have := hb1.size; simp at this; omega)))
  obtain ⟨ww, hww⟩ : ∃ ww : World, ww = w2 := ⟨_, rfl⟩
  rw [← hww] at h2 ⊢ hownA2 hall
  clear hww
  go_loopw [13] (fun i wr => ∃ (k : Nat) (zs : List Value), i = .int .i64 k ∧ k ≤ W.out.length ∧ wr.ownsRow 0 5 1 (.slice Aa W.out.length ca) W.out.length zs ∧ Kept (ob Aa) ww wr) (fun i _ => W.out.length - (intOf i).toNat)
  case atStart => exact ⟨0, _, rfl, Nat.zero_le _, hownA2, Kept.refl _ _⟩
  case round =>
    obtain ⟨k, zs, rfl, hk, hown, hkp⟩ := hrel
    by_cases hlt : k < W.out.length
    · obtain ⟨g, cap, hv, _, hg⟩ := hown.form (by omega)
      injection hv with hA _ hc
      subst hA hc
      have hz : k < zs.length := by have := hown.1; omega
      have x1 := (hown.cellAt k (by omega)).trans (List.getElem?_eq_getElem hz)
      have x2 := hown.frozenAt k
      obtain ⟨hst, _⟩ := hown.stored k (.int .u8 77)
      go_wp2
      go_roundw
      case rel => exact ⟨k + 1, _, by go_num, by omega, hst, hkp.setCell _ (.inl (by simp [ob]))⟩
      case measure => simp [intOf]; omega
    · have hge : W.out.length ≤ k := by omega
      have hP := h2.kept hkp (fun x hx hm => by have := hfA x hm; have := h0.lt x hx; omega)
      have hc := hP.cells
      have hlen := hP.isW
      go_wp2
      go_quiet ((go_at_call 38; refine quiet_mine (len_any _ _ _ _ _ (hlen.kept (S := []) ((Kept.refl _ _).drewN _) (by simp)))))
      go_wp2
      go_ret
      have hb3 : Below w.heap.size w wr := hall.trans (hkp.below hall.size (fun x hx => by have := hfA x hx; simp at this; omega))
      exact ⟨rfl, _, _, _, _, hP.kept (S := []) ((Kept.refl _ _).drewN _) (by simp), ⟨(Kept.of_below hb3).drewN _, fun _ hx => .inl hx⟩⟩

theorem own_ge {w0 w1 : World} {g : Nat} {o o' : Obj} {A1 : Option Addr} (hf1 : ∀ k ∈ ob A1, k ∈ ob (some ⟨w0.heap.size, 0, none⟩) ∨ (w0.alloc o).heap.size ≤ k) (hf2 : ∀ k ∈ ob (some ⟨g, 0, none⟩), k ∈ ob A1 ∨ (w1.alloc o').heap.size ≤ k) (hb : Below w0.heap.size w0 w1) : w0.heap.size ≤ g := by
  have hs := hb.size
  rcases hf2 g (by simp [ob]) with h | h
  · rcases hf1 g h with h | h
    · simp [ob] at h
      omega
    · simp at h
      omega
  · simp at h
    omega
set_option maxHeartbeats 2000000 in
set_option maxRecDepth 100000 in
theorem put_4 (bw c bv c' B : Nat) (A A' Ab : Option Addr) (cb : Nat) (W : Wr) (o : OpD) (w : World) (h : Pair w B bw A c bv A' c' W) (ho : o.Fine w B Ab) (hl : W.xs.length + o.size ≤ 1099511627776) (hk : o.kind = 4) :
    Calls Try.prog 9 #[.pointer (some ⟨bw, 0, none⟩), .pointer (some ⟨bv, 0, none⟩), .agg (opCells o Ab cb)] w (PutBoth w B bw A bv A' (W.step o)) := by
  obtain ⟨i0, hi0, hz0, hz1, hz2⟩ := info_parts Try.info5
  have hW : W.step o = W.put o.b := by unfold Wr.step; rw [if_neg (by omega), if_neg (by omega), if_neg (by omega), if_neg (by omega), if_pos hk]
  rw [hW]
  clear hW
  unfold OpD.size at hl
  obtain ⟨kd, n, i, s, bs, two⟩ := o
  obtain ⟨hn, hi1, hi2, hb⟩ := ho
  simp only at hk hn hi1 hi2 hb hl
  subst hk
  simp only [opCells]
  have hbel := below_alloc w (.cells #[.int .i64 4, .int .u64 n, .int .i64 i, .string s, .slice Ab bs.length cb, .bool two] 32)
  have h0 := h.below hbel
  have hop := Blk.new w 32 #[.int .i64 4, .int .u64 n, .int .i64 i, .string s, .slice Ab bs.length cb, .bool two]
  generalize hw0 : w.alloc (.cells #[.int .i64 4, .int .u64 n, .int .i64 i, .string s, .slice Ab bs.length cb, .bool two] 32) = w0 at *
  have hB := h.le
  have hr0 : Reads w0 B 1 Ab bs.length (bc bs) := hb.below (hbel.mono hB)
  have x0 := hop.cell 0
  have x4 := hop.cell 4
  have x4a := fun o => (hop.alloc o).cell 4
  simp only [List.getElem?_toArray, List.getElem?_cons_zero, List.getElem?_cons_succ] at x0 x4 x4a
  go_enter Try.func9, Try.ntmps9
  have e7 := Lib.hid (bc_snoc bs 7 (by decide))
  go_wp2_with (first | (at_builtin; refine wpList_app rfl (.tmp 88) (.tmp 90) 30 30 rfl 5 i0 _ 1 1 Try.underlying30 hi0 hz0 hz1 hz2 rfl (by omega) (some ⟨w0.heap.size, 0, none⟩) 0 0 [] rfl (World.ownsRow_made w0 #[] 0 (Nat.zero_le _) (by simp [maxLen]) rfl) _ bs.length (bc bs) rfl (Src.ofReads Try.underlying30 (hr0.alloc (Nat.le_trans hB hbel.size) _) (bc_one _)) (by simp only [maxLen]; omega) (by omega) ?_; intro A1 k1 w1 hown1 hk1 hf1; rw [Nat.zero_add, List.nil_append] at hown1; have hb1 : Below w0.heap.size w0 w1 := hk1.of_alloc.below (Nat.le_refl _) (by simp [ob])) | (at_builtin; refine wpList_app rfl (.tmp 91) (.tmp 92) 30 30 rfl 5 i0 _ 1 1 Try.underlying30 hi0 hz0 hz1 hz2 rfl (by omega) A1 bs.length k1 (bc bs) rfl (hown1.alloc _) _ 1 _ rfl (Src.one1 Try.underlying30 _ _ rfl) (by simp only [maxLen]; omega) (by omega) ?_; intro A2 k2 w2 hown2 hk2 hf2; rw [show [Value.int IntKind.u8 7] = [Value.int IntKind.u8 ((7 : Nat) : Int)] from rfl, e7.out] at hown2; obtain ⟨hcap, _⟩ := own_cap hown2; obtain ⟨g, cap, hv, _, hg⟩ := hown2.form (by omega); injection hv with hA _ hc; subst hA hc; have hg2 : w0.heap.size ≤ g := own_ge hf1 hf2 hb1; have hb2 : Below w0.heap.size w0 w2 := hb1.trans (hk2.of_alloc.below hb1.size (fun k hk => (hf1 k hk).elim (fun h => by simp [ob] at h; omega) (fun h => by simp at h; omega))); have x5 := (hb2.cell (p := ⟨w.heap.size, 4, none⟩) hop.lt).trans x4))
  have hP2 := h0.below hb2
  have hrb2 := hr0.below (hb2.mono (Nat.le_trans hB hbel.size))
  have hgf : ∀ k ∈ foot bw A bv A', k ≠ g := fun k hk he => by have := h0.lt k hk; omega
  have hro : Reads w2 w2.heap.size 1 (some ⟨g, 0, none⟩) bs.length (bc bs) := by
    have := (Reads.of_own hown2).take (k := bs.length) (by omega)
    rw [bc_append, List.take_append_of_le_length (by rw [bc_len]; omega), List.take_of_length_le (by rw [bc_len]; omega)] at this
    exact this
  refine (wraw_any bw W A c bs _ _ _ _ hP2.isW hro (by omega)).mono ?_
  rintro e w3 ⟨rfl, A3, c3, hW3, hm3⟩
  have hlt2 : w.heap.size < w2.heap.size := by have := hb2.size; have := hop.lt; omega
  have x6 := (hm3.kept.cell (p := ⟨w.heap.size, 4, none⟩) hlt2 (fun hm => by have := h.isW.lt _ hm; simp at this)).trans x5
  have hrb3 := hm3.kept.reads hrb2 (by have := hb2.size; have := hbel.size; omega) h.low
  go_wp2_with fail
  refine (raw_any bv W A' c' bs _ _ _ _ (hP2.mid hm3) hrb3 (by omega)).mono ?_
  rintro e w4 ⟨rfl, A4, c4, hV4, hm4⟩
  obtain ⟨hP4, hM4⟩ := hP2.done hW3 hm3 hV4 hm4
  have x7 := (hM4.kept.cell (p := ⟨w.heap.size, 4, none⟩) hlt2 (fun hm => by have := h.lt _ hm; simp at this)).trans x5
  have hown4 := hM4.kept.own hown2 (fun g' hg' hm => hgf g' hm (by simpa [Value.ownBlock, eq_comm] using hg'))
  have hrb4 := hM4.kept.reads hrb2 (by have := hb2.size; have := hbel.size; omega) h.ge
  have hro4 : Reads w4 w4.heap.size 1 (some ⟨g, 0, none⟩) bs.length (bc bs) := by
    have := (Reads.of_own hown4).take (k := bs.length) (by omega)
    rw [bc_append, List.take_append_of_le_length (by rw [bc_len]; omega), List.take_of_length_le (by rw [bc_len]; omega)] at this
    exact this
  have x8 : w4.cell? ⟨g, bs.length, none⟩ = some (.int .u8 7) := by
    have := hown4.cellAt bs.length (by omega)
    rw [this, ← e7.out, List.getElem?_append_right (by rw [bc_len]; omega), bc_len]
    simp
  go_wp2_with fail
  go_quiet ((go_at_call 12; refine quiet_mine (same_yes _ _ _ _ _ _ _ _ bs _ (hro4.drewN _) (hrb4.drewN _))))
  go_wp2
  have hM : Moves (foot bw A bv A') (foot bw A3 bv A4) w w4 := Moves.below_left (hbel.trans (hb2.mono hbel.size)) hM4
  have hgw : w.heap.size ≤ g := by have := hbel.size; omega
  have hgf1 : ∀ k ∈ foot bw A3 bv A4, k ≠ g := fun k hk he => by
    subst he
    rcases hM4.foot k hk with h1 | h1
    · exact hgf k h1 rfl
    · omega
  have hk4 : Kept [g] w4 (w4.drewN nq) := (Kept.refl _ _).drewN _
  have hown5 := ((Kept.refl [] w4).drewN nq).own hown4 (by simp)
  clear hown4 x8 hro4 hrb4 x7 x6 x5
  go_loopw [8] (fun i wr => ∃ (k : Nat) (zs : List Value), i = .int .i64 k ∧ k ≤ bs.length + 1 ∧ wr.ownsRow 0 5 1 (.slice (some ⟨g, 0, none⟩) (bs.length + 1) k2) (bs.length + 1) zs ∧ Kept [g] w4 wr) (fun i _ => bs.length + 1 - (intOf i).toNat)
  case atStart => exact ⟨0, _, rfl, Nat.zero_le _, hown5, hk4⟩
  case round =>
    obtain ⟨k, zs, rfl, hk, hown, hkp⟩ := hrel
    by_cases hlt : k < bs.length + 1
    · have hz : k < zs.length := by have := hown.1; omega
      have x1 := (hown.cellAt k (by omega)).trans (List.getElem?_eq_getElem hz)
      have x2 := hown.frozenAt k
      obtain ⟨hst, _⟩ := hown.stored k (.int .u8 99)
      go_wp2
      go_roundw
      case rel => exact ⟨k + 1, _, by go_num, by omega, hst, hkp.setCell _ (.inl (by simp))⟩
      case measure => simp [intOf]; omega
    · have hP := hP4.kept hkp (fun x hx hm => hgf1 x hx (by simpa using hm))
      have hc := hP.cells
      have hlen := hP.isW
      go_wp2
      go_quiet ((go_at_call 38; refine quiet_mine (len_any _ _ _ _ _ (hlen.kept (S := []) ((Kept.refl _ _).drewN _) (by simp)))))
      go_wp2
      go_ret
      exact ⟨rfl, _, _, _, _, hP.kept (S := []) ((Kept.refl _ _).drewN _) (by simp), ⟨(hM.kept.trans hkp (fun x hx => .inr (by simp at hx; omega))).drewN _, hM.foot⟩⟩

theorem put_any_op (bw c bv c' B : Nat) (A A' Ab : Option Addr) (cb : Nat) (W : Wr) (o : OpD) (w : World) (h : Pair w B bw A c bv A' c' W) (ho : o.Fine w B Ab) (hl : W.xs.length + o.size ≤ 1099511627776) :
    Calls Try.prog 9 #[.pointer (some ⟨bw, 0, none⟩), .pointer (some ⟨bv, 0, none⟩), .agg (opCells o Ab cb)] w (PutBoth w B bw A bv A' (W.step o)) := by
  by_cases k0 : o.kind = 0
  · exact put_0 bw c bv c' B A A' Ab cb W o w h ho hl k0
  · by_cases k1 : o.kind = 1
    · exact put_1 bw c bv c' B A A' Ab cb W o w h ho hl k1
    · by_cases k2 : o.kind = 2
      · exact put_2 bw c bv c' B A A' Ab cb W o w h ho hl k2
      · by_cases k3 : o.kind = 3
        · exact put_3 bw c bv c' B A A' Ab cb W o w h ho hl k3
        · by_cases k4 : o.kind = 4
          · exact put_4 bw c bv c' B A A' Ab cb W o w h ho hl k4
          · exact put_5 bw c bv c' B A A' Ab cb W o w h ho hl k0 k1 k2 k3 k4
end Go.Proofs.Ytidiohmpmjhbaaa
