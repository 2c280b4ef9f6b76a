/- Layer 12: the reference's Share. -/
import Derived.Test.YthenjpenfemmbaaDsG
namespace Go.Proofs.Ythenjpenfemmbaa
open Go.RowKit
set_option linter.unusedSimpArgs false
set_option linter.unusedVariables false

def RShRel (L : List ByteArray) (g : Int) (l : List Wrt) (w : World) (A : Option Addr) (c b0 : Nat) (o i : Value) (wr : World) : Prop :=
  ∃ (k : Nat) (A1 : Option Addr) (c1 : Nat) (out : List Wrt), i = .int .i64 k ∧ k ≤ l.length ∧ out = shr L g (l.take k) ∧ o = .slice A1 out.length c1 ∧ out.length ≤ k ∧ wr.ownsRow 0 45 3 (.slice A1 out.length c1) out.length (wc out) ∧
    Below w.heap.size w wr ∧ (∀ x ∈ ob A1, w.heap.size ≤ x ∧ x ≠ b0) ∧ Blk wr b0 28 #[.slice A L.length c]
theorem shr_neg {L : List ByteArray} {g : Int} (h : g < 0) (l : List Wrt) : shr L g l = [] := by unfold shr; rw [if_pos h]
theorem shr_pos {L : List ByteArray} {g : Int} (h : ¬ g < 0) (l : List Wrt) : shr L g l = keepW (oth L g) l := by unfold shr; rw [if_neg h]
set_option maxHeartbeats 4000000 in
set_option maxRecDepth 100000 in
theorem rshare_any (L : List ByteArray) (A : Option Addr) (c : Nat) (g : Int) (A2 : Option Addr) (c2 : Nat) (l : List Wrt) (w : World) (hL : Reads w w.heap.size 1 A L.length (sc L)) (hfew : L.length < 8) (hr : Reads w w.heap.size 3 A2 l.length (wc l)) (hl : l.length ≤ 1000000) :
    Calls Try.prog 20 #[.agg #[.slice A L.length c], .slice A2 l.length c2, .int .i64 g] w (ShareEnds L g l w) := by
  obtain ⟨i0, hi0, hz0, hz1, hz2⟩ := info_parts Try.infoW
  have hb0 := below_alloc w (.cells #[.slice A L.length c] 28)
  have hx0 := Blk.new w 28 #[.slice A L.length c]
  have hbw : w.heap.size ≤ w.heap.size := Nat.le_refl _
  go_enter Try.func20, Try.ntmps20
  go_wp2
  obtain ⟨b0, hb00⟩ : ∃ b0, b0 = w.heap.size := ⟨_, rfl⟩
  have hble : w.heap.size ≤ b0 := by omega
  rw [← hb00] at hx0 ⊢
  clear hb00 hbw
  go_loopw [7, 8] (RShRel L g l w A c b0) (fun _ i _ => l.length - (intOf i).toNat)
  case atStart => exact ⟨0, none, 0, [], rfl, Nat.zero_le _, by unfold shr keepW; split <;> rfl, rfl, Nat.le_refl _, World.ownsRow_nil _ _ _ _, hb0, by simp [ob], hx0⟩
  case round =>
    obtain ⟨k, A1, c1, out, rfl, hk, hout, rfl, hol, hown, hb, hf, hx⟩ := hrel
    clear hx0 hb0
    have HO := Lib.hid hout
    clear hout
    have cb := hx.cell 0
    simp only [List.getElem?_toArray, List.getElem?_cons_zero] at cb
    have hbx := hx.lt
    by_cases hlt : k < l.length
    · obtain ⟨bb, off, rfl, hbb, a0, a1, a2⟩ := (hr.below hb).wrt hlt
      have kL : (0 : Int) ≤ (k : Int) := by omega
      have kU : (k : Int) < (l.length : Int) := by omega
      by_cases hg : g < 0
      · have z1 : decide (0 ≤ g) = false := decide_eq_false (by omega)
        have hnx := Lib.hid (show out = shr L g (l.take (k + 1)) by rw [HO.out, shr_neg hg, shr_neg hg])
        go_wp2
        go_quiet (fail)
        go_wp2
        go_roundw
        case rel => exact ⟨k + 1, A1, c1, out, by go_num, by omega, hnx.out, rfl, by omega, ((Kept.refl [] wr).drewN nq).own hown (by simp), below_drewN hb _, hf, hx.drewN _⟩
        case measure => simp [intOf]; omega
      · have z1 : decide (0 ≤ g) = true := decide_eq_true (by omega)
        have HON := Lib.hid (keep_on (p := oth L g) hlt)
        have HSP := Lib.hid (fun m => shr_pos (L := L) hg m)
        obtain ⟨x, hxx⟩ : ∃ x, x = gw l k := ⟨_, rfl⟩
        rw [← hxx] at a0 a1 a2 HON
        clear hxx
        have hLw := hL.below hb
        go_wp2
        go_region_held3 (fun w' => w'.cell? ⟨b0, 0, none⟩ = some (.slice A L.length c) ∧ w'.cell? ⟨bb, off + k * 3, none⟩ = some (.string x.key)) (first | go_keep)
          ((go_at_call 13; refine (rgroup_any A c _ L x.key (wr.drewN 1) (hLw.drewN 1) hb.size hfew).mono ?_; rintro e w6 ⟨rfl, hb6⟩; have d0 := ((hx.drewN 1).below hb6 (hx.drewN 1).lt).cell 0; have d1 := (hb6.cell (p := ⟨bb, off + k * 3, none⟩) (Nat.lt_of_lt_of_le hbb hb.size)).trans a0; simp only [List.getElem?_toArray, List.getElem?_cons_zero] at d0; dsimp only))
        have hd1 : Below wr.heap.size wr w6 := (below_drewN (Below.refl _ _) 1).trans hb6
        have hbn : Below w.heap.size w w6 := hb.trans (hd1.mono hb.size)
        have hownn := (Kept.of_below (S := []) hd1).own hown (by simp)
        have hxn := hx.below hd1 hx.lt
        have e0 := (hd1.cell (p := ⟨bb, off + k * 3, none⟩) (Nat.lt_of_lt_of_le hbb hb.size)).trans a0
        have e1 := (hd1.cell (p := ⟨bb, off + k * 3 + 1, none⟩) (Nat.lt_of_lt_of_le hbb hb.size)).trans a1
        have e2 := (hd1.cell (p := ⟨bb, off + k * 3 + 2, none⟩) (Nat.lt_of_lt_of_le hbb hb.size)).trans a2
        have hbn0 : b0 < w6.heap.size := Nat.lt_of_lt_of_le hbx hd1.size
        clear a0 a1 a2 cb hb6 hown hb hx hLw
        cases hp : (grp L x.key == g) with
        | true =>
          have hoth : oth L g x = false := by unfold oth; simp [bne, hp]
          have hnx : shr L g (l.take (k + 1)) = out ++ [x] := by rw [HSP.out, HON.out, hoth, HO.out, HSP.out]; simp
          have HNX := Lib.hid hnx
          have e3 := Lib.hid (wc_snoc out x)
          clear hnx hoth
          go_wp2_with (at_builtin; refine wpList_app rfl (.tmp 28) (.tmp 33) 40 40 rfl 45 i0 _ 3 40 Try.underlying40 hi0 hz0 hz1 hz2 rfl (by omega) A1 out.length c1 (wc out) rfl (hownn.alloc _) _ 1 (wcell x) rfl (Src.wrt Try.underlying40 x 45) (by simp only [maxLen]; omega) (by omega) ?_; intro A3 k3 w3 hown3 hk3 hf3; rw [show wc out ++ wcell x = wc (out ++ [x]) from e3.out] at hown3)
          have hol2 : out.length + 1 = (out ++ [x]).length := by simp
          rw [hol2] at hown3 ⊢
          have hf1 : ∀ y ∈ ob A1, w.heap.size ≤ y := fun y hy => (hf y hy).1
          have hbel := hbn.trans (hk3.of_alloc.below hbn.size hf1)
          have hx3 := hk3.of_alloc.blk hxn (fun hm => (hf b0 hm).2 rfl)
          go_roundw
          case rel => exact ⟨k + 1, A3, k3, out ++ [x], by go_num, by omega, HNX.out.symm, rfl, by simp; omega, hown3, hbel, fun y hy => by
              rcases hf3 y hy with h | h
              · exact hf y h
              · simp at h
                have := hbn.size
                exact ⟨by omega, by omega⟩, hx3⟩
          case measure => simp [intOf]; omega
        | false =>
          have hoth : oth L g x = true := by unfold oth; simp [bne, hp]
          have hnx : shr L g (l.take (k + 1)) = out := by rw [HSP.out, HON.out, hoth, HO.out, HSP.out]; simp
          have HNX := Lib.hid hnx
          clear hnx hoth
          go_wp2
          go_roundw
          case rel => exact ⟨k + 1, A1, c1, out, by go_num, by omega, HNX.out.symm, rfl, by omega, hownn, hbn, hf, hxn⟩
          case measure => simp [intOf]; omega
    · have hT : shr L g l = out := by rw [HO.out, List.take_of_length_le (by omega)]
      have HT := Lib.hid hT
      clear hT
      go_wp2
      go_ret
      unfold ShareEnds
      rw [HT.out]
      exact ⟨A1, c1, rfl, hown, hb, fun y hy => (hf y hy).1⟩
end Go.Proofs.Ythenjpenfemmbaa
