/- Layer 12: the reference's Of, and SameInts. -/
import Derived.Test.YthenjpenfemmbaaDtA
import Derived.Test.YthenjpenfemmbaaDsH
namespace Go.Proofs.Ythenjpenfemmbaa
open Go.RowKit
set_option linter.unusedSimpArgs false
set_option linter.unusedVariables false

/-- which of eight numbers are among S -/
def hasA (S : List Int) : Array Value := ((List.range 8).map fun j : Nat => Value.bool (decide ((j : Int) ∈ S))).toArray
theorem hasA_nil : hasA [] = #[.bool false, .bool false, .bool false, .bool false, .bool false, .bool false, .bool false, .bool false] := by
  simp only [hasA, List.not_mem_nil, decide_false]
  rfl
theorem hasA_at (S : List Int) {j : Nat} (h : j < 8) : (hasA S)[j]? = some (.bool (decide ((j : Int) ∈ S))) := by
  unfold hasA
  simp [h]
theorem hasA_set (S : List Int) (q : Nat) (h : q < 8) : (hasA S).setIfInBounds q (.bool true) = hasA (S ++ [(q : Int)]) := by
  apply Array.ext
  · simp [hasA]
  · intro i h1 h2
    have h3 : i < 8 := by simpa [hasA] using h2
    rw [Array.getElem_setIfInBounds (by simpa [hasA] using h3)]
    by_cases e : q = i
    · subst e
      simp [hasA]
    · have : ¬ ((i : Int) = (q : Int)) := by omega
      simp [hasA, e, this]
def fewK (S : List Int) (k : Nat) : List Int := ((List.range k).filter fun g : Nat => decide ((g : Int) ∈ S)).map fun g : Nat => (g : Int)
theorem fewK_on (S : List Int) (k : Nat) : fewK S (k + 1) = fewK S k ++ (if decide ((k : Int) ∈ S) then [(k : Int)] else []) := by
  unfold fewK
  rw [List.range_succ, List.filter_append, List.map_append]
  cases h : decide ((k : Int) ∈ S) <;> simp at h <;> simp [h]
theorem fewK_len (S : List Int) (k : Nat) : (fewK S k).length ≤ k := by
  unfold fewK
  rw [List.length_map]
  exact Nat.le_trans (List.length_filter_le _ _) (by simp)
def SameIRel (n : Nat) (w0 : World) (i : Value) (wr : World) : Prop := ∃ k q : Nat, i = .int .i64 k ∧ k ≤ n ∧ wr = w0.drewN q
set_option maxHeartbeats 4000000 in
set_option maxRecDepth 100000 in
theorem sameI_yes (A A' : Option Addr) (c c' B B' : Nat) (M : List Int) (w : World) (h1 : Reads w B 1 A M.length (ic M)) (h2 : Reads w B' 1 A' M.length (ic M)) (hl : M.length ≤ 8796093022208) :
    Calls Try.prog 24 #[.slice A M.length c, .slice A' M.length c'] w fun e w' => e = .returned (.bool true) ∧ ∃ q, w' = w.drewN q := by
  go_enter Try.func24, Try.ntmps24
  go_wp2
  go_loopw [5] (SameIRel M.length w) (fun i _ => M.length - (intOf i).toNat)
  case atStart => exact ⟨0, 0, rfl, Nat.zero_le _, rfl⟩
  case round =>
    obtain ⟨k, q, rfl, hk, rfl⟩ := hrel
    by_cases hlt : k < M.length
    · obtain ⟨ad1, rfl, _, a0⟩ := h1.numb hlt
      obtain ⟨ad2, rfl, _, c0⟩ := h2.numb hlt
      have kL : (0 : Int) ≤ (k : Int) := by omega
      have kU : (k : Int) < (M.length : Int) := by omega
      generalize gm M k = x at *
      clear h1 h2
      go_wp2
      go_quiet (fail)
      go_wp2
      go_roundw
      case rel => exact ⟨k + 1, _, by go_num, by omega, rfl⟩
      case measure => simp [intOf]; omega
    · go_wp2
      go_ret
      exact ⟨rfl, q, rfl⟩

def ROf1Rel (L K : List ByteArray) (w : World) (A : Option Addr) (c b0 b1 : Nat) (i g : Value) (wr : World) : Prop :=
  ∃ (k : Nat) (S : List Int), i = .int .i64 k ∧ k ≤ K.length ∧ S = grps L (K.take k) ∧ goodK (K.take k) = true ∧ Blk wr b0 28 #[.slice A L.length c] ∧ Blk wr b1 66 (hasA S) ∧ Below w.heap.size w wr
def ROf2Rel (S : List Int) (w : World) (b1 : Nat) (l i : Value) (wr : World) : Prop :=
  ∃ (k : Nat) (A1 : Option Addr) (c1 : Nat) (M : List Int), i = .int .i64 k ∧ k ≤ 8 ∧ M = fewK S k ∧ M.length ≤ k ∧ l = .slice A1 M.length c1 ∧ wr.ownsRow 0 3 1 (.slice A1 M.length c1) M.length (ic M) ∧ Blk wr b1 66 (hasA S) ∧ Below w.heap.size w wr ∧ ∀ x ∈ ob A1, w.heap.size ≤ x ∧ x ≠ b1
set_option maxHeartbeats 4000000 in
set_option maxRecDepth 100000 in
theorem rof_any (A : Option Addr) (c : Nat) (L : List ByteArray) (A2 : Option Addr) (c2 : Nat) (K : List ByteArray) (w : World) (hL : Reads w w.heap.size 1 A L.length (sc L)) (hfew : L.length < 8) (hr : Reads w w.heap.size 1 A2 K.length (sc K)) (hl : K.length ≤ 1000000) :
    Calls Try.prog 23 #[.agg #[.slice A L.length c], .slice A2 K.length c2] w (OfEnds L K w) := by
  obtain ⟨i0, hi0, hz0, hz1, hz2⟩ := info_parts Try.info3
  have hb0 := below_alloc w (.cells #[.slice A L.length c] 28)
  have hx0 := Blk.new w 28 #[.slice A L.length c]
  have hb1 := hb0.alloc hb0.size (.cells #[.bool false, .bool false, .bool false, .bool false, .bool false, .bool false, .bool false, .bool false] 66)
  have hx1 := hx0.alloc (.cells #[.bool false, .bool false, .bool false, .bool false, .bool false, .bool false, .bool false, .bool false] 66)
  have hy1 := Blk.new (w.alloc (.cells #[.slice A L.length c] 28)) 66 #[.bool false, .bool false, .bool false, .bool false, .bool false, .bool false, .bool false, .bool false]
  have hszz : (w.alloc (.cells #[.slice A L.length c] 28)).heap.size = w.heap.size + 1 := by simp
  go_enter Try.func23, Try.ntmps23
  go_wp2
  rw [hszz] at hy1
  rw [← hasA_nil] at hb1 hx1 hy1 ⊢
  obtain ⟨b0, hb00⟩ : ∃ b0, b0 = w.heap.size := ⟨_, rfl⟩
  obtain ⟨b1, hb11⟩ : ∃ b1, b1 = w.heap.size + 1 := ⟨_, rfl⟩
  have hbn : b1 ≠ b0 := by omega
  have hbe1 : w.heap.size ≤ b1 := by omega
  rw [← hb00] at hx1
  rw [← hb11] at hy1
  rw [← hb11, ← hb00]
  generalize (w.alloc (.cells #[.slice A L.length c] 28)).alloc (.cells (hasA []) 66) = w2 at *
  clear hb00 hb11 hb0 hx0 hszz
  go_loopw [7, 8] (ROf1Rel L K w A c b0 b1) (fun i _ _ => K.length - (intOf i).toNat)
  case atStart => exact ⟨0, [], rfl, Nat.zero_le _, by simp [grps], by simp [goodK], hx1, hy1, hb1⟩
  case round =>
    obtain ⟨k, S, rfl, hk, hS, hgd, hx, hy, hb⟩ := hrel
    clear hx1 hy1 hb1 w2
    have HM := Lib.hid hS
    have HG := Lib.hid hgd
    clear hS hgd
    have cb := hx.cell 0
    simp only [List.getElem?_toArray, List.getElem?_cons_zero] at cb
    by_cases hlt : k < K.length
    · obtain ⟨ad, rfl, hadB, hcell⟩ := (hr.below hb).text hlt
      have kL : (0 : Int) ≤ (k : Int) := by omega
      have kU : (k : Int) < (K.length : Int) := by omega
      have hLw := hL.below hb
      have HB := Lib.hid (fun h => good_bad (k := k) hlt h)
      have HN := Lib.hid (good_take hlt)
      have HS := Lib.hid (grps_take (L := L) hlt)
      obtain ⟨s, hs⟩ : ∃ s, s = gx K k := ⟨_, rfl⟩
      rw [← hs] at hcell HB HN HS
      clear hs
      go_wp2
      go_region_held3 (fun w' => w'.cell? ⟨b0, 0, none⟩ = some (.slice A L.length c) ∧ w'.cell? (ad.add k) = some (.string s)) (first | go_keep)
        ((go_at_call 13; refine (rgroup_any A c _ L s (wr.drewN 1) (hLw.drewN 1) hb.size hfew).mono ?_; rintro e w6 ⟨rfl, hb6⟩; have d0 := ((hx.drewN 1).below hb6 (hx.drewN 1).lt).cell 0; have d1 := (hb6.cell (p := ad.add k) (by rw [block_of_add]; exact Nat.lt_of_lt_of_le hadB hb.size)).trans hcell; simp only [List.getElem?_toArray, List.getElem?_cons_zero] at d0; dsimp only))
      have hd1 : Below wr.heap.size wr w6 := (below_drewN (Below.refl _ _) 1).trans hb6
      have hbn6 : Below w.heap.size w w6 := hb.trans (hd1.mono hb.size)
      have hx6 := hx.below hd1 hx.lt
      have hy6 := hy.below hd1 hy.lt
      clear hcell cb hb6 hb hx hy hLw
      cases hky : keyB s with
      | false =>
        have HG2 := Lib.hid (show grp L s = -1 by unfold grp; rw [hky]; rfl)
        have HB2 := HB.out hky
        rw [HG2.out]
        clear hky HB HN HS
        go_wp2
        go_ret2
        exact OfEnds.bad HB2 hbn6
      | true =>
        obtain ⟨q, hq⟩ : ∃ q : Nat, q = cntE L s := ⟨_, rfl⟩
        have hqle := cntE_le L s
        have HG2 : grp L s = (q : Int) := by unfold grp; rw [hky, hq]; rfl
        have hq8 : q < 8 := by omega
        have HN2 : Hid (goodK (K.take (k + 1)) = true) := Lib.hid (by rw [HN.out, HG.out, hky]; rfl)
        have HS2 : Hid (grps L (K.take (k + 1)) = S ++ [(q : Int)]) := Lib.hid (by rw [HS.out, HM.out, HG2])
        have hcl := (hy6.cell q).trans (hasA_at S hq8)
        have hfr := hy6.frozen q
        have hst := hy6.set_ q (.bool true)
        rw [hasA_set S q hq8] at hst
        rw [HG2]
        have q0 : decide ((q : Int) < 0) = false := decide_eq_false (by omega)
        have q1 : (0 : Int) ≤ (q : Int) := by omega
        have q2 : (q : Int) < 8 := by omega
        clear hky HB HN HS hq hqle
        go_wp2
        go_roundw
        case rel => exact ⟨k + 1, _, by go_num, by omega, HS2.out.symm, HN2.out, hx6.far (p := ⟨b1, q, none⟩) (fun h => hbn h.symm) _, hst, (hbn6.setCell (p := ⟨b1, q, none⟩) hbe1 _)⟩
        case measure => simp [intOf]; omega
    · have hT : K.take k = K := List.take_of_length_le (by omega)
      rw [hT] at HM HG
      have HE := Lib.hid (show ofL L K = fewK S 8 by unfold ofL; rw [HG.out, if_pos rfl, ← HM.out]; rfl)
      have HE2 := Lib.hid (show ofE K = 0 by unfold ofE; rw [HG.out]; rfl)
      clear hT HM HG cb
      go_wp2
      go_loopw [9, 10] (ROf2Rel S w b1) (fun _ i _ => 8 - (intOf i).toNat)
      case atStart => exact ⟨0, none, 0, [], rfl, Nat.zero_le _, rfl, Nat.le_refl _, rfl, World.ownsRow_nil _ _ _ _, hy, hb, by simp [ob]⟩
      case round =>
        clear hx hy hb
        obtain ⟨j, A1, c1, M, rfl, hj, hM, hMj, rfl, hown, hy, hb, hf⟩ := hrel
        have HM := Lib.hid hM
        clear hM
        by_cases hj8 : j < 8
        · have hcl := (hy.cell j).trans (hasA_at S hj8)
          have hon := Lib.hid (fewK_on S j)
          have j1 : (0 : Int) ≤ (j : Int) := by omega
          have j2 : (j : Int) < 8 := by omega
          cases hp : decide ((j : Int) ∈ S) with
          | true =>
            rw [hp] at hcl hon
            have HS2 : Hid (fewK S (j + 1) = M ++ [(j : Int)]) := Lib.hid (by rw [hon.out, HM.out]; rfl)
            have e3 := Lib.hid (ic_snoc M (j : Int))
            clear hp hon
            go_wp2_with (at_builtin; refine wpList_app rfl (.tmp 34) (.tmp 36) 48 48 rfl 3 i0 _ 1 8 Try.underlying48 hi0 hz0 hz1 hz2 rfl (by omega) A1 M.length c1 (ic M) rfl (hown.alloc _) _ 1 [.int .i64 (j : Int)] rfl (Src.one1 Try.underlying48 _ _ rfl) (by simp only [maxLen]; omega) (by omega) ?_; intro A3 k3 w3 hown3 hk3 hf3; rw [e3.out] at hown3)
            have hol2 : M.length + 1 = (M ++ [(j : Int)]).length := by simp
            rw [hol2] at hown3 ⊢
            have hf1 : ∀ y ∈ ob A1, w.heap.size ≤ y := fun y hy => (hf y hy).1
            have hbel := hb.trans (hk3.of_alloc.below hb.size hf1)
            have hbl := hy.lt
            have hy3 := hk3.of_alloc.blk hy (fun hm => (hf b1 hm).2 rfl)
            go_roundw
            case rel => exact ⟨j + 1, A3, k3, _, by go_num, by omega, HS2.out.symm, by simp; omega, rfl, hown3, hy3, hbel, fun y hy => by
                rcases hf3 y hy with h | h
                · exact hf y h
                · simp at h
                  have := hb.size
                  exact ⟨by omega, by omega⟩⟩
            case measure => simp [intOf]; omega
          | false =>
            rw [hp] at hcl hon
            have HS2 : Hid (fewK S (j + 1) = M) := Lib.hid (by rw [hon.out, HM.out]; simp)
            clear hp hon
            go_wp2
            go_roundw
            case rel => exact ⟨j + 1, A1, c1, M, by go_num, by omega, HS2.out.symm, by omega, rfl, hown, hy, hb, hf⟩
            case measure => simp [intOf]; omega
        · have hj8' : j = 8 := by omega
          subst hj8'
          have HT : Hid (ofL L K = M) := Lib.hid (by rw [HE.out, HM.out])
          clear HM
          go_wp2
          go_ret2
          unfold OfEnds
          rw [HT.out, HE2.out]
          exact ⟨A1, c1, rfl, hown, hb, fun y hy => (hf y hy).1⟩
end Go.Proofs.Ythenjpenfemmbaa
