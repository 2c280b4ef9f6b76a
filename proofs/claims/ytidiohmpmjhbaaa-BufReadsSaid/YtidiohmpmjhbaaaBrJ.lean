/- BufReads: the walk of the law. -/
import Derived.Test.YtidiohmpmjhbaaaBrI
import Derived.StillTailTactics
namespace Go.Proofs.Ytidiohmpmjhbaaa
open Go.RowKit

set_option maxHeartbeats 4000000 in
set_option maxRecDepth 100000 in
theorem reads_any (A0 B0 : Option Addr) (cA cB : Nat) (xs ys : List UInt8) (A : Option Addr) (n c : Nat) (ops : List OpD) (w : World) (ha : Reads w w.heap.size 1 A0 xs.length (bc xs)) (hb : Reads w w.heap.size 1 B0 ys.length (bc ys))
    (hla : xs.length ≤ 140737488355328) (hlb : ys.length ≤ 140737488355328) (hops : OpsAt w w.heap.size A n ops) (hn : n ≤ 140737488355328) :
    Calls Try.prog 4 #[.slice A0 xs.length cA, .slice B0 ys.length cB, .slice A n c] w fun e w' => e = .returned (.bool true) ∧ Below w.heap.size w w' := by
  obtain ⟨i0, hi0, hz0, hz1, hz2⟩ := info_parts Try.info5
  go_enter Try.func4, Try.ntmps4
  go_wp2_with (first
    | (at_builtin; refine wpList_app rfl (.tmp 14) (.tmp 15) 30 30 rfl 5 i0 _ 1 1 Try.underlying30 hi0 hz0 hz1 hz2 rfl (by omega) (some ⟨w.heap.size, 0, none⟩) 0 0 [] rfl (World.ownsRow_made w #[] 0 (Nat.zero_le _) (by simp [maxLen]) rfl) _ xs.length (bc xs) rfl (Src.ofReads Try.underlying30 (ha.alloc (Nat.le_refl _) _) (bc_one _)) (by simp only [maxLen]; omega) (by omega) ?_; intro K1 k1 w1 hown1 hk1 hf1; rw [Nat.zero_add, List.nil_append] at hown1; have hb1 : Below w.heap.size w w1 := hk1.of_alloc.below (Nat.le_refl _) (by simp [ob]))
    | (at_builtin; refine wpList_app rfl (.tmp 17) (.tmp 18) 30 30 rfl 5 i0 _ 1 1 Try.underlying30 hi0 hz0 hz1 hz2 rfl (by omega) (some ⟨w1.heap.size, 0, none⟩) 0 0 [] rfl (World.ownsRow_made w1 #[] 0 (Nat.zero_le _) (by simp [maxLen]) rfl) _ ys.length (bc ys) rfl (Src.ofReads Try.underlying30 ((hb.below hb1).alloc hb1.size _) (bc_one _)) (by simp only [maxLen]; omega) (by omega) ?_; intro K2 k2 w2 hown2 hk2 hf2; rw [Nat.zero_add, List.nil_append] at hown2; have hb2 : Below w1.heap.size w1 w2 := hk2.of_alloc.below (Nat.le_refl _) (by simp [ob])))
  have x39 := Blk.new w2 39 #[.slice K1 xs.length k1, .slice K2 ys.length k2]
  have hs1 := hb1.size
  have hs2 := hb2.size
  have hown1' := ((Kept.of_below (S := []) hb2).own hown1 (by simp)).alloc (.cells #[.slice K1 xs.length k1, .slice K2 ys.length k2] 39)
  have hown2' := hown2.alloc (.cells #[.slice K1 xs.length k1, .slice K2 ys.length k2] 39)
  have hl1 := own_lt hown1
  have hl2 := own_lt hown2
  have hg1 : ∀ k ∈ ob K1, w.heap.size ≤ k := fun k hk => (hf1 k hk).elim (fun h => by simp [ob] at h; omega) (fun h => by simp at h; omega)
  have hg2 : ∀ k ∈ ob K2, w1.heap.size ≤ k := fun k hk => (hf2 k hk).elim (fun h => by simp [ob] at h; omega) (fun h => by simp at h; omega)
  have hb3 : Below w.heap.size w (w2.alloc (.cells #[.slice K1 xs.length k1, .slice K2 ys.length k2] 39)) := (hb1.trans (hb2.mono hs1)).alloc (by omega) _
  clear hown1 hown2 hf1 hf2 hk1 hk2
  generalize w2.alloc (.cells #[.slice K1 xs.length k1, .slice K2 ys.length k2] 39) = w3 at *
  generalize w2.heap.size = h39 at *
  have d0 := x39.cell 0
  have d1 := x39.cell 1
  simp only [List.getElem?_toArray, List.getElem?_cons_zero, List.getElem?_cons_succ] at d0 d1
  have hr1 : Reads w3 w3.heap.size 1 K1 xs.length (bc xs) := Reads.of_own hown1'
  have hr2 : Reads w3 w3.heap.size 1 K2 ys.length (bc ys) := Reads.of_own hown2'
  have ho := fun (w' : World) (h : Below w3.heap.size w3 w') => (h.cell (p := ⟨h39, 0, none⟩) x39.lt).trans d0
  have ho1 := fun (w' : World) (h : Below w3.heap.size w3 w') => (h.cell (p := ⟨h39, 1, none⟩) x39.lt).trans d1
  have HO := Lib.hid ho
  have HO1 := Lib.hid ho1
  clear ho ho1
  have bd : Below w3.heap.size w3 w3.drew := ⟨rfl, rfl, rfl, Nat.le_refl _, fun _ _ => rfl⟩
  go_region_held3 (fun w' => w'.cell? ⟨h39, 0, none⟩ = some (.slice K1 xs.length k1) ∧ w'.cell? ⟨h39, 1, none⟩ = some (.slice K2 ys.length k2))
    (first | go_keep)
    (first
      | (go_at_call 13; refine (rnew_any K1 k1 w3.heap.size xs w3.drew (hr1.below bd) (Nat.le_refl _) hla).mono ?_; rintro e w4 ⟨r1, A1, c1, rfl, hR1, hb4, hq1⟩; have b4 : Below w3.heap.size w3 w4 := bd.trans hb4; have z0 := HO.out w4 b4; have z1 := HO1.out w4 b4; dsimp only)
      | (go_at_call 13; refine (rnew_any K1 k1 w3.heap.size xs (w3.drew.alloc (.cells #[.pointer none, .pointer none] 42)) (hr1.below (bd.alloc (Nat.le_refl _) _)) (by simp) hla).mono ?_; rintro e w4 ⟨r1, A1, c1, rfl, hR1, hb4, hq1⟩; have b4 : Below w3.heap.size w3 w4 := (bd.alloc (Nat.le_refl _) _).trans (hb4.mono (by simp)); have z0 := HO.out w4 b4; have z1 := HO1.out w4 b4; have u4 : Blk w4 w3.heap.size 42 #[.pointer none, .pointer none] := (Blk.new w3.drew 42 _).below hb4 (by simp); have nn : w3.heap.size ≠ h39 := by { have := x39.lt; omega }; dsimp only)
      | (go_at_call 13; refine (rnew_any K2 k2 w3.heap.size ys w4 (hr2.below b4) b4.size hlb).mono ?_; have u4' := u4; rintro e w5 ⟨r2, A2, c2, rfl, hR2, hb5, hq2⟩; have b5 : Below w3.heap.size w3 w5 := b4.trans (hb5.mono b4.size); have z2 := HO.out w5 b5; have z3 := HO1.out w5 b5; have u5 : Blk w5 w3.heap.size 42 #[.pointer none, .pointer none] := u4.below hb5 u4.lt; have v0 := u5.cell 0; have v1 := u5.cell 1; have v2 := u5.frozen 0; have v3 := u5.frozen 1; simp only [List.getElem?_toArray, List.getElem?_cons_zero, List.getElem?_cons_succ] at v0 v1; dsimp only)
      | (go_at_call 13; refine (rnew_any K2 k2 w3.heap.size ys w4 (hr2.below b4) b4.size hlb).mono ?_; rintro e w5 ⟨r2, A2, c2, rfl, hR2, hb5, hq2⟩; have b5 : Below w3.heap.size w3 w5 := b4.trans (hb5.mono b4.size); have z2 := HO.out w5 b5; have z3 := HO1.out w5 b5; dsimp only)
      | (go_at_call 13; refine (rnew_any K2 k2 w3.heap.size ys (w4.alloc (.cells #[.pointer none, .pointer none] 42)) (hr2.below (b4.alloc b4.size _)) (by have := b4.size; simp; omega) hlb).mono ?_; rintro e w5 ⟨r2, A2, c2, rfl, hR2, hb5, hq2⟩; have b5 : Below w3.heap.size w3 w5 := (b4.alloc b4.size _).trans (hb5.mono (by have := b4.size; simp; omega)); have z2 := HO.out w5 b5; have z3 := HO1.out w5 b5; have u5 : Blk w5 w4.heap.size 42 #[.pointer none, .pointer none] := (Blk.new w4 42 _).below hb5 (by simp); have nn : w4.heap.size ≠ h39 := by { have := b4.size; have := x39.lt; omega }; have v0 := u5.cell 0; have v1 := u5.cell 1; have v2 := u5.frozen 0; have v3 := u5.frozen 1; simp only [List.getElem?_toArray, List.getElem?_cons_zero, List.getElem?_cons_succ] at v0 v1; dsimp only))
  · have hq2' : ∀ k ∈ r2 :: ob A2, w4.heap.size ≤ k := hq2
    have hb5' : Below w4.heap.size w4 w5 := hb5
    have hq1' : ∀ k ∈ r1 :: ob A1, w3.heap.size ≤ k := hq1
    have M := mid_last hR1 hR2 hq1' hq2' b4 hb5'
    obtain ⟨w6, hw6⟩ : ∃ w6, w6 = w5.alloc (.cells #[.pointer (some ⟨r1, 0, none⟩), .pointer (some ⟨r2, 0, none⟩)] 42) := ⟨_, rfl⟩
    rw [← hw6] at M ⊢
    clear hw6 z0 z1 z2 z3  hb4 hb5 b4 b5 hq1 hq2 hq1' hq2' hb5' hR1 hR2 HO HO1 d0 d1 bd
    generalize w5.heap.size = h42 at M ⊢
    have M0 := M.iX.cell 0
    have M1 := M.iX.cell 1
    simp only [List.getElem?_toArray, List.getElem?_cons_zero, List.getElem?_cons_succ] at M0 M1
    have hb6 : Below w.heap.size w w6 := hb3.trans (M.below.mono hb3.size)
    have hs6 := hb6.size
    go_wp2_with fail
    refine (qnew_any A0 cA w.heap.size xs w6 (ha.below hb6) hs6 hla).mono ?_
    rintro e w7 ⟨q1, A1', c1', rfl, hQ1, hb7, hq1⟩
    have hb67 : Below w.heap.size w w7 := hb6.trans (hb7.mono hs6)
    have hs7 := hb67.size
    go_wp2_with fail
    refine (qnew_any B0 cB w.heap.size ys w7 (hb.below hb67) hs7 hlb).mono ?_
    rintro e w8 ⟨q2, A2', c2', rfl, hQ2, hb8, hq2⟩
    obtain ⟨hD, h3_9⟩ := duo_start M hb3 hQ1 hb7 hq1 hQ2 hb8 hq2
    obtain ⟨hD3, _⟩ := duo_start M (Below.refl _ _) hQ1 hb7 hq1 hQ2 hb8 hq2
    have hF1 := hD3.p1.foot
    have hF2 := hD3.p2.foot
    clear hD3
    have hb9 := hD.below
    have D0 := hD.y1.cell 0
    have D1 := hD.y1.cell 1
    have E0 := (h3_9.block h39 x39.lt).trans x39
    have F0 := cell_of_row _ h39 0 _ 39 (0, 0) E0
    have F1 := cell_of_row _ h39 1 _ 39 (0, 0) E0
    simp only [List.getElem?_toArray, List.getElem?_cons_zero, List.getElem?_cons_succ] at D0 D1 F0 F1
    have rA := ha.below hb9
    have rB := hb.below hb9
    have rK1 := hr1.below h3_9
    have rK2 := hr2.below h3_9
    go_wp2_with (go_at_call 12; refine (same_yes _ _ _ _ _ _ _ _ _ _ (by first | exact rK1 | exact rK2) (by first | exact rA | exact rB)).mono ?_; rintro e w' ⟨rfl, rfl⟩)
    have e9 : Blk (w8.alloc (.cells #[.pointer (some ⟨q1, 0, none⟩), .pointer (some ⟨q2, 0, none⟩)] 45)) h39 39 #[.slice K1 xs.length k1, .slice K2 ys.length k2] := E0
    have o1 := (Kept.of_below (S := []) h3_9).own hown1' (by simp)
    have o2 := (Kept.of_below (S := []) h3_9).own hown2' (by simp)
    clear D0 D1 E0 F0 F1 rA rB rK1 rK2 M0 M1 M hQ1 hQ2 hb7 hb8 hb67 hb6
    generalize w8.alloc (.cells #[.pointer (some ⟨q1, 0, none⟩), .pointer (some ⟨q2, 0, none⟩)] 45) = w9 at *
    generalize w8.heap.size = h45 at *
    have hS0 : Scr w9 w9 K1 xs.length k1 K2 ys.length k2 := ⟨Kept.refl _ _, ⟨_, o1⟩, ⟨_, o2⟩, fun k hk hm => by have := hl1 k hk; have := hg2 k hm; omega⟩
    have hKlo : ∀ k ∈ ob K1 ++ ob K2, w.heap.size ≤ k := fun k hk => (List.mem_append.1 hk).elim (hg1 k) (fun h => Nat.le_trans hs1 (hg2 k h))
    have hKhi : ∀ k ∈ ob K1 ++ ob K2, k < w3.heap.size := fun k hk => (List.mem_append.1 hk).elim (own_lt hown1' k) (own_lt hown2' k)
    have hf1 : ∀ k ∈ footR r1 A1 q1 A1', k ∉ ob K1 ++ ob K2 := fun k hk hm => by have := hF1 k hk; have := hKhi k hm; omega
    have hf2 : ∀ k ∈ footR r2 A2 q2 A2', k ∉ ob K1 ++ ob K2 := fun k hk hm => by have := hF2 k hk; have := hKhi k hm; omega
    clear hown1' hown2' hr1 hr2 hl1 hl2 hg1 hg2 hF1 hF2 hKhi o1 o2 hq1 hq2 h3_9 x39 hb9 hb1 hb2 hs1 hs2 hb3 hs6 hs7
    go_loopw [10] (fun i wr => ∃ k : Nat, i = .int .i64 k ∧ k ≤ 2 ∧ Scr w9 wr K1 xs.length k1 K2 ys.length k2) (fun i _ => 2 - (intOf i).toNat)
    case atStart => exact ⟨0, rfl, by omega, hS0⟩
    case round =>
      obtain ⟨k, rfl, hk, hS⟩ := hrel
      have E1 := hS0.blk hS e9 (by decide)
      have G0 := E1.cell 0
      have G1 := E1.cell 1
      simp only [List.getElem?_toArray, List.getElem?_cons_zero, List.getElem?_cons_succ] at G0 G1
      clear E1
      by_cases h0 : k = 0
      · subst h0
        go_wp2
        obtain ⟨wo, rfl⟩ : ∃ wo : World, wo = wr := ⟨_, rfl⟩
        go_loopw [11] (fun j wr => ∃ m : Nat, j = .int .i64 m ∧ m ≤ xs.length ∧ Scr w9 wr K1 xs.length k1 K2 ys.length k2) (fun j _ => xs.length - (intOf j).toNat)
        case atStart => exact ⟨0, rfl, by omega, hS⟩
        case round =>
          obtain ⟨m, rfl, hm, hS1⟩ := hrel
          have E1 := hS0.blk hS1 e9 (by decide)
          have G0 := E1.cell 0
          simp only [List.getElem?_toArray, List.getElem?_cons_zero] at G0
          clear E1
          by_cases hlt : m < xs.length
          · obtain ⟨g, u, hK, hc, hfz, hst⟩ := hS1.at1 hlt
            subst hK
            go_wp2
            go_roundw
            case rel => exact ⟨m + 1, by go_num, by omega, hst _⟩
            case measure => simp [intOf]; omega
          · have hge : xs.length ≤ m := by omega
            go_wp2
            go_roundw
            case rel => first | exact ⟨1, by go_num, by omega, hS1⟩ | ((repeat apply Exists.intro); refine ⟨?_, rfl⟩; exact ⟨1, by go_num, by omega, hS1⟩)
            case measure => simp [intOf]
      · by_cases h1 : k = 1
        · subst h1
          go_wp2
          obtain ⟨wo, rfl⟩ : ∃ wo : World, wo = wr := ⟨_, rfl⟩
          go_loopw [11] (fun j wr => ∃ m : Nat, j = .int .i64 m ∧ m ≤ ys.length ∧ Scr w9 wr K1 xs.length k1 K2 ys.length k2) (fun j _ => ys.length - (intOf j).toNat)
          case atStart => exact ⟨0, rfl, by omega, hS⟩
          case round =>
            obtain ⟨m, rfl, hm, hS1⟩ := hrel
            have E1 := hS0.blk hS1 e9 (by decide)
            have G1 := E1.cell 1
            simp only [List.getElem?_toArray, List.getElem?_cons_zero, List.getElem?_cons_succ] at G1
            clear E1
            by_cases hlt : m < ys.length
            · obtain ⟨g, u, hK, hc, hfz, hst⟩ := hS1.at2 hlt
              subst hK
              go_wp2
              go_roundw
              case rel => exact ⟨m + 1, by go_num, by omega, hst _⟩
              case measure => simp [intOf]; omega
            · have hge : ys.length ≤ m := by omega
              go_wp2
              go_roundw
              case rel => first | exact ⟨2, by go_num, by omega, hS1⟩ | ((repeat apply Exists.intro); refine ⟨?_, rfl⟩; exact ⟨2, by go_num, by omega, hS1⟩)
              case measure => simp [intOf]
        · obtain rfl : k = 2 := by omega
          have hD1 := hD.scr hS0 hS hf1 hf2 hKlo
          clear hD hS0 hS hf1 hf2 hKlo e9 G0 G1 ha hb
          go_wp2
          obtain ⟨wo, rfl⟩ : ∃ wo : World, wo = wr := ⟨_, rfl⟩
          go_loopw [12] (fun i wr => ∃ k : Nat, i = .int .i64 k ∧ k ≤ n ∧ Duo w wr r1 A1 c1 q1 A1' c1' r2 A2 c2 q2 A2' c2' h42 h45 (rturns (⟨xs, 0, 0⟩, ⟨ys, 0, 0⟩) (ops.take k))) (fun i _ => n - (intOf i).toNat)
          case atStart => exact ⟨0, rfl, Nat.zero_le _, hD1⟩
          case round =>
            obtain ⟨k, rfl, hk, hB⟩ := hrel
            have z1 := hB.y1.cell 0
            have z2 := hB.y1.cell 1
            have z3 := hB.y2.cell 0
            have z4 := hB.y2.cell 1
            simp only [List.getElem?_toArray, List.getElem?_cons_zero, List.getElem?_cons_succ] at z1 z2 z3 z4
            by_cases hlt : k < n
            · have hkl : k < ops.length := by have := hops.1; omega
              obtain ⟨b, off, rfl, hbl, hcs⟩ := (hops.below hB.below).2 (by omega)
              obtain ⟨o, ho⟩ : ∃ o, ops[k] = o := ⟨_, rfl⟩
              obtain ⟨Ab, cb, hf, hcell⟩ := hcs k o (by rw [List.getElem?_eq_getElem hkl, ho])
              have y0 : wr.cell? ⟨b, off + k * 6, none⟩ = some (.int .i64 o.kind) := hcell 0 _ rfl
              have y1 : wr.cell? ⟨b, off + k * 6 + 1, none⟩ = some (.int .u64 o.n) := hcell 1 _ rfl
              have y2 : wr.cell? ⟨b, off + k * 6 + 2, none⟩ = some (.int .i64 o.i) := hcell 2 _ rfl
              have y3 : wr.cell? ⟨b, off + k * 6 + 3, none⟩ = some (.string o.s) := hcell 3 _ rfl
              have y4 : wr.cell? ⟨b, off + k * 6 + 4, none⟩ = some (.slice Ab o.b.length cb) := hcell 4 _ rfl
              have y5 : wr.cell? ⟨b, off + k * 6 + 5, none⟩ = some (.bool o.two) := hcell 5 _ rfl
              clear hcell hcs
              have hDd := hB.drewN 1
              have hnext : rturns (⟨xs, 0, 0⟩, ⟨ys, 0, 0⟩) (ops.take (k + 1)) = rturn (rturns (⟨xs, 0, 0⟩, ⟨ys, 0, 0⟩) (ops.take k)) o := by
                rw [List.take_succ_eq_append_getElem hkl, rturns_snoc, ho]
              have Hn := Lib.hid hnext
              clear hnext ho hops
              generalize rturns (⟨xs, 0, 0⟩, ⟨ys, 0, 0⟩) (ops.take k) = s at *
              by_cases ht : o.two = true
              · rw [ht] at y5
                go_wp2
                go_still_tail 10, (by kernel_rfl)
                change wpList _ _ _ _ _ (wr.drewN 1)
                generalize wr.drewN 1 = wd at *
                go_wp2_with fail
                have HC := take_any r2 q2 w.heap.size c2 c2' A2 A2' Ab cb s.2 o wd hDd.p2 hf.i1 hf.i2
                unfold opCells at HC
                rw [ht] at HC
                refine HC.mono ?_
                clear HC
                intro e w' hq
                obtain ⟨rfl, hT⟩ := hDd.second hq
                go_wp2
                go_roundw
                case rel =>
                  have hT' : Duo w w' r1 A1 c1 q1 A1' c1' r2 A2 c2 q2 A2' c2' h42 h45 (rturns (⟨xs, 0, 0⟩, ⟨ys, 0, 0⟩) (ops.take (k + 1))) := by rw [Hn.out]; unfold rturn; rw [if_pos ht]; exact hT
                  first | exact ⟨k + 1, by go_num, by omega, hT'⟩ | ((repeat apply Exists.intro); refine ⟨?_, rfl⟩; exact ⟨k + 1, by go_num, by omega, hT'⟩)
                case measure => simp [intOf]; omega
              · have ht' : o.two = false := by simpa using ht
                rw [ht'] at y5
                go_wp2
                go_still_tail 10, (by kernel_rfl)
                change wpList _ _ _ _ _ (wr.drewN 1)
                generalize wr.drewN 1 = wd at *
                go_wp2_with fail
                have HC := take_any r1 q1 w.heap.size c1 c1' A1 A1' Ab cb s.1 o wd hDd.p1 hf.i1 hf.i2
                unfold opCells at HC
                rw [ht'] at HC
                refine HC.mono ?_
                clear HC
                intro e w' hq
                obtain ⟨rfl, hT⟩ := hDd.first hq
                go_wp2
                go_roundw
                case rel =>
                  have hT' : Duo w w' r1 A1 c1 q1 A1' c1' r2 A2 c2 q2 A2' c2' h42 h45 (rturns (⟨xs, 0, 0⟩, ⟨ys, 0, 0⟩) (ops.take (k + 1))) := by rw [Hn.out]; unfold rturn; rw [if_neg ht]; exact hT
                  first | exact ⟨k + 1, by go_num, by omega, hT'⟩ | ((repeat apply Exists.intro); refine ⟨?_, rfl⟩; exact ⟨k + 1, by go_num, by omega, hT'⟩)
                case measure => simp [intOf]; omega
            · have hge : n ≤ k := by omega
              clear hops hD1
              have hbel := hB.below
              generalize rturns (⟨xs, 0, 0⟩, ⟨ys, 0, 0⟩) (ops.take k) = s at *
              go_wp2
              go_quiet (first | (go_at_call 16; refine quiet_looks (rend_any _ _ _ _ _ (by first | exact (hB.p1.isR.drewN _) | exact (hB.p2.isR.drewN _)))) | (go_at_call 17; refine quiet_looks (qend_any _ _ _ _ _ (by first | exact (hB.p1.isQ.drewN _) | exact (hB.p2.isQ.drewN _)))))
              go_wp2
              go_ret
              exact ⟨rfl, hbel.trans ⟨rfl, rfl, rfl, Nat.le_refl _, fun _ _ => rfl⟩⟩
  · have hq2' : ∀ k ∈ r2 :: ob A2, w4.heap.size ≤ k := fun k hk => by have := hq2 k hk; simp at this; omega
    have hb5' : Below w4.heap.size w4 w5 := (below_alloc _ _).trans (hb5.mono (by simp))
    have hq1' : ∀ k ∈ r1 :: ob A1, w3.heap.size ≤ k := hq1
    have M := mid_set hR1 hR2 hq1' hq2' b4 hb5' u5 b4.size
    obtain ⟨w6, hw6⟩ : ∃ w6, w6 = (w5.setCell ⟨w4.heap.size, 0, none⟩ (.pointer (some ⟨r1, 0, none⟩))).setCell ⟨w4.heap.size, 1, none⟩ (.pointer (some ⟨r2, 0, none⟩)) := ⟨_, rfl⟩
    rw [← hw6] at M ⊢
    clear hw6 z0 z1 z2 z3 u5 nn v0 v1 v2 v3 hb4 hb5 b4 b5 hq1 hq2 hq1' hq2' hb5' hR1 hR2 HO HO1 d0 d1 bd
    generalize w4.heap.size = h42 at M ⊢
    have M0 := M.iX.cell 0
    have M1 := M.iX.cell 1
    simp only [List.getElem?_toArray, List.getElem?_cons_zero, List.getElem?_cons_succ] at M0 M1
    have hb6 : Below w.heap.size w w6 := hb3.trans (M.below.mono hb3.size)
    have hs6 := hb6.size
    go_wp2_with fail
    refine (qnew_any A0 cA w.heap.size xs w6 (ha.below hb6) hs6 hla).mono ?_
    rintro e w7 ⟨q1, A1', c1', rfl, hQ1, hb7, hq1⟩
    have hb67 : Below w.heap.size w w7 := hb6.trans (hb7.mono hs6)
    have hs7 := hb67.size
    go_wp2_with fail
    refine (qnew_any B0 cB w.heap.size ys w7 (hb.below hb67) hs7 hlb).mono ?_
    rintro e w8 ⟨q2, A2', c2', rfl, hQ2, hb8, hq2⟩
    obtain ⟨hD, h3_9⟩ := duo_start M hb3 hQ1 hb7 hq1 hQ2 hb8 hq2
    obtain ⟨hD3, _⟩ := duo_start M (Below.refl _ _) hQ1 hb7 hq1 hQ2 hb8 hq2
    have hF1 := hD3.p1.foot
    have hF2 := hD3.p2.foot
    clear hD3
    have hb9 := hD.below
    have D0 := hD.y1.cell 0
    have D1 := hD.y1.cell 1
    have E0 := (h3_9.block h39 x39.lt).trans x39
    have F0 := cell_of_row _ h39 0 _ 39 (0, 0) E0
    have F1 := cell_of_row _ h39 1 _ 39 (0, 0) E0
    simp only [List.getElem?_toArray, List.getElem?_cons_zero, List.getElem?_cons_succ] at D0 D1 F0 F1
    have rA := ha.below hb9
    have rB := hb.below hb9
    have rK1 := hr1.below h3_9
    have rK2 := hr2.below h3_9
    go_wp2_with (go_at_call 12; refine (same_yes _ _ _ _ _ _ _ _ _ _ (by first | exact rK1 | exact rK2) (by first | exact rA | exact rB)).mono ?_; rintro e w' ⟨rfl, rfl⟩)
    have e9 : Blk (w8.alloc (.cells #[.pointer (some ⟨q1, 0, none⟩), .pointer (some ⟨q2, 0, none⟩)] 45)) h39 39 #[.slice K1 xs.length k1, .slice K2 ys.length k2] := E0
    have o1 := (Kept.of_below (S := []) h3_9).own hown1' (by simp)
    have o2 := (Kept.of_below (S := []) h3_9).own hown2' (by simp)
    clear D0 D1 E0 F0 F1 rA rB rK1 rK2 M0 M1 M hQ1 hQ2 hb7 hb8 hb67 hb6
    generalize w8.alloc (.cells #[.pointer (some ⟨q1, 0, none⟩), .pointer (some ⟨q2, 0, none⟩)] 45) = w9 at *
    generalize w8.heap.size = h45 at *
    have hS0 : Scr w9 w9 K1 xs.length k1 K2 ys.length k2 := ⟨Kept.refl _ _, ⟨_, o1⟩, ⟨_, o2⟩, fun k hk hm => by have := hl1 k hk; have := hg2 k hm; omega⟩
    have hKlo : ∀ k ∈ ob K1 ++ ob K2, w.heap.size ≤ k := fun k hk => (List.mem_append.1 hk).elim (hg1 k) (fun h => Nat.le_trans hs1 (hg2 k h))
    have hKhi : ∀ k ∈ ob K1 ++ ob K2, k < w3.heap.size := fun k hk => (List.mem_append.1 hk).elim (own_lt hown1' k) (own_lt hown2' k)
    have hf1 : ∀ k ∈ footR r1 A1 q1 A1', k ∉ ob K1 ++ ob K2 := fun k hk hm => by have := hF1 k hk; have := hKhi k hm; omega
    have hf2 : ∀ k ∈ footR r2 A2 q2 A2', k ∉ ob K1 ++ ob K2 := fun k hk hm => by have := hF2 k hk; have := hKhi k hm; omega
    clear hown1' hown2' hr1 hr2 hl1 hl2 hg1 hg2 hF1 hF2 hKhi o1 o2 hq1 hq2 h3_9 x39 hb9 hb1 hb2 hs1 hs2 hb3 hs6 hs7
    go_loopw [10] (fun i wr => ∃ k : Nat, i = .int .i64 k ∧ k ≤ 2 ∧ Scr w9 wr K1 xs.length k1 K2 ys.length k2) (fun i _ => 2 - (intOf i).toNat)
    case atStart => exact ⟨0, rfl, by omega, hS0⟩
    case round =>
      obtain ⟨k, rfl, hk, hS⟩ := hrel
      have E1 := hS0.blk hS e9 (by decide)
      have G0 := E1.cell 0
      have G1 := E1.cell 1
      simp only [List.getElem?_toArray, List.getElem?_cons_zero, List.getElem?_cons_succ] at G0 G1
      clear E1
      by_cases h0 : k = 0
      · subst h0
        go_wp2
        obtain ⟨wo, rfl⟩ : ∃ wo : World, wo = wr := ⟨_, rfl⟩
        go_loopw [11] (fun j wr => ∃ m : Nat, j = .int .i64 m ∧ m ≤ xs.length ∧ Scr w9 wr K1 xs.length k1 K2 ys.length k2) (fun j _ => xs.length - (intOf j).toNat)
        case atStart => exact ⟨0, rfl, by omega, hS⟩
        case round =>
          obtain ⟨m, rfl, hm, hS1⟩ := hrel
          have E1 := hS0.blk hS1 e9 (by decide)
          have G0 := E1.cell 0
          simp only [List.getElem?_toArray, List.getElem?_cons_zero] at G0
          clear E1
          by_cases hlt : m < xs.length
          · obtain ⟨g, u, hK, hc, hfz, hst⟩ := hS1.at1 hlt
            subst hK
            go_wp2
            go_roundw
            case rel => exact ⟨m + 1, by go_num, by omega, hst _⟩
            case measure => simp [intOf]; omega
          · have hge : xs.length ≤ m := by omega
            go_wp2
            go_roundw
            case rel => first | exact ⟨1, by go_num, by omega, hS1⟩ | ((repeat apply Exists.intro); refine ⟨?_, rfl⟩; exact ⟨1, by go_num, by omega, hS1⟩)
            case measure => simp [intOf]
      · by_cases h1 : k = 1
        · subst h1
          go_wp2
          obtain ⟨wo, rfl⟩ : ∃ wo : World, wo = wr := ⟨_, rfl⟩
          go_loopw [11] (fun j wr => ∃ m : Nat, j = .int .i64 m ∧ m ≤ ys.length ∧ Scr w9 wr K1 xs.length k1 K2 ys.length k2) (fun j _ => ys.length - (intOf j).toNat)
          case atStart => exact ⟨0, rfl, by omega, hS⟩
          case round =>
            obtain ⟨m, rfl, hm, hS1⟩ := hrel
            have E1 := hS0.blk hS1 e9 (by decide)
            have G1 := E1.cell 1
            simp only [List.getElem?_toArray, List.getElem?_cons_zero, List.getElem?_cons_succ] at G1
            clear E1
            by_cases hlt : m < ys.length
            · obtain ⟨g, u, hK, hc, hfz, hst⟩ := hS1.at2 hlt
              subst hK
              go_wp2
              go_roundw
              case rel => exact ⟨m + 1, by go_num, by omega, hst _⟩
              case measure => simp [intOf]; omega
            · have hge : ys.length ≤ m := by omega
              go_wp2
              go_roundw
              case rel => first | exact ⟨2, by go_num, by omega, hS1⟩ | ((repeat apply Exists.intro); refine ⟨?_, rfl⟩; exact ⟨2, by go_num, by omega, hS1⟩)
              case measure => simp [intOf]
        · obtain rfl : k = 2 := by omega
          have hD1 := hD.scr hS0 hS hf1 hf2 hKlo
          clear hD hS0 hS hf1 hf2 hKlo e9 G0 G1 ha hb
          go_wp2
          obtain ⟨wo, rfl⟩ : ∃ wo : World, wo = wr := ⟨_, rfl⟩
          go_loopw [12] (fun i wr => ∃ k : Nat, i = .int .i64 k ∧ k ≤ n ∧ Duo w wr r1 A1 c1 q1 A1' c1' r2 A2 c2 q2 A2' c2' h42 h45 (rturns (⟨xs, 0, 0⟩, ⟨ys, 0, 0⟩) (ops.take k))) (fun i _ => n - (intOf i).toNat)
          case atStart => exact ⟨0, rfl, Nat.zero_le _, hD1⟩
          case round =>
            obtain ⟨k, rfl, hk, hB⟩ := hrel
            have z1 := hB.y1.cell 0
            have z2 := hB.y1.cell 1
            have z3 := hB.y2.cell 0
            have z4 := hB.y2.cell 1
            simp only [List.getElem?_toArray, List.getElem?_cons_zero, List.getElem?_cons_succ] at z1 z2 z3 z4
            by_cases hlt : k < n
            · have hkl : k < ops.length := by have := hops.1; omega
              obtain ⟨b, off, rfl, hbl, hcs⟩ := (hops.below hB.below).2 (by omega)
              obtain ⟨o, ho⟩ : ∃ o, ops[k] = o := ⟨_, rfl⟩
              obtain ⟨Ab, cb, hf, hcell⟩ := hcs k o (by rw [List.getElem?_eq_getElem hkl, ho])
              have y0 : wr.cell? ⟨b, off + k * 6, none⟩ = some (.int .i64 o.kind) := hcell 0 _ rfl
              have y1 : wr.cell? ⟨b, off + k * 6 + 1, none⟩ = some (.int .u64 o.n) := hcell 1 _ rfl
              have y2 : wr.cell? ⟨b, off + k * 6 + 2, none⟩ = some (.int .i64 o.i) := hcell 2 _ rfl
              have y3 : wr.cell? ⟨b, off + k * 6 + 3, none⟩ = some (.string o.s) := hcell 3 _ rfl
              have y4 : wr.cell? ⟨b, off + k * 6 + 4, none⟩ = some (.slice Ab o.b.length cb) := hcell 4 _ rfl
              have y5 : wr.cell? ⟨b, off + k * 6 + 5, none⟩ = some (.bool o.two) := hcell 5 _ rfl
              clear hcell hcs
              have hDd := hB.drewN 1
              have hnext : rturns (⟨xs, 0, 0⟩, ⟨ys, 0, 0⟩) (ops.take (k + 1)) = rturn (rturns (⟨xs, 0, 0⟩, ⟨ys, 0, 0⟩) (ops.take k)) o := by
                rw [List.take_succ_eq_append_getElem hkl, rturns_snoc, ho]
              have Hn := Lib.hid hnext
              clear hnext ho hops
              generalize rturns (⟨xs, 0, 0⟩, ⟨ys, 0, 0⟩) (ops.take k) = s at *
              by_cases ht : o.two = true
              · rw [ht] at y5
                go_wp2
                go_still_tail 10, (by kernel_rfl)
                change wpList _ _ _ _ _ (wr.drewN 1)
                generalize wr.drewN 1 = wd at *
                go_wp2_with fail
                have HC := take_any r2 q2 w.heap.size c2 c2' A2 A2' Ab cb s.2 o wd hDd.p2 hf.i1 hf.i2
                unfold opCells at HC
                rw [ht] at HC
                refine HC.mono ?_
                clear HC
                intro e w' hq
                obtain ⟨rfl, hT⟩ := hDd.second hq
                go_wp2
                go_roundw
                case rel =>
                  have hT' : Duo w w' r1 A1 c1 q1 A1' c1' r2 A2 c2 q2 A2' c2' h42 h45 (rturns (⟨xs, 0, 0⟩, ⟨ys, 0, 0⟩) (ops.take (k + 1))) := by rw [Hn.out]; unfold rturn; rw [if_pos ht]; exact hT
                  first | exact ⟨k + 1, by go_num, by omega, hT'⟩ | ((repeat apply Exists.intro); refine ⟨?_, rfl⟩; exact ⟨k + 1, by go_num, by omega, hT'⟩)
                case measure => simp [intOf]; omega
              · have ht' : o.two = false := by simpa using ht
                rw [ht'] at y5
                go_wp2
                go_still_tail 10, (by kernel_rfl)
                change wpList _ _ _ _ _ (wr.drewN 1)
                generalize wr.drewN 1 = wd at *
                go_wp2_with fail
                have HC := take_any r1 q1 w.heap.size c1 c1' A1 A1' Ab cb s.1 o wd hDd.p1 hf.i1 hf.i2
                unfold opCells at HC
                rw [ht'] at HC
                refine HC.mono ?_
                clear HC
                intro e w' hq
                obtain ⟨rfl, hT⟩ := hDd.first hq
                go_wp2
                go_roundw
                case rel =>
                  have hT' : Duo w w' r1 A1 c1 q1 A1' c1' r2 A2 c2 q2 A2' c2' h42 h45 (rturns (⟨xs, 0, 0⟩, ⟨ys, 0, 0⟩) (ops.take (k + 1))) := by rw [Hn.out]; unfold rturn; rw [if_neg ht]; exact hT
                  first | exact ⟨k + 1, by go_num, by omega, hT'⟩ | ((repeat apply Exists.intro); refine ⟨?_, rfl⟩; exact ⟨k + 1, by go_num, by omega, hT'⟩)
                case measure => simp [intOf]; omega
            · have hge : n ≤ k := by omega
              clear hops hD1
              have hbel := hB.below
              generalize rturns (⟨xs, 0, 0⟩, ⟨ys, 0, 0⟩) (ops.take k) = s at *
              go_wp2
              go_quiet (first | (go_at_call 16; refine quiet_looks (rend_any _ _ _ _ _ (by first | exact (hB.p1.isR.drewN _) | exact (hB.p2.isR.drewN _)))) | (go_at_call 17; refine quiet_looks (qend_any _ _ _ _ _ (by first | exact (hB.p1.isQ.drewN _) | exact (hB.p2.isQ.drewN _)))))
              go_wp2
              go_ret
              exact ⟨rfl, hbel.trans ⟨rfl, rfl, rfl, Nat.le_refl _, fun _ _ => rfl⟩⟩
  · have hq2' : ∀ k ∈ r2 :: ob A2, w4.heap.size ≤ k := hq2
    have hb5' : Below w4.heap.size w4 w5 := hb5
    have hq1' : ∀ k ∈ r1 :: ob A1, w3.heap.size ≤ k := fun k hk => by have := hq1 k hk; simp at this; omega
    have M := mid_set hR1 hR2 hq1' hq2' b4 hb5' u5 (Nat.le_refl _)
    obtain ⟨w6, hw6⟩ : ∃ w6, w6 = (w5.setCell ⟨w3.heap.size, 0, none⟩ (.pointer (some ⟨r1, 0, none⟩))).setCell ⟨w3.heap.size, 1, none⟩ (.pointer (some ⟨r2, 0, none⟩)) := ⟨_, rfl⟩
    rw [← hw6] at M ⊢
    clear hw6 z0 z1 z2 z3 u4 u4' u5 nn v0 v1 v2 v3 hb4 hb5 b4 b5 hq1 hq2 hq1' hq2' hb5' hR1 hR2 HO HO1 d0 d1 bd
    obtain ⟨h42, hh42⟩ : ∃ h, h = w3.heap.size := ⟨_, rfl⟩
    have M' : Mid w3 w6 r1 A1 c1 r2 A2 c2 h42 xs ys := by rw [hh42]; exact M
    rw [← hh42]
    clear M hh42
    have M := M'
    clear M'
    have M0 := M.iX.cell 0
    have M1 := M.iX.cell 1
    simp only [List.getElem?_toArray, List.getElem?_cons_zero, List.getElem?_cons_succ] at M0 M1
    have hb6 : Below w.heap.size w w6 := hb3.trans (M.below.mono hb3.size)
    have hs6 := hb6.size
    go_wp2_with fail
    refine (qnew_any A0 cA w.heap.size xs w6 (ha.below hb6) hs6 hla).mono ?_
    rintro e w7 ⟨q1, A1', c1', rfl, hQ1, hb7, hq1⟩
    have hb67 : Below w.heap.size w w7 := hb6.trans (hb7.mono hs6)
    have hs7 := hb67.size
    go_wp2_with fail
    refine (qnew_any B0 cB w.heap.size ys w7 (hb.below hb67) hs7 hlb).mono ?_
    rintro e w8 ⟨q2, A2', c2', rfl, hQ2, hb8, hq2⟩
    obtain ⟨hD, h3_9⟩ := duo_start M hb3 hQ1 hb7 hq1 hQ2 hb8 hq2
    obtain ⟨hD3, _⟩ := duo_start M (Below.refl _ _) hQ1 hb7 hq1 hQ2 hb8 hq2
    have hF1 := hD3.p1.foot
    have hF2 := hD3.p2.foot
    clear hD3
    have hb9 := hD.below
    have D0 := hD.y1.cell 0
    have D1 := hD.y1.cell 1
    have E0 := (h3_9.block h39 x39.lt).trans x39
    have F0 := cell_of_row _ h39 0 _ 39 (0, 0) E0
    have F1 := cell_of_row _ h39 1 _ 39 (0, 0) E0
    simp only [List.getElem?_toArray, List.getElem?_cons_zero, List.getElem?_cons_succ] at D0 D1 F0 F1
    have rA := ha.below hb9
    have rB := hb.below hb9
    have rK1 := hr1.below h3_9
    have rK2 := hr2.below h3_9
    go_wp2_with (go_at_call 12; refine (same_yes _ _ _ _ _ _ _ _ _ _ (by first | exact rK1 | exact rK2) (by first | exact rA | exact rB)).mono ?_; rintro e w' ⟨rfl, rfl⟩)
    have e9 : Blk (w8.alloc (.cells #[.pointer (some ⟨q1, 0, none⟩), .pointer (some ⟨q2, 0, none⟩)] 45)) h39 39 #[.slice K1 xs.length k1, .slice K2 ys.length k2] := E0
    have o1 := (Kept.of_below (S := []) h3_9).own hown1' (by simp)
    have o2 := (Kept.of_below (S := []) h3_9).own hown2' (by simp)
    clear D0 D1 E0 F0 F1 rA rB rK1 rK2 M0 M1 M hQ1 hQ2 hb7 hb8 hb67 hb6
    generalize w8.alloc (.cells #[.pointer (some ⟨q1, 0, none⟩), .pointer (some ⟨q2, 0, none⟩)] 45) = w9 at *
    generalize w8.heap.size = h45 at *
    have hS0 : Scr w9 w9 K1 xs.length k1 K2 ys.length k2 := ⟨Kept.refl _ _, ⟨_, o1⟩, ⟨_, o2⟩, fun k hk hm => by have := hl1 k hk; have := hg2 k hm; omega⟩
    have hKlo : ∀ k ∈ ob K1 ++ ob K2, w.heap.size ≤ k := fun k hk => (List.mem_append.1 hk).elim (hg1 k) (fun h => Nat.le_trans hs1 (hg2 k h))
    have hKhi : ∀ k ∈ ob K1 ++ ob K2, k < w3.heap.size := fun k hk => (List.mem_append.1 hk).elim (own_lt hown1' k) (own_lt hown2' k)
    have hf1 : ∀ k ∈ footR r1 A1 q1 A1', k ∉ ob K1 ++ ob K2 := fun k hk hm => by have := hF1 k hk; have := hKhi k hm; omega
    have hf2 : ∀ k ∈ footR r2 A2 q2 A2', k ∉ ob K1 ++ ob K2 := fun k hk hm => by have := hF2 k hk; have := hKhi k hm; omega
    clear hown1' hown2' hr1 hr2 hl1 hl2 hg1 hg2 hF1 hF2 hKhi o1 o2 hq1 hq2 h3_9 x39 hb9 hb1 hb2 hs1 hs2 hb3 hs6 hs7
    go_loopw [10] (fun i wr => ∃ k : Nat, i = .int .i64 k ∧ k ≤ 2 ∧ Scr w9 wr K1 xs.length k1 K2 ys.length k2) (fun i _ => 2 - (intOf i).toNat)
    case atStart => exact ⟨0, rfl, by omega, hS0⟩
    case round =>
      obtain ⟨k, rfl, hk, hS⟩ := hrel
      have E1 := hS0.blk hS e9 (by decide)
      have G0 := E1.cell 0
      have G1 := E1.cell 1
      simp only [List.getElem?_toArray, List.getElem?_cons_zero, List.getElem?_cons_succ] at G0 G1
      clear E1
      by_cases h0 : k = 0
      · subst h0
        go_wp2
        obtain ⟨wo, rfl⟩ : ∃ wo : World, wo = wr := ⟨_, rfl⟩
        go_loopw [11] (fun j wr => ∃ m : Nat, j = .int .i64 m ∧ m ≤ xs.length ∧ Scr w9 wr K1 xs.length k1 K2 ys.length k2) (fun j _ => xs.length - (intOf j).toNat)
        case atStart => exact ⟨0, rfl, by omega, hS⟩
        case round =>
          obtain ⟨m, rfl, hm, hS1⟩ := hrel
          have E1 := hS0.blk hS1 e9 (by decide)
          have G0 := E1.cell 0
          simp only [List.getElem?_toArray, List.getElem?_cons_zero] at G0
          clear E1
          by_cases hlt : m < xs.length
          · obtain ⟨g, u, hK, hc, hfz, hst⟩ := hS1.at1 hlt
            subst hK
            go_wp2
            go_roundw
            case rel => exact ⟨m + 1, by go_num, by omega, hst _⟩
            case measure => simp [intOf]; omega
          · have hge : xs.length ≤ m := by omega
            go_wp2
            go_roundw
            case rel => first | exact ⟨1, by go_num, by omega, hS1⟩ | ((repeat apply Exists.intro); refine ⟨?_, rfl⟩; exact ⟨1, by go_num, by omega, hS1⟩)
            case measure => simp [intOf]
      · by_cases h1 : k = 1
        · subst h1
          go_wp2
          obtain ⟨wo, rfl⟩ : ∃ wo : World, wo = wr := ⟨_, rfl⟩
          go_loopw [11] (fun j wr => ∃ m : Nat, j = .int .i64 m ∧ m ≤ ys.length ∧ Scr w9 wr K1 xs.length k1 K2 ys.length k2) (fun j _ => ys.length - (intOf j).toNat)
          case atStart => exact ⟨0, rfl, by omega, hS⟩
          case round =>
            obtain ⟨m, rfl, hm, hS1⟩ := hrel
            have E1 := hS0.blk hS1 e9 (by decide)
            have G1 := E1.cell 1
            simp only [List.getElem?_toArray, List.getElem?_cons_zero, List.getElem?_cons_succ] at G1
            clear E1
            by_cases hlt : m < ys.length
            · obtain ⟨g, u, hK, hc, hfz, hst⟩ := hS1.at2 hlt
              subst hK
              go_wp2
              go_roundw
              case rel => exact ⟨m + 1, by go_num, by omega, hst _⟩
              case measure => simp [intOf]; omega
            · have hge : ys.length ≤ m := by omega
              go_wp2
              go_roundw
              case rel => first | exact ⟨2, by go_num, by omega, hS1⟩ | ((repeat apply Exists.intro); refine ⟨?_, rfl⟩; exact ⟨2, by go_num, by omega, hS1⟩)
              case measure => simp [intOf]
        · obtain rfl : k = 2 := by omega
          have hD1 := hD.scr hS0 hS hf1 hf2 hKlo
          clear hD hS0 hS hf1 hf2 hKlo e9 G0 G1 ha hb
          go_wp2
          obtain ⟨wo, rfl⟩ : ∃ wo : World, wo = wr := ⟨_, rfl⟩
          go_loopw [12] (fun i wr => ∃ k : Nat, i = .int .i64 k ∧ k ≤ n ∧ Duo w wr r1 A1 c1 q1 A1' c1' r2 A2 c2 q2 A2' c2' h42 h45 (rturns (⟨xs, 0, 0⟩, ⟨ys, 0, 0⟩) (ops.take k))) (fun i _ => n - (intOf i).toNat)
          case atStart => exact ⟨0, rfl, Nat.zero_le _, hD1⟩
          case round =>
            obtain ⟨k, rfl, hk, hB⟩ := hrel
            have z1 := hB.y1.cell 0
            have z2 := hB.y1.cell 1
            have z3 := hB.y2.cell 0
            have z4 := hB.y2.cell 1
            simp only [List.getElem?_toArray, List.getElem?_cons_zero, List.getElem?_cons_succ] at z1 z2 z3 z4
            by_cases hlt : k < n
            · have hkl : k < ops.length := by have := hops.1; omega
              obtain ⟨b, off, rfl, hbl, hcs⟩ := (hops.below hB.below).2 (by omega)
              obtain ⟨o, ho⟩ : ∃ o, ops[k] = o := ⟨_, rfl⟩
              obtain ⟨Ab, cb, hf, hcell⟩ := hcs k o (by rw [List.getElem?_eq_getElem hkl, ho])
              have y0 : wr.cell? ⟨b, off + k * 6, none⟩ = some (.int .i64 o.kind) := hcell 0 _ rfl
              have y1 : wr.cell? ⟨b, off + k * 6 + 1, none⟩ = some (.int .u64 o.n) := hcell 1 _ rfl
              have y2 : wr.cell? ⟨b, off + k * 6 + 2, none⟩ = some (.int .i64 o.i) := hcell 2 _ rfl
              have y3 : wr.cell? ⟨b, off + k * 6 + 3, none⟩ = some (.string o.s) := hcell 3 _ rfl
              have y4 : wr.cell? ⟨b, off + k * 6 + 4, none⟩ = some (.slice Ab o.b.length cb) := hcell 4 _ rfl
              have y5 : wr.cell? ⟨b, off + k * 6 + 5, none⟩ = some (.bool o.two) := hcell 5 _ rfl
              clear hcell hcs
              have hDd := hB.drewN 1
              have hnext : rturns (⟨xs, 0, 0⟩, ⟨ys, 0, 0⟩) (ops.take (k + 1)) = rturn (rturns (⟨xs, 0, 0⟩, ⟨ys, 0, 0⟩) (ops.take k)) o := by
                rw [List.take_succ_eq_append_getElem hkl, rturns_snoc, ho]
              have Hn := Lib.hid hnext
              clear hnext ho hops
              generalize rturns (⟨xs, 0, 0⟩, ⟨ys, 0, 0⟩) (ops.take k) = s at *
              by_cases ht : o.two = true
              · rw [ht] at y5
                go_wp2
                go_still_tail 10, (by kernel_rfl)
                change wpList _ _ _ _ _ (wr.drewN 1)
                generalize wr.drewN 1 = wd at *
                go_wp2_with fail
                have HC := take_any r2 q2 w.heap.size c2 c2' A2 A2' Ab cb s.2 o wd hDd.p2 hf.i1 hf.i2
                unfold opCells at HC
                rw [ht] at HC
                refine HC.mono ?_
                clear HC
                intro e w' hq
                obtain ⟨rfl, hT⟩ := hDd.second hq
                go_wp2
                go_roundw
                case rel =>
                  have hT' : Duo w w' r1 A1 c1 q1 A1' c1' r2 A2 c2 q2 A2' c2' h42 h45 (rturns (⟨xs, 0, 0⟩, ⟨ys, 0, 0⟩) (ops.take (k + 1))) := by rw [Hn.out]; unfold rturn; rw [if_pos ht]; exact hT
                  first | exact ⟨k + 1, by go_num, by omega, hT'⟩ | ((repeat apply Exists.intro); refine ⟨?_, rfl⟩; exact ⟨k + 1, by go_num, by omega, hT'⟩)
                case measure => simp [intOf]; omega
              · have ht' : o.two = false := by simpa using ht
                rw [ht'] at y5
                go_wp2
                go_still_tail 10, (by kernel_rfl)
                change wpList _ _ _ _ _ (wr.drewN 1)
                generalize wr.drewN 1 = wd at *
                go_wp2_with fail
                have HC := take_any r1 q1 w.heap.size c1 c1' A1 A1' Ab cb s.1 o wd hDd.p1 hf.i1 hf.i2
                unfold opCells at HC
                rw [ht'] at HC
                refine HC.mono ?_
                clear HC
                intro e w' hq
                obtain ⟨rfl, hT⟩ := hDd.first hq
                go_wp2
                go_roundw
                case rel =>
                  have hT' : Duo w w' r1 A1 c1 q1 A1' c1' r2 A2 c2 q2 A2' c2' h42 h45 (rturns (⟨xs, 0, 0⟩, ⟨ys, 0, 0⟩) (ops.take (k + 1))) := by rw [Hn.out]; unfold rturn; rw [if_neg ht]; exact hT
                  first | exact ⟨k + 1, by go_num, by omega, hT'⟩ | ((repeat apply Exists.intro); refine ⟨?_, rfl⟩; exact ⟨k + 1, by go_num, by omega, hT'⟩)
                case measure => simp [intOf]; omega
            · have hge : n ≤ k := by omega
              clear hops hD1
              have hbel := hB.below
              generalize rturns (⟨xs, 0, 0⟩, ⟨ys, 0, 0⟩) (ops.take k) = s at *
              go_wp2
              go_quiet (first | (go_at_call 16; refine quiet_looks (rend_any _ _ _ _ _ (by first | exact (hB.p1.isR.drewN _) | exact (hB.p2.isR.drewN _)))) | (go_at_call 17; refine quiet_looks (qend_any _ _ _ _ _ (by first | exact (hB.p1.isQ.drewN _) | exact (hB.p2.isQ.drewN _)))))
              go_wp2
              go_ret
              exact ⟨rfl, hbel.trans ⟨rfl, rfl, rfl, Nat.le_refl _, fun _ _ => rfl⟩⟩
end Go.Proofs.Ytidiohmpmjhbaaa
