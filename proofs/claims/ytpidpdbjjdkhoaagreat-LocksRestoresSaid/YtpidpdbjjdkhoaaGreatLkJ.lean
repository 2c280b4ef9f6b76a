/- Rows of identities and of locks: Insert where there is no room; Insert at large. -/
import Derived.Test.YtpidpdbjjdkhoaaGreatLkI
namespace Go.Proofs.YtpidpdbjjdkhoaaGreat
open Go.RowKit
set_option linter.unusedSimpArgs false
set_option linter.unusedVariables false
attribute [local go_sem ↓] Go.wp_at_zero Go.wp_at_succ

theorem own_made {v : World} {e : TypeId} {size n G : Nat} {xs Z : List Value} (hl : xs.length = n * size) (hG : n ≤ G) (hm : G ≤ maxLen) (hZ : Z.length = (G - n) * size) : (v.alloc (.cells (xs ++ Z).toArray e)).ownsRow 0 e size (.slice (some ⟨v.heap.size, 0, none⟩) n G) n xs := by
  refine ⟨hl, .inr ⟨v.heap.size, G, _, rfl, Nat.zero_le _, heap_alloc_new v _, hG, hm, ?_, ?_⟩⟩
  · simp only [List.size_toArray, List.length_append, hl, hZ, ← Nat.add_mul]
    congr 1
    omega
  · rw [← hl]
    exact List.take_left
set_option maxHeartbeats 4000000 in
set_option maxRecDepth 100000 in
theorem insGrowI (g c vb i : Nat) (l : List Idn) (x : Idn) (w : World) (hown : w.ownsRow 0 29 2 (.slice (some ⟨g, 0, none⟩) l.length c) l.length (rc idR l)) (hv : Blk w vb 29 #[.int .i64 x.n, .int .i64 x.c]) (hne : vb ≠ g) (hi : i < l.length) (hroom : c < l.length + 1) (hl : l.length ≤ 1000000) :
    Calls Tryz.prog 84 #[.slice (some ⟨g, 0, none⟩) l.length c, .int .i64 i, .slice (some ⟨vb, 0, none⟩) 1 1] w (InsEndsI (some ⟨g, 0, none⟩) l x i w) := by
  obtain ⟨i0, hi0, hz0, hzs, hzb⟩ := info_parts Tryz.infoId
  have hcap := own_cap hown
  have hgl : g < w.heap.size := own_lt hown g (by simp [ob])
  have hvl := hv.lt
  have hdl : (rc idR (l.drop i)).length = (l.length - i) * 2 := rc_len_of (by rw [List.length_drop])
  have htl : (rc idR (l.take i)).length = i * 2 := rc_len_of (by rw [List.length_take]; omega)
  have hold : (Builtin.firstCells i0.size i (.slice (some ⟨g, 0, none⟩) i c)).run Tryz.prog w.drew = .ok (rc idR (l.take i)).toArray w.drew := by
    rw [hzs]
    exact run_firstCells_some w.drew 2 i ⟨g, 0, none⟩ i c (rc idR (l.take i)) htl (fun j v hj => by
      rw [Addr.add_lit, Nat.zero_add]
      rw [← rc_take (R := idR), List.getElem?_take] at hj
      split at hj
      · exact (hown.cellAt j (by have := (List.getElem?_eq_some_iff.1 hj).1; rw [hown.1] at this; exact this)).trans hj
      · cases hj)
  have hkk : (l.length : Int) + 1 - (i : Int) = ((l.length + 1 - i : Nat) : Int) := by omega
  have hik : i + (l.length + 1 - i) = l.length + 1 := by omega
  have hrz : ∀ ty, (Builtin.append_ #[36, 3] ty #[.slice (some ⟨g, 0, none⟩) i c, .int .i64 ((l.length : Int) + 1 - (i : Int))]).run Tryz.prog w =
      .ok (.slice (some ⟨w.heap.size, 0, none⟩) (l.length + 1) (grownCap w (l.length + 1) c 29)) (w.drew.alloc (.cells ((rc idR (l.take i)).toArray ++ Builtin.zeroCells (Value.cells (.agg #[.int .i64 0, .int .i64 0])) (l.length + 1 - i) ++ Builtin.zeroCells (Value.cells (.agg #[.int .i64 0, .int .i64 0])) (grownCap w (l.length + 1) c 29 - (l.length + 1))) 29)) := fun ty => by
    have h := Lib.run_append_grow_zeros w 36 3 ty 29 i0 _ .i64 .i64 Tryz.underlying36 Tryz.underlying3 hi0 hz0 (some ⟨g, 0, none⟩) i c (rc idR (l.take i)) hold (l.length + 1 - i) (by omega) (by omega) (by omega) (by omega) (by rw [hzb]; omega) (by rw [hzb, hik]; exact growslice_fits hroom (by omega))
    rw [hik] at h
    rw [hkk]
    exact h
  obtain ⟨G, hG⟩ : ∃ G, G = grownCap w (l.length + 1) c 29 := ⟨_, rfl⟩
  have hGn : l.length + 1 ≤ G := by rw [hG]; exact grownCap_ge w _ _ _
  have hGm : G ≤ maxLen := by rw [hG]; exact grownCap_le_maxLen w (l.length + 1) c 29 (by simp only [maxLen]; omega)
  rw [← hG] at hrz
  clear hG
  obtain ⟨Z1, hZ1⟩ : ∃ Z1, Z1 = (Builtin.zeroCells (Value.cells (.agg #[.int .i64 0, .int .i64 0])) (l.length + 1 - i)).toList := ⟨_, rfl⟩
  obtain ⟨Z2, hZ2⟩ : ∃ Z2, Z2 = (Builtin.zeroCells (Value.cells (.agg #[.int .i64 0, .int .i64 0])) (G - (l.length + 1))).toList := ⟨_, rfl⟩
  have hl1 : Z1.length = (l.length + 1 - i) * 2 := by rw [hZ1, Array.length_toList, size_zeroCells]; rfl
  have hl2 : Z2.length = (G - (l.length + 1)) * 2 := by rw [hZ2, Array.length_toList, size_zeroCells]; rfl
  have hROW : (rc idR (l.take i)).toArray ++ Builtin.zeroCells (Value.cells (.agg #[.int .i64 0, .int .i64 0])) (l.length + 1 - i) ++ Builtin.zeroCells (Value.cells (.agg #[.int .i64 0, .int .i64 0])) (G - (l.length + 1)) = ((rc idR (l.take i) ++ Z1) ++ Z2).toArray := by
    apply Array.ext'
    rw [hZ1, hZ2]
    simp
  rw [hROW] at hrz
  have hownN : (w.drew.alloc (.cells ((rc idR (l.take i) ++ Z1) ++ Z2).toArray 29)).ownsRow 0 29 2 (.slice (some ⟨w.heap.size, 0, none⟩) (l.length + 1) G) (l.length + 1) (rc idR (l.take i) ++ Z1) :=
    own_made (v := w.drew) (by rw [List.length_append, htl, hl1, ← Nat.add_mul, hik]) hGn hGm hl2
  obtain ⟨W1, hW1⟩ : ∃ W1, W1 = w.drew.alloc (.cells ((rc idR (l.take i) ++ Z1) ++ Z2).toArray 29) := ⟨_, rfl⟩
  have hb1 : Below w.heap.size w W1 := by rw [hW1]; exact (below_drewN (Below.refl _ _) 1).alloc (Nat.le_refl _) _
  rw [← hW1] at hrz hownN
  have hv1 : Blk W1 vb 29 #[.int .i64 x.n, .int .i64 x.c] := hv.below hb1 hvl
  have hcp1 : ∀ ty dc, (Builtin.copy_ #[36, 36] ty #[.slice (some ⟨w.heap.size, i * 2, none⟩) (l.length + 1 - i) dc, .slice (some ⟨vb, 0, none⟩) 1 1]).run Tryz.prog W1 = .ok (goInt (1 : Nat)) (W1.setCells w.heap.size (i * 2) [.int .i64 x.n, .int .i64 x.c]) := fun ty dc =>
    run_copy_sz W1 36 ty 29 2 w.heap.size (i * 2) (l.length + 1 - i) dc ⟨vb, 0, none⟩ 1 1 1 [.int .i64 x.n, .int .i64 x.c] Tryz.underlying36 (by kernel_rfl) (by simp only [Nat.min_def]; split <;> omega) rfl
      (fun j v hjv => by rw [Addr.add_lit, Nat.zero_add, hv1.cell]; simpa using hjv) (fun j hjl => own_there hownN (o := i * 2) (m := 2) (by omega) j hjl) (idR.one x)
  have hown2 : (W1.setCells w.heap.size (i * 2) [.int .i64 x.n, .int .i64 x.c]).ownsRow 0 29 2 (.slice (some ⟨w.heap.size, 0, none⟩) (l.length + 1) G) (l.length + 1) (setAll (rc idR (l.take i) ++ Z1) (i * 2) [.int .i64 x.n, .int .i64 x.c]) := storedAll [.int .i64 x.n, .int .i64 x.c] (p := i * 2) hownN
  have hb2 : Below w.heap.size w (W1.setCells w.heap.size (i * 2) [.int .i64 x.n, .int .i64 x.c]) := belowAll _ hb1 (Nat.le_refl _)
  obtain ⟨W2, hW2⟩ : ∃ W2, W2 = W1.setCells w.heap.size (i * 2) [.int .i64 x.n, .int .i64 x.c] := ⟨_, rfl⟩
  rw [← hW2] at hcp1 hown2 hb2
  have hcp2 : ∀ ty dc sc, (Builtin.copy_ #[36, 36] ty #[.slice (some ⟨w.heap.size, (i + 1) * 2, none⟩) (l.length - i) dc, .slice (some ⟨g, i * 2, none⟩) (l.length - i) sc]).run Tryz.prog W2.drew = .ok (goInt (l.length - i : Nat)) (W2.drew.setCells w.heap.size ((i + 1) * 2) (rc idR (l.drop i))) := fun ty dc sc =>
    run_copy_sz W2.drew 36 ty 29 2 w.heap.size ((i + 1) * 2) (l.length - i) dc ⟨g, i * 2, none⟩ (l.length - i) sc (l.length - i) _ Tryz.underlying36 (by kernel_rfl) (by simp [Nat.min_def]) hdl
      (fun j v hjv => by
        rw [Addr.add_lit]
        rw [← rc_drop (R := idR), List.getElem?_drop] at hjv
        refine (hb2.cell (p := ⟨g, i * 2 + j, none⟩) hgl).trans ?_
        exact (hown.cellAt _ (by have := (List.getElem?_eq_some_iff.1 hjv).1; rw [hown.1] at this; exact this)).trans hjv)
      (there_mono (own_there hown2 (o := (i + 1) * 2) (m := (l.length - i) * 2) (by omega)) (by rw [hdl]; exact Nat.le_refl _)) (rc_one _)
  have HFIN : Hid ((W2.drew.setCells w.heap.size ((i + 1) * 2) (rc idR (l.drop i))).ownsRow 0 29 2 (.slice (some ⟨w.heap.size, 0, none⟩) (l.length + 1) G) (l.length + 1) (rc idR (l.take i ++ x :: l.drop i)) ∧ Below w.heap.size w (W2.drew.setCells w.heap.size ((i + 1) * 2) (rc idR (l.drop i)))) := Lib.hid (by
    have h1 := storedAll (rc idR (l.drop i)) (p := (i + 1) * 2) (w := W2.drew) hown2
    have h2 := ins_new (R := idR) (x := x) hi (Z := Z1) (by rw [hl1]; rfl)
    rw [show [.int .i64 x.n, .int .i64 x.c] = idR.cells x from rfl] at h1
    rw [show ((i + 1) * idR.sz) = (i + 1) * 2 from rfl, show i * idR.sz = i * 2 from rfl] at h2
    rw [h2] at h1
    exact ⟨h1, belowAll _ (below_drewN hb2 1) (Nat.le_refl _)⟩)
  have hz2 : ¬ ((i : Int) = (l.length : Int)) := by omega
  have hz3 : ((i : Int) == (l.length : Int)) = false := beq_eq_false_iff_ne.2 (by omega)
  have hz4 : decide ((c : Int) < (l.length : Int) + 1) = true := decide_eq_true (by omega)
  have hz5 : (c : Int) < (l.length : Int) + 1 := by omega
  have hw1 : IntKind.i64.wrap ((i : Int) + 1) = (i : Int) + 1 := by rw [IntKind.wrap_i64]; omega
  have hbb1 : (0 : Int) ≤ (i : Int) + 1 := by omega
  have htn : ((i : Int) + 1).toNat = i + 1 := by omega
  have hbb3 : (i : Int) ≤ (l.length : Int) + 1 := by omega
  have hbb4 : ¬ (c = i) := by have := hcap.1; omega
  have hbb5 : (i : Int) ≤ (l.length : Int) := by omega
  have hbb6 : (i : Int) ≤ (c : Int) := by have := hcap.1; omega
  have hbb7 : (i : Int) + 1 ≤ (l.length : Int) + 1 := by omega
  have hbb8 : ¬ (G = i) := by omega
  have hbb9 : ¬ (G = i + 1) := by omega
  have hcm : (c : Int) ≤ 9223372036854775807 := by have := hcap.2; simp only [maxLen] at this; omega
  have hgm : (G : Int) ≤ 9223372036854775807 := by simp only [maxLen] at hGm; omega
  clear hown hown2 hownN hdl htl hv1 hcap hW1 hW2 hv hb1 hb2 hROW hZ1 hZ2 hl1 hl2 hold hkk hik hGm hGn
  go_enter Tryz.func84, Tryz.ntmps84
  go_wp2_with (first
    | (at_builtin; refine Lib.wpList_append_run _ rfl _ _ _ _ rfl _ _ rfl rfl _ _ (hrz _) ?_)
    | (at_builtin; refine wpList_copy_runI _ rfl _ _ 36 36 rfl _ _ rfl rfl (hcp1 _ _) ?_))
  go_region_law (refine step_copy_runI rfl _ _ 36 36 rfl _ _ (by simp [Act.eval, Act.put]) (by simp [Act.eval, Act.put]) (hcp2 _ _ _) ?_)
  go_wp2
  go_ret
  exact ⟨_, G, rfl, HFIN.out.1, ⟨Kept.of_below HFIN.out.2, fun k hk => .inr (by rw [List.mem_singleton.1 hk]; exact Nat.le_refl _)⟩⟩
theorem insI (A : Option Addr) (c vb i : Nat) (l : List Idn) (x : Idn) (w : World) (hown : w.ownsRow 0 29 2 (.slice A l.length c) l.length (rc idR l)) (hv : Blk w vb 29 #[.int .i64 x.n, .int .i64 x.c]) (hne : vb ∉ ob A) (hi : i ≤ l.length) (hl : l.length ≤ 1000000) :
    Calls Tryz.prog 84 #[.slice A l.length c, .int .i64 i, .slice (some ⟨vb, 0, none⟩) 1 1] w (InsEndsI A l x i w) := by
  by_cases e : i = l.length
  · rw [e]
    exact insEndI A c vb l x w hown hv hl
  · obtain ⟨g, rfl, _⟩ := own_some hown (by omega)
    by_cases hr : l.length + 1 ≤ c
    · exact insRoomI g c vb i l x w hown hv (by simpa [ob] using hne) (by omega) hr hl
    · exact insGrowI g c vb i l x w hown hv (by simpa [ob] using hne) (by omega) (by omega) hl
set_option maxHeartbeats 4000000 in
set_option maxRecDepth 100000 in
theorem insGrowL (g c vb i : Nat) (l : List Lk) (x : Lk) (w : World) (hown : w.ownsRow 0 62 4 (.slice (some ⟨g, 0, none⟩) l.length c) l.length (rc lkR l)) (hv : Blk w vb 62 #[.string x.key, .int .i64 x.id.n, .int .i64 x.id.c, .int .i64 x.mode]) (hne : vb ≠ g) (hi : i < l.length) (hroom : c < l.length + 1) (hl : l.length ≤ 1000000) :
    Calls Tryz.prog 86 #[.slice (some ⟨g, 0, none⟩) l.length c, .int .i64 i, .slice (some ⟨vb, 0, none⟩) 1 1] w (InsEndsL (some ⟨g, 0, none⟩) l x i w) := by
  obtain ⟨i0, hi0, hz0, hzs, hzb⟩ := info_parts Tryz.infoLk
  have hcap := own_cap hown
  have hgl : g < w.heap.size := own_lt hown g (by simp [ob])
  have hvl := hv.lt
  have hdl : (rc lkR (l.drop i)).length = (l.length - i) * 4 := rc_len_of (by rw [List.length_drop])
  have htl : (rc lkR (l.take i)).length = i * 4 := rc_len_of (by rw [List.length_take]; omega)
  have hold : (Builtin.firstCells i0.size i (.slice (some ⟨g, 0, none⟩) i c)).run Tryz.prog w.drew = .ok (rc lkR (l.take i)).toArray w.drew := by
    rw [hzs]
    exact run_firstCells_some w.drew 4 i ⟨g, 0, none⟩ i c (rc lkR (l.take i)) htl (fun j v hj => by
      rw [Addr.add_lit, Nat.zero_add]
      rw [← rc_take (R := lkR), List.getElem?_take] at hj
      split at hj
      · exact (hown.cellAt j (by have := (List.getElem?_eq_some_iff.1 hj).1; rw [hown.1] at this; exact this)).trans hj
      · cases hj)
  have hkk : (l.length : Int) + 1 - (i : Int) = ((l.length + 1 - i : Nat) : Int) := by omega
  have hik : i + (l.length + 1 - i) = l.length + 1 := by omega
  have hrz : ∀ ty, (Builtin.append_ #[34, 3] ty #[.slice (some ⟨g, 0, none⟩) i c, .int .i64 ((l.length : Int) + 1 - (i : Int))]).run Tryz.prog w =
      .ok (.slice (some ⟨w.heap.size, 0, none⟩) (l.length + 1) (grownCap w (l.length + 1) c 62)) (w.drew.alloc (.cells ((rc lkR (l.take i)).toArray ++ Builtin.zeroCells (Value.cells (.agg #[.string ⟨#[]⟩, .int .i64 0, .int .i64 0, .int .i64 0])) (l.length + 1 - i) ++ Builtin.zeroCells (Value.cells (.agg #[.string ⟨#[]⟩, .int .i64 0, .int .i64 0, .int .i64 0])) (grownCap w (l.length + 1) c 62 - (l.length + 1))) 62)) := fun ty => by
    have h := Lib.run_append_grow_zeros w 34 3 ty 62 i0 _ .i64 .i64 Tryz.underlying34 Tryz.underlying3 hi0 hz0 (some ⟨g, 0, none⟩) i c (rc lkR (l.take i)) hold (l.length + 1 - i) (by omega) (by omega) (by omega) (by omega) (by rw [hzb]; omega) (by rw [hzb, hik]; exact growslice_fits hroom (by omega))
    rw [hik] at h
    rw [hkk]
    exact h
  obtain ⟨G, hG⟩ : ∃ G, G = grownCap w (l.length + 1) c 62 := ⟨_, rfl⟩
  have hGn : l.length + 1 ≤ G := by rw [hG]; exact grownCap_ge w _ _ _
  have hGm : G ≤ maxLen := by rw [hG]; exact grownCap_le_maxLen w (l.length + 1) c 62 (by simp only [maxLen]; omega)
  rw [← hG] at hrz
  clear hG
  obtain ⟨Z1, hZ1⟩ : ∃ Z1, Z1 = (Builtin.zeroCells (Value.cells (.agg #[.string ⟨#[]⟩, .int .i64 0, .int .i64 0, .int .i64 0])) (l.length + 1 - i)).toList := ⟨_, rfl⟩
  obtain ⟨Z2, hZ2⟩ : ∃ Z2, Z2 = (Builtin.zeroCells (Value.cells (.agg #[.string ⟨#[]⟩, .int .i64 0, .int .i64 0, .int .i64 0])) (G - (l.length + 1))).toList := ⟨_, rfl⟩
  have hl1 : Z1.length = (l.length + 1 - i) * 4 := by rw [hZ1, Array.length_toList, size_zeroCells]; rfl
  have hl2 : Z2.length = (G - (l.length + 1)) * 4 := by rw [hZ2, Array.length_toList, size_zeroCells]; rfl
  have hROW : (rc lkR (l.take i)).toArray ++ Builtin.zeroCells (Value.cells (.agg #[.string ⟨#[]⟩, .int .i64 0, .int .i64 0, .int .i64 0])) (l.length + 1 - i) ++ Builtin.zeroCells (Value.cells (.agg #[.string ⟨#[]⟩, .int .i64 0, .int .i64 0, .int .i64 0])) (G - (l.length + 1)) = ((rc lkR (l.take i) ++ Z1) ++ Z2).toArray := by
    apply Array.ext'
    rw [hZ1, hZ2]
    simp
  rw [hROW] at hrz
  have hownN : (w.drew.alloc (.cells ((rc lkR (l.take i) ++ Z1) ++ Z2).toArray 62)).ownsRow 0 62 4 (.slice (some ⟨w.heap.size, 0, none⟩) (l.length + 1) G) (l.length + 1) (rc lkR (l.take i) ++ Z1) :=
    own_made (v := w.drew) (by rw [List.length_append, htl, hl1, ← Nat.add_mul, hik]) hGn hGm hl2
  obtain ⟨W1, hW1⟩ : ∃ W1, W1 = w.drew.alloc (.cells ((rc lkR (l.take i) ++ Z1) ++ Z2).toArray 62) := ⟨_, rfl⟩
  have hb1 : Below w.heap.size w W1 := by rw [hW1]; exact (below_drewN (Below.refl _ _) 1).alloc (Nat.le_refl _) _
  rw [← hW1] at hrz hownN
  have hv1 : Blk W1 vb 62 #[.string x.key, .int .i64 x.id.n, .int .i64 x.id.c, .int .i64 x.mode] := hv.below hb1 hvl
  have hcp1 : ∀ ty dc, (Builtin.copy_ #[34, 34] ty #[.slice (some ⟨w.heap.size, i * 4, none⟩) (l.length + 1 - i) dc, .slice (some ⟨vb, 0, none⟩) 1 1]).run Tryz.prog W1 = .ok (goInt (1 : Nat)) (W1.setCells w.heap.size (i * 4) [.string x.key, .int .i64 x.id.n, .int .i64 x.id.c, .int .i64 x.mode]) := fun ty dc =>
    run_copy_sz W1 34 ty 62 4 w.heap.size (i * 4) (l.length + 1 - i) dc ⟨vb, 0, none⟩ 1 1 1 [.string x.key, .int .i64 x.id.n, .int .i64 x.id.c, .int .i64 x.mode] Tryz.underlying34 (by kernel_rfl) (by simp only [Nat.min_def]; split <;> omega) rfl
      (fun j v hjv => by rw [Addr.add_lit, Nat.zero_add, hv1.cell]; simpa using hjv) (fun j hjl => own_there hownN (o := i * 4) (m := 4) (by omega) j hjl) (lkR.one x)
  have hown2 : (W1.setCells w.heap.size (i * 4) [.string x.key, .int .i64 x.id.n, .int .i64 x.id.c, .int .i64 x.mode]).ownsRow 0 62 4 (.slice (some ⟨w.heap.size, 0, none⟩) (l.length + 1) G) (l.length + 1) (setAll (rc lkR (l.take i) ++ Z1) (i * 4) [.string x.key, .int .i64 x.id.n, .int .i64 x.id.c, .int .i64 x.mode]) := storedAll [.string x.key, .int .i64 x.id.n, .int .i64 x.id.c, .int .i64 x.mode] (p := i * 4) hownN
  have hb2 : Below w.heap.size w (W1.setCells w.heap.size (i * 4) [.string x.key, .int .i64 x.id.n, .int .i64 x.id.c, .int .i64 x.mode]) := belowAll _ hb1 (Nat.le_refl _)
  obtain ⟨W2, hW2⟩ : ∃ W2, W2 = W1.setCells w.heap.size (i * 4) [.string x.key, .int .i64 x.id.n, .int .i64 x.id.c, .int .i64 x.mode] := ⟨_, rfl⟩
  rw [← hW2] at hcp1 hown2 hb2
  have hcp2 : ∀ ty dc sc, (Builtin.copy_ #[34, 34] ty #[.slice (some ⟨w.heap.size, (i + 1) * 4, none⟩) (l.length - i) dc, .slice (some ⟨g, i * 4, none⟩) (l.length - i) sc]).run Tryz.prog W2.drew = .ok (goInt (l.length - i : Nat)) (W2.drew.setCells w.heap.size ((i + 1) * 4) (rc lkR (l.drop i))) := fun ty dc sc =>
    run_copy_sz W2.drew 34 ty 62 4 w.heap.size ((i + 1) * 4) (l.length - i) dc ⟨g, i * 4, none⟩ (l.length - i) sc (l.length - i) _ Tryz.underlying34 (by kernel_rfl) (by simp [Nat.min_def]) hdl
      (fun j v hjv => by
        rw [Addr.add_lit]
        rw [← rc_drop (R := lkR), List.getElem?_drop] at hjv
        refine (hb2.cell (p := ⟨g, i * 4 + j, none⟩) hgl).trans ?_
        exact (hown.cellAt _ (by have := (List.getElem?_eq_some_iff.1 hjv).1; rw [hown.1] at this; exact this)).trans hjv)
      (there_mono (own_there hown2 (o := (i + 1) * 4) (m := (l.length - i) * 4) (by omega)) (by rw [hdl]; exact Nat.le_refl _)) (rc_one _)
  have HFIN : Hid ((W2.drew.setCells w.heap.size ((i + 1) * 4) (rc lkR (l.drop i))).ownsRow 0 62 4 (.slice (some ⟨w.heap.size, 0, none⟩) (l.length + 1) G) (l.length + 1) (rc lkR (l.take i ++ x :: l.drop i)) ∧ Below w.heap.size w (W2.drew.setCells w.heap.size ((i + 1) * 4) (rc lkR (l.drop i)))) := Lib.hid (by
    have h1 := storedAll (rc lkR (l.drop i)) (p := (i + 1) * 4) (w := W2.drew) hown2
    have h2 := ins_new (R := lkR) (x := x) hi (Z := Z1) (by rw [hl1]; rfl)
    rw [show [.string x.key, .int .i64 x.id.n, .int .i64 x.id.c, .int .i64 x.mode] = lkR.cells x from rfl] at h1
    rw [show ((i + 1) * lkR.sz) = (i + 1) * 4 from rfl, show i * lkR.sz = i * 4 from rfl] at h2
    rw [h2] at h1
    exact ⟨h1, belowAll _ (below_drewN hb2 1) (Nat.le_refl _)⟩)
  have hz2 : ¬ ((i : Int) = (l.length : Int)) := by omega
  have hz3 : ((i : Int) == (l.length : Int)) = false := beq_eq_false_iff_ne.2 (by omega)
  have hz4 : decide ((c : Int) < (l.length : Int) + 1) = true := decide_eq_true (by omega)
  have hz5 : (c : Int) < (l.length : Int) + 1 := by omega
  have hw1 : IntKind.i64.wrap ((i : Int) + 1) = (i : Int) + 1 := by rw [IntKind.wrap_i64]; omega
  have hbb1 : (0 : Int) ≤ (i : Int) + 1 := by omega
  have htn : ((i : Int) + 1).toNat = i + 1 := by omega
  have hbb3 : (i : Int) ≤ (l.length : Int) + 1 := by omega
  have hbb4 : ¬ (c = i) := by have := hcap.1; omega
  have hbb5 : (i : Int) ≤ (l.length : Int) := by omega
  have hbb6 : (i : Int) ≤ (c : Int) := by have := hcap.1; omega
  have hbb7 : (i : Int) + 1 ≤ (l.length : Int) + 1 := by omega
  have hbb8 : ¬ (G = i) := by omega
  have hbb9 : ¬ (G = i + 1) := by omega
  have hcm : (c : Int) ≤ 9223372036854775807 := by have := hcap.2; simp only [maxLen] at this; omega
  have hgm : (G : Int) ≤ 9223372036854775807 := by simp only [maxLen] at hGm; omega
  clear hown hown2 hownN hdl htl hv1 hcap hW1 hW2 hv hb1 hb2 hROW hZ1 hZ2 hl1 hl2 hold hkk hik hGm hGn
  go_enter Tryz.func86, Tryz.ntmps86
  go_wp2_with (first
    | (at_builtin; refine Lib.wpList_append_run _ rfl _ _ _ _ rfl _ _ rfl rfl _ _ (hrz _) ?_)
    | (at_builtin; refine wpList_copy_runI _ rfl _ _ 34 34 rfl _ _ rfl rfl (hcp1 _ _) ?_))
  go_region_law (refine step_copy_runI rfl _ _ 34 34 rfl _ _ (by simp [Act.eval, Act.put]) (by simp [Act.eval, Act.put]) (hcp2 _ _ _) ?_)
  go_wp2
  go_ret
  exact ⟨_, G, rfl, HFIN.out.1, ⟨Kept.of_below HFIN.out.2, fun k hk => .inr (by rw [List.mem_singleton.1 hk]; exact Nat.le_refl _)⟩⟩
theorem insL (A : Option Addr) (c vb i : Nat) (l : List Lk) (x : Lk) (w : World) (hown : w.ownsRow 0 62 4 (.slice A l.length c) l.length (rc lkR l)) (hv : Blk w vb 62 #[.string x.key, .int .i64 x.id.n, .int .i64 x.id.c, .int .i64 x.mode]) (hne : vb ∉ ob A) (hi : i ≤ l.length) (hl : l.length ≤ 1000000) :
    Calls Tryz.prog 86 #[.slice A l.length c, .int .i64 i, .slice (some ⟨vb, 0, none⟩) 1 1] w (InsEndsL A l x i w) := by
  by_cases e : i = l.length
  · rw [e]
    exact insEndL A c vb l x w hown hv hl
  · obtain ⟨g, rfl, _⟩ := own_some hown (by omega)
    by_cases hr : l.length + 1 ≤ c
    · exact insRoomL g c vb i l x w hown hv (by simpa [ob] using hne) (by omega) hr hl
    · exact insGrowL g c vb i l x w hown hv (by simpa [ob] using hne) (by omega) (by omega) hl
end Go.Proofs.YtpidpdbjjdkhoaaGreat
