/- Rows of identities and of locks: Insert of one element. -/
import Derived.Test.YtpidpdbjjdkhoaaGreatLkH
import Derived.Shelf.Spec.SlicesInsert
import Derived.Lib.AppendZerosOnto
import Derived.Laws.NewBlocks
import Derived.Deep.RegionLaw
namespace Go.Proofs.YtpidpdbjjdkhoaaGreat
open Go.RowKit
set_option linter.unusedSimpArgs false
set_option linter.unusedVariables false
attribute [local go_sem ↓] Go.wp_at_zero Go.wp_at_succ

/-- copy, the elements of any size -/
theorem run_copy_sz {P : Program} (w : World) (T ty elem : TypeId) (size b o dLen dCap : Nat) (a : Addr) (sLen sCap n : Nat) (cs : List Value) (hu : P.underlying T = some (.slice elem)) (hs : (P.info? elem).map (·.size) = some size)
    (hm : n = Nat.min sLen dLen) (hn : cs.length = n * size) (hsrc : ∀ j v, cs[j]? = some v → w.cell? (a.add j) = some v) (hth : w.there b o cs.length) (h1 : ∀ v ∈ cs, v.oneCell' = true) :
    (Builtin.copy_ #[T, T] ty #[.slice (some ⟨b, o, none⟩) dLen dCap, .slice (some a) sLen sCap]).run P w = .ok (goInt n) (w.setCells b o cs) := by
  have hl := run_loadCells_list (P := P) w a cs hsrc
  have hst := run_storeCells_cells (P := P) b o cs 0 w (fun j hj => by simpa using (hth j hj).1) (fun j hj => by simpa using (hth j hj).2) h1
  rw [hn] at hl
  cases hq : P.info? elem with
  | none => simp [hq] at hs
  | some i =>
    have hi : i.size = size := by simpa [hq] using hs
    simp [Builtin.copy_, run_underlying hu, Builtin.lenOf, Builtin.firstCells, sizeOf, typeInfo, hq, hi, ← hm, hl, hst]
section
variable {α : Type} {R : RowT α}
theorem rc_len_of {l : List α} {n : Nat} (h : l.length = n) : (rc R l).length = n * R.sz := by rw [rc_len, h]
/-- the cells of a row behind Insert, in place -/
theorem ins_cells {l : List α} {x : α} {i : Nat} {junk : List Value} (hi : i < l.length) (hj : junk.length = R.sz) :
    setAll (setAll (rc R l ++ junk) ((i + 1) * R.sz) (rc R (l.drop i))) (i * R.sz) (R.cells x) = rc R (l.take i ++ x :: l.drop i) := by
  have e1 : rc R l ++ junk = rc R (l.take (i + 1)) ++ ((rc R (l.drop (i + 1)) ++ junk) ++ []) := by
    rw [List.append_nil, ← List.append_assoc, ← rc_app, List.take_append_drop]
  have l1 : (rc R (l.take (i + 1))).length = (i + 1) * R.sz := rc_len_of (by rw [List.length_take]; omega)
  have l2 : (rc R (l.drop (i + 1)) ++ junk).length = (rc R (l.drop i)).length := by
    rw [List.length_append, rc_len, rc_len, hj, List.length_drop, List.length_drop, show l.length - i = l.length - (i + 1) + 1 by omega, Nat.add_mul, Nat.one_mul]
  rw [e1, ← l1, setAll_mid _ _ _ _ l2, List.append_nil]
  have e2 : rc R (l.take (i + 1)) = rc R (l.take i) ++ R.cells l[i] := by rw [List.take_succ_eq_append_getElem hi, rc_app, rc_single]
  have l3 : (rc R (l.take i)).length = i * R.sz := rc_len_of (by rw [List.length_take]; omega)
  rw [e2, List.append_assoc, ← l3, setAll_mid _ _ _ _ (by rw [R.len, R.len]), rc_app, rc_cons]
/-- .. into a new row -/
theorem ins_new {l : List α} {x : α} {i : Nat} {Z : List Value} (hi : i < l.length) (hZ : Z.length = (l.length + 1 - i) * R.sz) :
    setAll (setAll (rc R (l.take i) ++ Z) (i * R.sz) (R.cells x)) ((i + 1) * R.sz) (rc R (l.drop i)) = rc R (l.take i ++ x :: l.drop i) := by
  have l3 : (rc R (l.take i)).length = i * R.sz := rc_len_of (by rw [List.length_take]; omega)
  have hZ2 : Z.length = R.sz + (l.length - i) * R.sz := by rw [hZ, show l.length + 1 - i = 1 + (l.length - i) by omega, Nat.add_mul, Nat.one_mul]
  have e1 : Z = Z.take R.sz ++ Z.drop R.sz := (List.take_append_drop _ _).symm
  have l4 : (Z.take R.sz).length = (R.cells x).length := by rw [List.length_take, R.len]; omega
  have l5 : (Z.drop R.sz).length = (rc R (l.drop i)).length := by rw [List.length_drop, rc_len, List.length_drop]; omega
  rw [e1, ← l3, setAll_mid _ _ _ _ l4]
  have l6 : (rc R (l.take i) ++ R.cells x).length = (i + 1) * R.sz := by rw [List.length_append, l3, R.len, Nat.add_mul, Nat.one_mul]
  rw [← List.append_assoc, ← l6, ← List.append_nil (Z.drop R.sz), setAll_mid _ _ _ _ l5, List.append_nil, rc_app, rc_cons, List.append_assoc]
end
theorem blk_shape {w : World} {g : Nat} {t : TypeId} {cs : Array Value} (h : Blk w g t cs) : w.shape? g = some (t, cs.size) := by
  unfold Blk at h
  unfold World.shape?
  rw [h]
theorem own_shape {w : World} {base g n c size : Nat} {e : TypeId} {xs : List Value} (h : w.ownsRow base e size (.slice (some ⟨g, 0, none⟩) n c) n xs) : w.shape? g = some (e, c * size) := by
  rcases h.2 with ⟨hv, _⟩ | ⟨g', cap, cur, hv, hbg, hg, hnc, hcm, hcs, htake⟩
  · simp at hv
  · simp only [Value.slice.injEq, Option.some.injEq, Addr.mk.injEq, and_true, true_and] at hv
    obtain ⟨rfl, rfl⟩ := hv
    unfold World.shape?
    simp [hg, hcs]
theorem there_mono {w : World} {b o n m : Nat} (h : w.there b o n) (hm : m ≤ n) : w.there b o m := fun j hj => h j (by omega)
def InsEndsI (A : Option Addr) (l : List Idn) (x : Idn) (i : Nat) (w : World) (e : Ending) (w' : World) : Prop :=
  ∃ A1 c1, e = .returned (.slice A1 (l.length + 1) c1) ∧ w'.ownsRow 0 29 2 (.slice A1 (l.length + 1) c1) (l.length + 1) (rc idR (l.take i ++ x :: l.drop i)) ∧ Moves (ob A) (ob A1) w w'
theorem run_overI (W : World) (vb vc g o lb cb : Nat) (cs : Array Value) (t : TypeId) (k : Nat) (hne : vb ≠ g) (hv : Blk W vb 29 cs) (hg : W.shape? g = some (t, k)) (hk : k ≠ 0) :
    (callFunc 101 #[.slice (some ⟨vb, 0, none⟩) 1 vc, .slice (some ⟨g, o, none⟩) lb cb]).run Tryz.prog W = .ok (.value (.bool false)) W := by
  rw [run_callFunc_extern (f := 101) (fn := Tryz.f101) (by kernel_rfl) (by kernel_rfl) (by kernel_rfl) (by kernel_rfl) (e := Extern.SlicesOverlaps.overlaps #[36, 36] #[4]) (by kernel_rfl),
    Lib.run_overlaps_apart W 36 4 29 Tryz.underlying36 2 (fun w => by kernel_rfl) ⟨vb, 0, none⟩ ⟨g, o, none⟩ 1 vc lb cb hne 29 t cs.size k (blk_shape hv) hg hk (hv.frozen 0) (hv.frozen cs.size)]
  rfl
set_option maxHeartbeats 4000000 in
set_option maxRecDepth 100000 in
theorem insEndI (A : Option Addr) (c vb : Nat) (l : List Idn) (x : Idn) (w : World) (hown : w.ownsRow 0 29 2 (.slice A l.length c) l.length (rc idR l)) (hv : Blk w vb 29 #[.int .i64 x.n, .int .i64 x.c]) (hl : l.length ≤ 1000000) :
    Calls Tryz.prog 84 #[.slice A l.length c, .int .i64 (l.length : Nat), .slice (some ⟨vb, 0, none⟩) 1 1] w (InsEndsI A l x l.length w) := by
  obtain ⟨i0, hi0, hz0, hz1, hz2⟩ := info_parts Tryz.infoId
  have hcap := own_cap hown
  have hsrc : Src Tryz.prog 2 36 (.slice (some ⟨vb, 0, none⟩) 1 1) 1 (idR.cells x) w := Src.ofReads Tryz.underlying36 (B := w.heap.size) (⟨rfl, fun _ => ⟨_, rfl, hv.lt, fun j u hu => by rw [Addr.add_lit, Nat.zero_add, hv.cell]; have hu' : [.int .i64 x.n, .int .i64 x.c][j]? = some u := hu; simpa using hu'⟩⟩) (idR.one x)
  go_enter Tryz.func84, Tryz.ntmps84
  go_wp2_with (at_builtin; refine wpList_app rfl (.tmp 23) (.tmp 24) 36 36 rfl 29 i0 _ 2 16 Tryz.underlying36 hi0 hz0 hz1 hz2 rfl (by omega) A l.length c (rc idR l) rfl hown _ 1 (idR.cells x) rfl hsrc (by simp only [maxLen]; omega) (by omega) ?_; intro A1 k1 w1 hown1 hk1 hf1)
  all_goals
    go_ret
    refine ⟨A1, k1, rfl, ?_, ⟨hk1, hf1⟩⟩
    rw [List.take_of_length_le (Nat.le_refl _), List.drop_of_length_le (Nat.le_refl _), ← rc_snoc]
    exact hown1
set_option maxHeartbeats 4000000 in
set_option maxRecDepth 100000 in
theorem insRoomI (g c vb i : Nat) (l : List Idn) (x : Idn) (w : World) (hown : w.ownsRow 0 29 2 (.slice (some ⟨g, 0, none⟩) l.length c) l.length (rc idR l)) (hv : Blk w vb 29 #[.int .i64 x.n, .int .i64 x.c]) (hne : vb ≠ g) (hi : i < l.length) (hroom : l.length + 1 ≤ c) (hl : l.length ≤ 1000000) :
    Calls Tryz.prog 84 #[.slice (some ⟨g, 0, none⟩) l.length c, .int .i64 i, .slice (some ⟨vb, 0, none⟩) 1 1] w (InsEndsI (some ⟨g, 0, none⟩) l x i w) := by
  obtain ⟨junk, hj, hown2⟩ := own_extend hown hroom
  have hcap := own_cap hown
  have hdl : (rc idR (l.drop i)).length = (l.length - i) * 2 := rc_len_of (by rw [List.length_drop])
  have hth : w.there g ((i + 1) * 2) (rc idR (l.drop i)).length := own_there hown2 (by rw [hdl]; omega)
  have hov := fun lb cb => run_overI w vb 1 g ((i + 1) * 2) lb cb #[.int .i64 x.n, .int .i64 x.c] 29 (c * 2) hne hv (own_shape hown) (by omega)
  have hsrc : ∀ j v, (rc idR (l.drop i))[j]? = some v → w.cell? ((⟨g, i * 2, none⟩ : Addr).add j) = some v := fun j v hjv => by
    rw [Addr.add_lit]
    rw [← rc_drop (R := idR), List.getElem?_drop] at hjv
    exact (hown.cellAt _ (by have := (List.getElem?_eq_some_iff.1 hjv).1; rw [hown.1] at this; exact this)).trans hjv
  have hcp1 : ∀ ty dc sc, (Builtin.copy_ #[36, 36] ty #[.slice (some ⟨g, (i + 1) * 2, none⟩) (l.length - i) dc, .slice (some ⟨g, i * 2, none⟩) (l.length + 1 - i) sc]).run Tryz.prog w.drew = .ok (goInt (l.length - i : Nat)) (w.drew.setCells g ((i + 1) * 2) (rc idR (l.drop i))) := fun ty dc sc =>
    run_copy_sz w.drew 36 ty 29 2 g ((i + 1) * 2) (l.length - i) dc ⟨g, i * 2, none⟩ (l.length + 1 - i) sc (l.length - i) _ Tryz.underlying36 (by kernel_rfl) (by simp only [Nat.min_def]; split <;> omega) hdl hsrc hth (rc_one _)
  have hW1own : (w.drew.setCells g ((i + 1) * 2) (rc idR (l.drop i))).ownsRow 0 29 2 (.slice (some ⟨g, 0, none⟩) (l.length + 1) c) (l.length + 1) (setAll (rc idR l ++ junk) ((i + 1) * 2) (rc idR (l.drop i))) := storedAll (rc idR (l.drop i)) (p := (i + 1) * 2) (w := w.drew) hown2
  have hW1k : Kept [g] w (w.drew.setCells g ((i + 1) * 2) (rc idR (l.drop i))) := keptAll _ ((Kept.refl _ _).drew) (.inl (by simp))
  obtain ⟨W1, hW1⟩ : ∃ W1, W1 = w.drew.setCells g ((i + 1) * 2) (rc idR (l.drop i)) := ⟨_, rfl⟩
  rw [← hW1] at hcp1 hW1own hW1k
  have hv1 : Blk W1 vb 29 #[.int .i64 x.n, .int .i64 x.c] := hW1k.blk hv (by simpa using hne)
  have hcp2 : ∀ (W : World), (∀ x, W.cell? x = W1.cell? x) → (∀ x, W.frozen? x = W1.frozen? x) → ∀ ty dc, (Builtin.copy_ #[36, 36] ty #[.slice (some ⟨g, i * 2, none⟩) (l.length + 1 - i) dc, .slice (some ⟨vb, 0, none⟩) 1 1]).run Tryz.prog W = .ok (goInt (1 : Nat)) (W.setCells g (i * 2) [.int .i64 x.n, .int .i64 x.c]) := fun W hWc hWf ty dc =>
    run_copy_sz W 36 ty 29 2 g (i * 2) (l.length + 1 - i) dc ⟨vb, 0, none⟩ 1 1 1 [.int .i64 x.n, .int .i64 x.c] Tryz.underlying36 (by kernel_rfl) (by simp only [Nat.min_def]; split <;> omega) rfl
      (fun j v hjv => by rw [hWc, Addr.add_lit, Nat.zero_add, hv1.cell]; simpa using hjv) (fun j hjl => by rw [hWc, hWf]; exact own_there hW1own (o := i * 2) (m := 2) (by omega) j hjl) (idR.one x)
  have HFIN : Hid ((W1.setCells g (i * 2) [.int .i64 x.n, .int .i64 x.c]).ownsRow 0 29 2 (.slice (some ⟨g, 0, none⟩) (l.length + 1) c) (l.length + 1) (rc idR (l.take i ++ x :: l.drop i)) ∧ Kept [g] w (W1.setCells g (i * 2) [.int .i64 x.n, .int .i64 x.c])) := Lib.hid (by
    have h1 := storedAll [.int .i64 x.n, .int .i64 x.c] (p := i * 2) hW1own
    have h2 := ins_cells (R := idR) (x := x) hi hj
    rw [show [.int .i64 x.n, .int .i64 x.c] = idR.cells x from rfl] at h1 ⊢
    rw [show ((i + 1) * idR.sz) = (i + 1) * 2 from rfl, show i * idR.sz = i * 2 from rfl] at h2
    rw [h2] at h1
    exact ⟨h1, keptAll _ hW1k (.inl (by simp))⟩)
  have hz2 : ¬ ((i : Int) = (l.length : Int)) := by omega
  have hz3 : ((i : Int) == (l.length : Int)) = false := beq_eq_false_iff_ne.2 (by omega)
  have hz4 : decide ((c : Int) < (l.length : Int) + 1) = false := decide_eq_false (by omega)
  have hw1 : IntKind.i64.wrap ((i : Int) + 1) = (i : Int) + 1 := by rw [IntKind.wrap_i64]; omega
  have hb1 : (0 : Int) ≤ (i : Int) + 1 := by omega
  have htn : ((i : Int) + 1).toNat = i + 1 := by omega
  have hb2 : ¬ (c = i + 1) := by omega
  have hb3 : (i : Int) ≤ (l.length : Int) + 1 := by omega
  have hb4 : ¬ (c = i) := by omega
  have hb5 : (i : Int) ≤ (l.length : Int) := by omega
  have hb6 : (l.length : Int) + 1 ≤ (c : Int) := by omega
  have hb7 : (i : Int) + 1 ≤ (l.length : Int) + 1 := by omega
  have hb8 : (0 : Int) ≤ (l.length : Int) + 1 := by omega
  have hcm : (c : Int) ≤ 9223372036854775807 := by have := hcap.2; simp only [maxLen] at this; omega
  clear hown hown2 hth hdl hsrc hW1own hW1k hv1 hcap hj hW1 hv
  go_enter Tryz.func84, Tryz.ntmps84
  go_wp2_with (simp only [hov])
  go_region_law (refine step_copy_runI rfl _ _ 36 36 rfl _ _ (by simp [Act.eval, Act.put]) (by simp [Act.eval, Act.put]) (hcp1 _ _ _) ?_)
  go_wp2_with (at_builtin; refine wpList_copy_runI _ rfl _ _ 36 36 rfl _ _ rfl rfl (hcp2 _ (fun _ => rfl) (fun _ => rfl) _ _) ?_)
  go_ret
  exact ⟨_, c, rfl, HFIN.out.1, ⟨HFIN.out.2, fun k hk => .inl hk⟩⟩
def InsEndsL (A : Option Addr) (l : List Lk) (x : Lk) (i : Nat) (w : World) (e : Ending) (w' : World) : Prop :=
  ∃ A1 c1, e = .returned (.slice A1 (l.length + 1) c1) ∧ w'.ownsRow 0 62 4 (.slice A1 (l.length + 1) c1) (l.length + 1) (rc lkR (l.take i ++ x :: l.drop i)) ∧ Moves (ob A) (ob A1) w w'
theorem run_overL (W : World) (vb vc g o lb cb : Nat) (cs : Array Value) (t : TypeId) (k : Nat) (hne : vb ≠ g) (hv : Blk W vb 62 cs) (hg : W.shape? g = some (t, k)) (hk : k ≠ 0) :
    (callFunc 103 #[.slice (some ⟨vb, 0, none⟩) 1 vc, .slice (some ⟨g, o, none⟩) lb cb]).run Tryz.prog W = .ok (.value (.bool false)) W := by
  rw [run_callFunc_extern (f := 103) (fn := Tryz.f103) (by kernel_rfl) (by kernel_rfl) (by kernel_rfl) (by kernel_rfl) (e := Extern.SlicesOverlaps.overlaps #[34, 34] #[4]) (by kernel_rfl),
    Lib.run_overlaps_apart W 34 4 62 Tryz.underlying34 4 (fun w => by kernel_rfl) ⟨vb, 0, none⟩ ⟨g, o, none⟩ 1 vc lb cb hne 62 t cs.size k (blk_shape hv) hg hk (hv.frozen 0) (hv.frozen cs.size)]
  rfl
set_option maxHeartbeats 4000000 in
set_option maxRecDepth 100000 in
theorem insEndL (A : Option Addr) (c vb : Nat) (l : List Lk) (x : Lk) (w : World) (hown : w.ownsRow 0 62 4 (.slice A l.length c) l.length (rc lkR l)) (hv : Blk w vb 62 #[.string x.key, .int .i64 x.id.n, .int .i64 x.id.c, .int .i64 x.mode]) (hl : l.length ≤ 1000000) :
    Calls Tryz.prog 86 #[.slice A l.length c, .int .i64 (l.length : Nat), .slice (some ⟨vb, 0, none⟩) 1 1] w (InsEndsL A l x l.length w) := by
  obtain ⟨i0, hi0, hz0, hz1, hz2⟩ := info_parts Tryz.infoLk
  have hcap := own_cap hown
  have hsrc : Src Tryz.prog 4 34 (.slice (some ⟨vb, 0, none⟩) 1 1) 1 (lkR.cells x) w := Src.ofReads Tryz.underlying34 (B := w.heap.size) (⟨rfl, fun _ => ⟨_, rfl, hv.lt, fun j u hu => by rw [Addr.add_lit, Nat.zero_add, hv.cell]; have hu' : [.string x.key, .int .i64 x.id.n, .int .i64 x.id.c, .int .i64 x.mode][j]? = some u := hu; simpa using hu'⟩⟩) (lkR.one x)
  go_enter Tryz.func86, Tryz.ntmps86
  go_wp2_with (at_builtin; refine wpList_app rfl (.tmp 23) (.tmp 24) 34 34 rfl 62 i0 _ 4 40 Tryz.underlying34 hi0 hz0 hz1 hz2 rfl (by omega) A l.length c (rc lkR l) rfl hown _ 1 (lkR.cells x) rfl hsrc (by simp only [maxLen]; omega) (by omega) ?_; intro A1 k1 w1 hown1 hk1 hf1)
  all_goals
    go_ret
    refine ⟨A1, k1, rfl, ?_, ⟨hk1, hf1⟩⟩
    rw [List.take_of_length_le (Nat.le_refl _), List.drop_of_length_le (Nat.le_refl _), ← rc_snoc]
    exact hown1
set_option maxHeartbeats 4000000 in
set_option maxRecDepth 100000 in
theorem insRoomL (g c vb i : Nat) (l : List Lk) (x : Lk) (w : World) (hown : w.ownsRow 0 62 4 (.slice (some ⟨g, 0, none⟩) l.length c) l.length (rc lkR l)) (hv : Blk w vb 62 #[.string x.key, .int .i64 x.id.n, .int .i64 x.id.c, .int .i64 x.mode]) (hne : vb ≠ g) (hi : i < l.length) (hroom : l.length + 1 ≤ c) (hl : l.length ≤ 1000000) :
    Calls Tryz.prog 86 #[.slice (some ⟨g, 0, none⟩) l.length c, .int .i64 i, .slice (some ⟨vb, 0, none⟩) 1 1] w (InsEndsL (some ⟨g, 0, none⟩) l x i w) := by
  obtain ⟨junk, hj, hown2⟩ := own_extend hown hroom
  have hcap := own_cap hown
  have hdl : (rc lkR (l.drop i)).length = (l.length - i) * 4 := rc_len_of (by rw [List.length_drop])
  have hth : w.there g ((i + 1) * 4) (rc lkR (l.drop i)).length := own_there hown2 (by rw [hdl]; omega)
  have hov := fun lb cb => run_overL w vb 1 g ((i + 1) * 4) lb cb #[.string x.key, .int .i64 x.id.n, .int .i64 x.id.c, .int .i64 x.mode] 62 (c * 4) hne hv (own_shape hown) (by omega)
  have hsrc : ∀ j v, (rc lkR (l.drop i))[j]? = some v → w.cell? ((⟨g, i * 4, none⟩ : Addr).add j) = some v := fun j v hjv => by
    rw [Addr.add_lit]
    rw [← rc_drop (R := lkR), List.getElem?_drop] at hjv
    exact (hown.cellAt _ (by have := (List.getElem?_eq_some_iff.1 hjv).1; rw [hown.1] at this; exact this)).trans hjv
  have hcp1 : ∀ ty dc sc, (Builtin.copy_ #[34, 34] ty #[.slice (some ⟨g, (i + 1) * 4, none⟩) (l.length - i) dc, .slice (some ⟨g, i * 4, none⟩) (l.length + 1 - i) sc]).run Tryz.prog w.drew = .ok (goInt (l.length - i : Nat)) (w.drew.setCells g ((i + 1) * 4) (rc lkR (l.drop i))) := fun ty dc sc =>
    run_copy_sz w.drew 34 ty 62 4 g ((i + 1) * 4) (l.length - i) dc ⟨g, i * 4, none⟩ (l.length + 1 - i) sc (l.length - i) _ Tryz.underlying34 (by kernel_rfl) (by simp only [Nat.min_def]; split <;> omega) hdl hsrc hth (rc_one _)
  have hW1own : (w.drew.setCells g ((i + 1) * 4) (rc lkR (l.drop i))).ownsRow 0 62 4 (.slice (some ⟨g, 0, none⟩) (l.length + 1) c) (l.length + 1) (setAll (rc lkR l ++ junk) ((i + 1) * 4) (rc lkR (l.drop i))) := storedAll (rc lkR (l.drop i)) (p := (i + 1) * 4) (w := w.drew) hown2
  have hW1k : Kept [g] w (w.drew.setCells g ((i + 1) * 4) (rc lkR (l.drop i))) := keptAll _ ((Kept.refl _ _).drew) (.inl (by simp))
  obtain ⟨W1, hW1⟩ : ∃ W1, W1 = w.drew.setCells g ((i + 1) * 4) (rc lkR (l.drop i)) := ⟨_, rfl⟩
  rw [← hW1] at hcp1 hW1own hW1k
  have hv1 : Blk W1 vb 62 #[.string x.key, .int .i64 x.id.n, .int .i64 x.id.c, .int .i64 x.mode] := hW1k.blk hv (by simpa using hne)
  have hcp2 : ∀ (W : World), (∀ x, W.cell? x = W1.cell? x) → (∀ x, W.frozen? x = W1.frozen? x) → ∀ ty dc, (Builtin.copy_ #[34, 34] ty #[.slice (some ⟨g, i * 4, none⟩) (l.length + 1 - i) dc, .slice (some ⟨vb, 0, none⟩) 1 1]).run Tryz.prog W = .ok (goInt (1 : Nat)) (W.setCells g (i * 4) [.string x.key, .int .i64 x.id.n, .int .i64 x.id.c, .int .i64 x.mode]) := fun W hWc hWf ty dc =>
    run_copy_sz W 34 ty 62 4 g (i * 4) (l.length + 1 - i) dc ⟨vb, 0, none⟩ 1 1 1 [.string x.key, .int .i64 x.id.n, .int .i64 x.id.c, .int .i64 x.mode] Tryz.underlying34 (by kernel_rfl) (by simp only [Nat.min_def]; split <;> omega) rfl
      (fun j v hjv => by rw [hWc, Addr.add_lit, Nat.zero_add, hv1.cell]; simpa using hjv) (fun j hjl => by rw [hWc, hWf]; exact own_there hW1own (o := i * 4) (m := 4) (by omega) j hjl) (lkR.one x)
  have HFIN : Hid ((W1.setCells g (i * 4) [.string x.key, .int .i64 x.id.n, .int .i64 x.id.c, .int .i64 x.mode]).ownsRow 0 62 4 (.slice (some ⟨g, 0, none⟩) (l.length + 1) c) (l.length + 1) (rc lkR (l.take i ++ x :: l.drop i)) ∧ Kept [g] w (W1.setCells g (i * 4) [.string x.key, .int .i64 x.id.n, .int .i64 x.id.c, .int .i64 x.mode])) := Lib.hid (by
    have h1 := storedAll [.string x.key, .int .i64 x.id.n, .int .i64 x.id.c, .int .i64 x.mode] (p := i * 4) hW1own
    have h2 := ins_cells (R := lkR) (x := x) hi hj
    rw [show [.string x.key, .int .i64 x.id.n, .int .i64 x.id.c, .int .i64 x.mode] = lkR.cells x from rfl] at h1 ⊢
    rw [show ((i + 1) * lkR.sz) = (i + 1) * 4 from rfl, show i * lkR.sz = i * 4 from rfl] at h2
    rw [h2] at h1
    exact ⟨h1, keptAll _ hW1k (.inl (by simp))⟩)
  have hz2 : ¬ ((i : Int) = (l.length : Int)) := by omega
  have hz3 : ((i : Int) == (l.length : Int)) = false := beq_eq_false_iff_ne.2 (by omega)
  have hz4 : decide ((c : Int) < (l.length : Int) + 1) = false := decide_eq_false (by omega)
  have hw1 : IntKind.i64.wrap ((i : Int) + 1) = (i : Int) + 1 := by rw [IntKind.wrap_i64]; omega
  have hb1 : (0 : Int) ≤ (i : Int) + 1 := by omega
  have htn : ((i : Int) + 1).toNat = i + 1 := by omega
  have hb2 : ¬ (c = i + 1) := by omega
  have hb3 : (i : Int) ≤ (l.length : Int) + 1 := by omega
  have hb4 : ¬ (c = i) := by omega
  have hb5 : (i : Int) ≤ (l.length : Int) := by omega
  have hb6 : (l.length : Int) + 1 ≤ (c : Int) := by omega
  have hb7 : (i : Int) + 1 ≤ (l.length : Int) + 1 := by omega
  have hb8 : (0 : Int) ≤ (l.length : Int) + 1 := by omega
  have hcm : (c : Int) ≤ 9223372036854775807 := by have := hcap.2; simp only [maxLen] at this; omega
  clear hown hown2 hth hdl hsrc hW1own hW1k hv1 hcap hj hW1 hv
  go_enter Tryz.func86, Tryz.ntmps86
  go_wp2_with (simp only [hov])
  go_region_law (refine step_copy_runI rfl _ _ 34 34 rfl _ _ (by simp [Act.eval, Act.put]) (by simp [Act.eval, Act.put]) (hcp1 _ _ _) ?_)
  go_wp2_with (at_builtin; refine wpList_copy_runI _ rfl _ _ 34 34 rfl _ _ rfl rfl (hcp2 _ (fun _ => rfl) (fun _ => rfl) _ _) ?_)
  go_ret
  exact ⟨_, c, rfl, HFIN.out.1, ⟨HFIN.out.2, fun k hk => .inl hk⟩⟩
end Go.Proofs.YtpidpdbjjdkhoaaGreat
