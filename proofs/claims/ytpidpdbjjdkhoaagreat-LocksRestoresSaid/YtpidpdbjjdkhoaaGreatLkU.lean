/- Locks: the question of End, that keeps the keys. -/
import Derived.Test.YtpidpdbjjdkhoaaGreatLkT
namespace Go.Proofs.YtpidpdbjjdkhoaaGreat
open Go.RowKit
set_option linter.unusedSimpArgs false
set_option linter.unusedVariables false
attribute [local go_sem ↓] Go.wp_at_zero Go.wp_at_succ

theorem Tryz.infoSt : (Tryz.prog.info? 9).map (fun i => (i.zero, i.size, i.bytes)) = some (some (.string ⟨#[]⟩), 1, 16) := by kernel_rfl
def strR : RowT ByteArray := ⟨fun x => [.string x], 1, ⟨#[]⟩, by decide, fun _ => rfl, fun x u hu => by
  simp only [List.mem_cons, List.mem_nil_iff, or_false] at hu
  rcases hu with rfl; rfl⟩
def kk (id : Idn) (K : List ByteArray) (pre : List Lk) : List ByteArray := K ++ (pre.filter fun x => eqI x.id id).map (·.key)
theorem kk_0 (id : Idn) (K : List ByteArray) : kk id K [] = K := by simp [kk]
theorem kk_on (id : Idn) (K : List ByteArray) (pre : List Lk) (x : Lk) : kk id K (pre ++ [x]) = kk id K pre ++ if eqI x.id id then [x.key] else [] := by
  unfold kk
  rw [List.filter_append, List.map_append, List.append_assoc]
  cases h : eqI x.id id <;> simp [h]
theorem kk_len (id : Idn) (K : List ByteArray) (pre : List Lk) : (kk id K pre).length ≤ K.length + pre.length := by
  unfold kk
  rw [List.length_append, List.length_map]
  have := List.length_filter_le (fun x : Lk => eqI x.id id) pre
  omega
/-- the box of keys holds K, its row is S's other block -/
structure KeyBox (p5 : Nat) (K : List ByteArray) (S : List Nat) (W : World) : Prop where
  ex : ∃ A c, S = p5 :: ob A ∧ Blk W p5 80 #[.slice A K.length c] ∧ W.ownsRow 0 9 1 (.slice A K.length c) K.length (rc strR K)
def EndSt (id : Idn) (K : List ByteArray) (p3 p5 : Nat) (pre : List Lk) (S : List Nat) (W : World) : Prop :=
  KeyBox p5 (kk id K pre) S W ∧ Blk W p3 29 #[.int .i64 id.n, .int .i64 id.c] ∧ K.length ≤ 1000
theorem endSt_lt {id : Idn} {K : List ByteArray} {p3 p5 : Nat} (pre : List Lk) (S : List Nat) (W : World) (h : EndSt id K p3 p5 pre S W) : ∀ k ∈ S, k < W.heap.size := by
  obtain ⟨⟨A, c, rfl, hb, ho⟩, _⟩ := h
  intro k hk
  rcases List.mem_cons.1 hk with rfl | hk
  · exact hb.lt
  · exact own_lt ho k hk
theorem endSt_kept {id : Idn} {K : List ByteArray} {p3 p5 : Nat} {T : List Nat} {pre : List Lk} {S : List Nat} {W W' : World} (h : EndSt id K p3 p5 pre S W) (hk : Kept T W W') (hS : ∀ k ∈ T, k ∉ S) (h3 : p3 ∉ T) : EndSt id K p3 p5 pre S W' := by
  obtain ⟨⟨A, c, rfl, hb, ho⟩, h2, hK⟩ := h
  exact ⟨⟨A, c, rfl, hk.blk hb (fun hm => hS _ hm (by simp)), hk.own ho (fun g hg hm => hS g hm (by simp [ownBlock_mem.1 hg]))⟩, hk.blk h2 h3, hK⟩
set_option maxHeartbeats 4000000 in
set_option maxRecDepth 100000 in
theorem end1_any (x : Lk) (id : Idn) (K : List ByteArray) (p3 p5 : Nat) (pre : List Lk) (S : List Nat) (W : World) (h : EndSt id K p3 p5 pre S W) (hpre : pre.length < 3518437208883) :
    Calls Tryz.prog 55 #[lkV x, .pointer (some ⟨p3, 0, none⟩), .pointer (some ⟨p5, 0, none⟩)] W (Answers (eqI x.id id) (EndSt id K p3 p5 (pre ++ [x])) S W) := by
  obtain ⟨i0, hi0, hz0, hy0, hx0⟩ := info_parts Tryz.infoSt
  have he := run_eqI x.id id
  obtain ⟨⟨A, c, rfl, hb5, ho⟩, hb3, hK⟩ := h
  have HKO := Lib.hid (kk_on id K pre x)
  have hkl := kk_len id K pre
  have h53 : p5 ≠ p3 := fun e => Blk.ne_ hb5 (e ▸ hb3) (by decide) rfl
  have hA5 : p5 ∉ ob A := fun hm => own_blk_ne ho hb5 (by decide) (ownBlock_mem.2 hm)
  have hA3 : p3 ∉ ob A := fun hm => own_blk_ne ho hb3 (by decide) (ownBlock_mem.2 hm)
  obtain ⟨L, hL⟩ : ∃ L, L = kk id K pre := ⟨_, rfl⟩
  rw [← hL] at hb5 ho HKO hkl
  clear hL
  have HO := Lib.hid ho
  have HB5 := Lib.hid hb5
  have HB3 := Lib.hid hb3
  have HKK := Lib.hid hK
  have H53 := Lib.hid h53
  have HA5 := Lib.hid hA5
  have HA3 := Lib.hid hA3
  have hlen : L.length ≤ 3518437209883 := by omega
  clear ho hb5 hb3 h53 hA5 hA3 hkl
  unfold lkV
  go_enter Tryz.func55, Tryz.ntmps55
  go_upto_region 1 with fail
  have k1 := Blk.new W 62 #[.string x.key, .int .i64 x.id.n, .int .i64 x.id.c, .int .i64 x.mode]
  have HB := Lib.hid (below_alloc W (.cells #[.string x.key, .int .i64 x.id.n, .int .i64 x.id.c, .int .i64 x.mode] 62))
  obtain ⟨w2, hw2⟩ : ∃ w2, w2 = (W.alloc (.cells #[.string x.key, .int .i64 x.id.n, .int .i64 x.id.c, .int .i64 x.mode] 62)) := ⟨_, rfl⟩
  obtain ⟨p1, hp1⟩ : ∃ p1, p1 = W.heap.size := ⟨_, rfl⟩
  rw [← hw2] at HB k1
  rw [← hp1] at k1
  rw [← hw2]
  rw [← hp1]
  have HPX : Hid (W.heap.size ≤ p1) := Lib.hid (by omega)
  clear hw2 hp1
  have HB5b := Lib.hid (HB5.out.below HB.out HB5.out.lt)
  have HB3b := Lib.hid (HB3.out.below HB.out HB3.out.lt)
  have HO2 := Lib.hid ((Kept.of_below (S := []) HB.out).own HO.out (by simp))
  have HK1 := Lib.hid k1
  have x10 : w2.cell? ⟨p1, 0, none⟩ = some (.string x.key) := k1.cell 0
  have x11 : w2.cell? ⟨p1, 1, none⟩ = some (.int .i64 x.id.n) := k1.cell 1
  have x12 : w2.cell? ⟨p1, 2, none⟩ = some (.int .i64 x.id.c) := k1.cell 2
  have x13 : w2.cell? ⟨p1, 3, none⟩ = some (.int .i64 x.mode) := k1.cell 3
  have y0 : w2.cell? ⟨p3, 0, none⟩ = some (.int .i64 id.n) := HB3b.out.cell 0
  have y1 : w2.cell? ⟨p3, 1, none⟩ = some (.int .i64 id.c) := HB3b.out.cell 1
  have y5 : w2.cell? ⟨p5, 0, none⟩ = some (.slice A L.length c) := HB5b.out.cell 0
  clear k1
  cases hq : eqI x.id id with
  | false =>
    rw [hq] at he HKO
    have HQ := Lib.hid hq
    clear hq
    have HN : Hid (kk id K (pre ++ [x]) = L) := Lib.hid (by rw [HKO.out]; simp)
    go_wp2
    go_ret
    refine ⟨ret_bool HQ.out.symm, p5 :: ob A, ⟨⟨A, c, rfl, by rw [HN.out]; exact HB5b.out, by rw [HN.out]; exact HO2.out⟩, HB3b.out, HKK.out⟩, Moves.of_below HB.out⟩
  | true =>
    rw [hq] at he HKO
    have HQ := Lib.hid hq
    clear hq
    have HN : Hid (kk id K (pre ++ [x]) = L ++ [x.key]) := Lib.hid (by rw [HKO.out]; rfl)
    go_upto_region 3 with (at_builtin; refine wpList_app rfl (.tmp 9) (.tmp 12) 80 80 rfl 9 i0 _ 1 16 Tryz.underlying80 hi0 hz0 hy0 hx0 rfl (by omega) A L.length c (rc strR L) rfl (HO2.out.alloc _) _ 1 [.string x.key] rfl (Src.one1 Tryz.underlying80 (.string x.key) 9 rfl) (by simp only [maxLen]; omega) (by omega) ?_; intro A3 k3 w3 hown3 hk3 hf3; rw [show rc strR L ++ [.string x.key] = rc strR (L ++ [x.key]) from rc_snoc L x.key] at hown3; have y5b : w3.cell? ⟨p5, 0, none⟩ = some (.slice A L.length c) := (hk3.of_alloc.blk HB5b.out HA5.out).cell 0; have f5b := (hk3.of_alloc.blk HB5b.out HA5.out).frozen 0)
    have HO3 := Lib.hid hown3
    have HB3c := Lib.hid (hk3.of_alloc.blk HB3b.out HA3.out)
    have HB5c := Lib.hid (hk3.of_alloc.blk HB5b.out HA5.out)
    have hA1 : p1 ∉ ob A := fun hm => by have := own_lt HO.out _ hm; have := HPX.out; omega
    have HK3 := Lib.hid (hk3.of_alloc.blk HK1.out hA1)
    have HM3 : Hid (Moves (ob A) (ob A3) w2 w3) := Lib.hid ⟨hk3.of_alloc, fun y hy => (hf3 y hy).imp (fun h => h) (fun h => by simp at h; omega)⟩
    obtain ⟨w4, hw4⟩ : ∃ w4, w4 = w3.setCells p5 0 [.slice A3 (L.length + 1) k3] := ⟨_, rfl⟩
    have hk4 : Kept [p5] w3 w4 := by rw [hw4]; exact keptAll _ (Kept.refl _ _) (.inl (by simp))
    have HB54 : Hid (Blk w4 p5 80 #[.slice A3 (L.length + 1) k3]) := Lib.hid (by rw [hw4]; exact Blk.setAll [.slice A3 (L.length + 1) k3] (p := 0) HB5c.out)
    have h13 : p1 ≠ p5 := fun e => Blk.ne_ HK1.out (e ▸ HB5b.out) (by decide) rfl
    have hp3 : p3 ≠ p5 := fun e => H53.out e.symm
    have hb34 := hk4.blk HB3c.out (by simpa using hp3)
    have hb14 := hk4.blk HK3.out (by simpa using h13)
    have hA35 : p5 ∉ ob A3 := fun hm => own_blk_ne HO3.out HB5c.out (by decide) (ownBlock_mem.2 hm)
    have HO4 := Lib.hid (hk4.own HO3.out (fun g hg => by simp only [List.mem_singleton]; rintro rfl; exact hA35 (ownBlock_mem.1 hg)))
    have HM4 : Hid (Moves (p5 :: ob A) (p5 :: ob A3) W w4) := Lib.hid (Moves.below_left HB.out ⟨(HM3.out.kept.mono (fun y hy => List.mem_cons_of_mem _ hy)).trans hk4 (fun y hy => by simp at hy; subst hy; exact .inl (by simp)), fun y hy => (List.mem_cons.1 hy).elim (fun h => .inl (by rw [h]; simp)) (fun h => (HM3.out.foot y h).imp (fun h1 => List.mem_cons_of_mem _ h1) (fun h => h))⟩)
    have HB34 := Lib.hid hb34
    have hw4b : w3.setCell ⟨p5, 0, none⟩ (.slice A3 (L.length + 1) k3) = w4 := hw4.symm
    rw [hw4b]
    clear hw4 hw4b hk4 h13 hp3 hA35 hk3 hf3 hown3 y5b f5b hA1 x10 x11 x12 x13 y0 y1 y5
    have x11 : w4.cell? ⟨p1, 1, none⟩ = some (.int .i64 x.id.n) := hb14.cell 1
    have x12 : w4.cell? ⟨p1, 2, none⟩ = some (.int .i64 x.id.c) := hb14.cell 2
    have y0 : w4.cell? ⟨p3, 0, none⟩ = some (.int .i64 id.n) := hb34.cell 0
    have y1 : w4.cell? ⟨p3, 1, none⟩ = some (.int .i64 id.c) := hb34.cell 1
    clear hb34 hb14
    go_wp2
    go_ret
    have hol : L.length + 1 = (L ++ [x.key]).length := by simp
    rw [hol] at HB54 HO4
    refine ⟨ret_bool HQ.out.symm, p5 :: ob A3, ⟨⟨A3, k3, rfl, by rw [HN.out]; exact HB54.out, by rw [HN.out]; exact HO4.out⟩, HB34.out, HKK.out⟩, HM4.out⟩
end Go.Proofs.YtpidpdbjjdkhoaaGreat
