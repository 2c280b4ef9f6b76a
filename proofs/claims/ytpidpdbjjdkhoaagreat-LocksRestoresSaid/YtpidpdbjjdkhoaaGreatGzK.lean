/- Locks: an act of the program and of the reference. -/
import Derived.Test.YtpidpdbjjdkhoaaGreatGzH
import Derived.Test.YtpidpdbjjdkhoaaGreatGzJ
import Derived.Test.YtpidpdbjjdkhoaaGreatLlD
namespace Go.Proofs.YtpidpdbjjdkhoaaGreat
open Go.RowKit
set_option linter.unusedSimpArgs false
set_option linter.unusedVariables false
attribute [local go_sem ↓] Go.wp_at_zero Go.wp_at_succ

/-- the program's table and the reference's, apart, in memory newer than w0; the blocks T apart from both -/
structure Bth (w0 : World) (T : List Nat) (d g : Nat) (q1 : Tb) (m : TbM) (q2 : Tb) (n : TbM) (w : World) : Prop where
  tb : TbAt w d q1 m
  rf : RfAt w g q2 n
  dj : ∀ k ∈ fpT d m, k ∉ fpT g n
  l1 : ∀ k ∈ fpT d m, w0.heap.size ≤ k
  l2 : ∀ k ∈ fpT g n, w0.heap.size ≤ k
  ap : ∀ k ∈ T, (k ∉ fpT d m ∧ k ∉ fpT g n) ∧ k < w.heap.size
  bel : Below w0.heap.size w0 w
section
variable {w0 w w' : World} {T T' : List Nat} {d g : Nat} {q1 q1' q2 q2' : Tb} {m m' n n' : TbM}
theorem Bth.below (h : Bth w0 T d g q1 m q2 n w) (hb : Below w.heap.size w w') : Bth w0 T d g q1 m q2 n w' :=
  ⟨h.tb.below hb, h.rf.below hb, h.dj, h.l1, h.l2, fun k hk => ⟨(h.ap k hk).1, Nat.lt_of_lt_of_le (h.ap k hk).2 hb.size⟩, h.bel.trans (hb.mono h.bel.size)⟩
theorem Bth.prog (h : Bth w0 T d g q1 m q2 n w) (ht : TbAt w' d q1' m') (hm : Moves (fpT d m) (fpT d m') w w') : Bth w0 T d g q1' m' q2 n w' :=
  ⟨ht, h.rf.kept hm.kept (fun k hk hf => h.dj k hf hk), fun k hk hf => (hm.foot k hk).elim (fun h1 => h.dj k h1 hf) (fun h1 => by have := h.rf.lt k hf; omega), fun k hk => (hm.foot k hk).elim (h.l1 k) (fun h1 => Nat.le_trans h.bel.size h1), h.l2,
    fun k hk => ⟨⟨fun hf => (hm.foot k hf).elim (h.ap k hk).1.1 (fun h1 => by have := (h.ap k hk).2; omega), (h.ap k hk).1.2⟩, Nat.lt_of_lt_of_le (h.ap k hk).2 hm.kept.size⟩, h.bel.trans (hm.below h.bel.size h.l1)⟩
theorem Bth.ref (h : Bth w0 T d g q1 m q2 n w) (ht : RfAt w' g q2' n') (hm : Moves (fpT g n) (fpT g n') w w') : Bth w0 T d g q1 m q2' n' w' :=
  ⟨h.tb.kept hm.kept (fun k hk hf => h.dj k hk hf), ht, fun k hk hf => (hm.foot k hf).elim (h.dj k hk) (fun h1 => by have := h.tb.lt k hk; omega), h.l1, fun k hk => (hm.foot k hk).elim (h.l2 k) (fun h1 => Nat.le_trans h.bel.size h1),
    fun k hk => ⟨⟨(h.ap k hk).1.1, fun hf => (hm.foot k hf).elim (h.ap k hk).1.2 (fun h1 => by have := (h.ap k hk).2; omega)⟩, Nat.lt_of_lt_of_le (h.ap k hk).2 hm.kept.size⟩, h.bel.trans (hm.below h.bel.size h.l2)⟩
theorem Bth.less (h : Bth w0 T d g q1 m q2 n w) (hs : ∀ k ∈ T', k ∈ T) : Bth w0 T' d g q1 m q2 n w := ⟨h.tb, h.rf, h.dj, h.l1, h.l2, fun k hk => h.ap k (hs k hk), h.bel⟩
theorem Bth.more (h : Bth w0 T d g q1 m q2 n w) (hs : ∀ k ∈ T', (k ∉ fpT d m ∧ k ∉ fpT g n) ∧ k < w.heap.size) : Bth w0 (T' ++ T) d g q1 m q2 n w :=
  ⟨h.tb, h.rf, h.dj, h.l1, h.l2, fun k hk => (List.mem_append.1 hk).elim (hs k) (h.ap k), h.bel⟩
theorem Bth.fresh (h : Bth w0 T d g q1 m q2 n w) (hb : Below w.heap.size w w') (hs : ∀ k ∈ T', w.heap.size ≤ k ∧ k < w'.heap.size) : Bth w0 (T' ++ T) d g q1 m q2 n w' :=
  (h.below hb).more fun k hk => ⟨⟨fun hm => by have := h.tb.lt k hm; have := (hs k hk).1; omega, fun hm => by have := h.rf.lt k hm; have := (hs k hk).1; omega⟩, (hs k hk).2⟩
theorem Bth.kept {S : List Nat} (h : Bth w0 T d g q1 m q2 n w) (hk : Kept S w w') (hs : ∀ k ∈ S, k ∈ T ∧ w0.heap.size ≤ k) : Bth w0 T d g q1 m q2 n w' :=
  ⟨h.tb.kept hk (fun k hf hm => (h.ap k (hs k hm).1).1.1 hf), h.rf.kept hk (fun k hf hm => (h.ap k (hs k hm).1).1.2 hf), h.dj, h.l1, h.l2, fun k hm => ⟨(h.ap k hm).1, Nat.lt_of_lt_of_le (h.ap k hm).2 hk.size⟩, h.bel.trans (hk.below h.bel.size (fun x hx => (hs x hx).2))⟩
end
def ActEnds (w0 : World) (T : List Nat) (d g : Nat) (q : Tb) (e : Ending) (w' : World) : Prop := e = .returned (.bool true) ∧ ∃ m' n', Bth w0 T d g q m' q n' w'
theorem pass_got (k : ByteArray) : ∀ (L : List Lk) (s : Tb × List Lk), Srt ah L → (∀ x ∈ L, x ∈ s.1.wait) → (L.foldl (grant1 k) s).2.length + (L.foldl (grant1 k) s).1.wait.length ≤ s.2.length + s.1.wait.length
  | [], _, _, _ => Nat.le_refl _
  | l :: L, s, hs, hsub => by
    have hL := List.pairwise_cons.1 hs
    have hlw := hsub l (List.mem_cons_self ..)
    rw [List.foldl_cons]
    by_cases hc : l.key = k ∧ freeB s.1 l = true
    · rw [show grant1 k s l = (grant s.1 l, s.2 ++ [l]) from if_pos hc]
      have h1 := pass_got k L (grant s.1 l, s.2 ++ [l]) hL.2 (fun x hx => mem_ne.2 ⟨hsub x (List.mem_cons_of_mem _ hx), by rintro rfl; have := hL.1 x hx; rw [ah_ord.irr] at this; cases this⟩)
      have h2 : (grant s.1 l).wait.length < s.1.wait.length := List.length_filter_lt_length_iff_exists.2 ⟨l, hlw, by simp⟩
      have h3 : (s.2 ++ [l]).length = s.2.length + 1 := by simp
      refine Nat.le_trans h1 ?_
      show (s.2 ++ [l]).length + (grant s.1 l).wait.length ≤ _
      omega
    · rw [show grant1 k s l = s from if_neg hc]
      exact pass_got k L s hL.2 (fun x hx => hsub x (List.mem_cons_of_mem _ hx))
theorem keys_got : ∀ (ks : List ByteArray) (s : Tb × List Lk), Srt ah s.1.wait → (ks.foldl grantK s).2.length + (ks.foldl grantK s).1.wait.length ≤ s.2.length + s.1.wait.length
  | [], _, _ => Nat.le_refl _
  | k :: ks, s, h => by
    rw [List.foldl_cons]
    have h1 := pass_got k s.1.wait s h (fun _ h => h)
    have h2 : Srt ah (grantK s k).1.wait := pass_ind (P := fun s => Srt ah s.wait) (fun _ _ h _ _ => srt_filter h _) k s.1.wait s h (fun _ h => h) h
    exact Nat.le_trans (keys_got ks (grantK s k) h2) h1
theorem got_few {q : Tb} {id : Idn} (hg : Good q) (h : q.held.length + q.wait.length ≤ 900) : (endS q id).2.length ≤ 2000000 := by
  have h1 := keys_got (keysOf q id) (strip q id, []) (strip_good hg id).sw
  have h2 := strip_total q id
  unfold endS
  simp only [List.length_nil] at h1
  omega
set_option maxHeartbeats 16000000 in
set_option maxRecDepth 100000 in
theorem act_any {w0 w : World} {T : List Nat} {d g k : Nat} {q : Tb} {m n : TbM} (h : Bth w0 T d g q m q n w) (hs : Sane k q) (hk : k ≤ 400) (o : LOp) :
    Calls Tryz.prog 7 #[.pointer (some ⟨d, 0, none⟩), .pointer (some ⟨g, 0, none⟩), lopV o] w (ActEnds w0 T d g (playT q o)) := by
  have HH := Lib.hid h
  have hhu := hs.hurt
  have hpr := hs.prep
  have hfew := hs.few
  have HPM : Hid ((playT q o).prep.length ≤ 1000000 ∧ (playT q o).hurt.length ≤ 1000000) := Lib.hid ⟨by have := (hs.step o).prep; omega, by have := (hs.step o).hurt; omega⟩
  have HGD := Lib.hid hs.inv.mid.good
  have HAZ : Hid ((askT q (lopL o)).held.length + (askT q (lopL o)).wait.length ≤ 1000) := Lib.hid (by have := hs.ask (lopL o); omega)
  clear h hs
  unfold lopV
  go_enter Tryz.func7, Tryz.ntmps7
  go_upto_region 1 with fail
  have k1 := Blk.new w 31 #[.int .i64 o.kind, .int .i64 o.id.n, .int .i64 o.id.c, .string o.key, .int .i64 o.mode]
  have HB := Lib.hid (below_alloc w (.cells #[.int .i64 o.kind, .int .i64 o.id.n, .int .i64 o.id.c, .string o.key, .int .i64 o.mode] 31))
  obtain ⟨w2, hw2⟩ : ∃ w2, w2 = (w.alloc (.cells #[.int .i64 o.kind, .int .i64 o.id.n, .int .i64 o.id.c, .string o.key, .int .i64 o.mode] 31)) := ⟨_, rfl⟩
  obtain ⟨p1, hp1⟩ : ∃ p1, p1 = w.heap.size := ⟨_, rfl⟩
  rw [← hw2] at HB k1
  rw [← hp1] at k1
  rw [← hw2]
  rw [← hp1]
  have HP1 : Hid (w.heap.size ≤ p1) := Lib.hid (by omega)
  clear hw2 hp1
  have HX2 := Lib.hid (HH.out.fresh (T' := [p1]) HB.out (fun k hk => by rw [List.mem_singleton.1 hk]; exact ⟨HP1.out, k1.lt⟩))
  have HK2 := Lib.hid k1
  have x10 : w2.cell? ⟨p1, 0, none⟩ = some (.int .i64 o.kind) := k1.cell 0
  have x11 : w2.cell? ⟨p1, 1, none⟩ = some (.int .i64 o.id.n) := k1.cell 1
  have x12 : w2.cell? ⟨p1, 2, none⟩ = some (.int .i64 o.id.c) := k1.cell 2
  have x13 : w2.cell? ⟨p1, 3, none⟩ = some (.string o.key) := k1.cell 3
  have x14 : w2.cell? ⟨p1, 4, none⟩ = some (.int .i64 o.mode) := k1.cell 4
  clear k1 HB HH
  by_cases k0 : o.kind = 0
  · have HPL : Hid (playT q o = askT q (lopL o)) := Lib.hid (by unfold playT; rw [if_pos k0])
    rw [k0] at x10
    clear k0
    have HC : Hid (Calls Tryz.prog 14 #[.pointer (some ⟨d, 0, none⟩), .agg #[.int .i64 o.id.n, .int .i64 o.id.c], .string o.key, .int .i64 o.mode] w2 (AskEnds d q m (lopL o) w2)) := Lib.hid (ask_any HX2.out.tb (lopL o) (by omega) HAZ.out)
    go_wp2_with fail
    refine HC.out.mono ?_
    clear HC
    rintro e w3 ⟨A1, c1, rfl, ho, hf, m', ht, hm, ha⟩
    have HX3 := Lib.hid ((HX2.out.prog ht hm).more (T' := ob A1) (fun k hk => ⟨⟨ha k hk, fun hm_ => by have h1 := HX2.out.rf.lt k hm_; have h2 := hf k hk; omega⟩, own_lt ho k hk⟩))
    have HK3 := Lib.hid (hm.kept.blk HK2.out (HX2.out.ap p1 (by simp)).1.1)
    have HO3 := Lib.hid ho
    have HFR : Hid (∀ k ∈ ob A1, w0.heap.size ≤ k) := Lib.hid (fun k hk => Nat.le_trans HX2.out.bel.size (hf k hk))
    have HFR2 : Hid (∀ k ∈ ob A1, ¬ k = p1) := Lib.hid (fun k hk e => by have h1 := hf k hk; have h2 := HK2.out.lt; omega)
    clear ho hf ht hm ha HX2 HK2 x10 x11 x12 x13 x14
    have x11 : w3.cell? ⟨p1, 1, none⟩ = some (.int .i64 o.id.n) := HK3.out.cell 1
    have x12 : w3.cell? ⟨p1, 2, none⟩ = some (.int .i64 o.id.c) := HK3.out.cell 2
    have x13 : w3.cell? ⟨p1, 3, none⟩ = some (.string o.key) := HK3.out.cell 3
    have x14 : w3.cell? ⟨p1, 4, none⟩ = some (.int .i64 o.mode) := HK3.out.cell 4
    have HC : Hid (Calls Tryz.prog 15 #[.pointer (some ⟨g, 0, none⟩), .agg #[.int .i64 o.id.n, .int .i64 o.id.c], .string o.key, .int .i64 o.mode] w3 (RAskEnds g q n (lopL o) w3)) := Lib.hid (rask_any HX3.out.rf HGD.out (lopL o) (by omega) HAZ.out)
    go_wp2_with fail
    refine HC.out.mono ?_
    clear HC x11 x12 x13 x14
    rintro e w4 ⟨A2, c2, rfl, ho, hf, n', ht, hm, ha⟩
    have HX4 := Lib.hid (HX3.out.ref ht hm)
    have HK4 := Lib.hid (hm.kept.blk HK3.out (HX3.out.ap p1 (by simp)).1.2)
    have HO4 := Lib.hid (hm.kept.own HO3.out (fun k hk => (HX3.out.ap k (List.mem_append.2 (.inl (ownBlock_mem.1 hk)))).1.2))
    have HP4 := Lib.hid ho
    clear ho hf ht hm ha HX3 HK3 HO3
    have hal : (askH q (lopL o)).length ≤ 1000 := by
      unfold askH
      cases refuse q (lopL o) with
      | some e => simp
      | none =>
        show (victims q (lopL o)).length ≤ 1000
        unfold victims
        rw [List.length_map]
        have := List.length_filter_le (victim q (lopL o)) q.held
        omega
    obtain ⟨E, hE⟩ : ∃ E, E = askE q (lopL o) := ⟨_, rfl⟩
    rw [← hE]
    have zE : (E != E) = false := by simp
    have zE2 : decide (E = E) = true := by simp
    have zE3 : (E == E) = true := by simp
    have HAL := Lib.hid (alikeI A1 A2 c1 c2 _ _ (askH q (lopL o)) w4 (Reads.of_own HO4.out) (Reads.of_own HP4.out) (by omega))
    clear hE
    go_wp2_with fail
    refine HAL.out.mono ?_
    clear HAL
    rintro e w5 ⟨rfl, k5, rfl⟩
    have hb5 := below_drewN (Below.refl w4.heap.size w4) k5
    obtain ⟨w5, hw5⟩ : ∃ w5, w5 = w4.drewN k5 := ⟨_, rfl⟩
    rw [← hw5] at hb5 ⊢
    have HX5 := Lib.hid (HX4.out.below hb5)
    have HK5 := Lib.hid (HK4.out.below hb5 HK4.out.lt)
    have HO5 := Lib.hid (own_b HO4.out hb5)
    clear hw5 hb5 HX4 HK4 HO4 HP4
    have HSP := Lib.hid (spoil_any (World.ownsRow_nil w5 0 62 4) HO5.out (World.ownsRow_nil w5 0 66 5) (by omega) (by omega) (by omega))
    go_wp2_with fail
    refine HSP.out.mono ?_
    clear HSP
    rintro e w6 ⟨rfl, hk⟩
    have HX6 := Lib.hid (HX5.out.kept hk (fun k hm => by simp [ob_none] at hm; exact ⟨by simp [hm], HFR.out k hm⟩))
    have HK6 := Lib.hid (hk.blk HK5.out (fun hm => by simp [ob_none] at hm; have h1 := HFR2.out _ hm; exact h1 rfl))
    clear hk
    have HX7 := Lib.hid (show Bth w0 _ d g (playT q o) m' (playT q o) n' w6 from by rw [HPL.out]; exact HX6.out)
    clear HX6 HO5
    go_upto_region 15 with fail
    have HBD : Hid (Below w6.heap.size w6 w6.drew) := Lib.hid (below_drewN (Below.refl w6.heap.size w6) 1)
    have hS : Hid (∀ w', Below w6.heap.size w6 w' → (w'.cell? ⟨p1, 1, none⟩ = some (.int .i64 o.id.n) ∧ w'.cell? ⟨p1, 2, none⟩ = some (.int .i64 o.id.c) ∧ w'.cell? ⟨p1, 3, none⟩ = some (.string o.key))) := Lib.hid (fun w' hb => ⟨(HK6.out.below hb HK6.out.lt).cell 1, (HK6.out.below hb HK6.out.lt).cell 2, (HK6.out.below hb HK6.out.lt).cell 3⟩)
    obtain ⟨M, hM⟩ : ∃ M, M = modeI (playT q o) o.id o.key := ⟨_, rfl⟩
    have HM1 : Hid (∀ w', Below w6.heap.size w6 w' → Calls Tryz.prog 20 #[.pointer (some ⟨d, 0, none⟩), .agg #[.int .i64 o.id.n, .int .i64 o.id.c], .string o.key] w' (IntIs M w')) := Lib.hid (fun w' hb => by have h := mode_any (HX7.out.tb.below hb) o.id o.key; rw [← hM] at h; exact h)
    have HM2 : Hid (∀ w', Below w6.heap.size w6 w' → Calls Tryz.prog 21 #[.pointer (some ⟨g, 0, none⟩), .agg #[.int .i64 o.id.n, .int .i64 o.id.c], .string o.key] w' (IntIs M w')) := Lib.hid (fun w' hb => by have h := rmode_any (HX7.out.rf.below hb) o.id o.key; rw [← hM] at h; exact h)
    clear hM
    have zM : (M == M) = true := by simp
    have zM2 : decide (M = M) = true := by simp
    go_wp2_with fail
    refine wp_region_heldH (by kernel_rfl) hS (HBD.out) (fun hHeld => ?_)
    refine takes [0, 1, 2, 3, 4, 6, 7, 8, 9, 10] 9 (by kernel_rfl) (by assumption) ?_
    iterate 10 (refine tkY rfl (fun _ _ _ h => h) rfl (by ((intro w hSw); (try dsimp only at hSw); go_simp; (try with_reducible rfl))) ?_; try simp only [Act.put, List.setIfInBounds_toArray, List.set_cons_zero, List.set_cons_succ])
    refine tkE ?_
    refine wpAnyH_ready (rs := [5]) (by kernel_rfl) (by simp) ?_
    refine readyC rfl (fun K hK => ?_) ?_
    ·
      go_simp
      go_at_call 20
      refine (HM1.out _ HBD.out).mono ?_
      rintro e wa ⟨rfl, hb_⟩
      have HBA : Hid (Below w6.heap.size w6 wa) := Lib.hid (HBD.out.trans (hb_.mono HBD.out.size))
      clear hb_
      go_wp2_with fail
      refine hK.out _ _ (hS.out _ HBA.out) (fun hHeld => ?_)
      clear hK K
      try simp only [Act.put, List.setIfInBounds_toArray, List.set_cons_zero, List.set_cons_succ]
      refine wpAnyH_ready (rs := [11]) (by kernel_rfl) (by simp) ?_
      refine readyC rfl (fun K hK => ?_) ?_
      ·
        go_simp
        go_at_call 21
        refine (HM2.out _ HBA.out).mono ?_
        rintro e wb ⟨rfl, hb_⟩
        have HBB : Hid (Below w6.heap.size w6 wb) := Lib.hid (HBA.out.trans (hb_.mono HBA.out.size))
        clear hb_
        go_wp2_with fail
        refine hK.out _ _ (hS.out _ HBB.out) (fun hHeld => ?_)
        clear hK K
        try simp only [Act.put, List.setIfInBounds_toArray, List.set_cons_zero, List.set_cons_succ]
        refine takes [12, 13, 14, 15] 3 (by kernel_rfl) (by assumption) ?_
        iterate 4 (refine tkY rfl (fun _ _ _ h => h) rfl (by ((intro w hSw); (try dsimp only at hSw); go_simp; (try with_reducible rfl))) ?_; try simp only [Act.put, List.setIfInBounds_toArray, List.set_cons_zero, List.set_cons_succ])
        refine tkE ?_
        refine wpAnyH_ready (rs := [16]) (by kernel_rfl) (by simp) ?_
        refine readyC rfl (fun K hK => ?_) ?_
        ·
          go_simp
          go_at_call 8
          refine (same_any (HX7.out.tb.below HBB.out) (HX7.out.rf.below HBB.out) HPM.out).mono ?_
          rintro e wc ⟨rfl, hb_⟩
          have HBC : Hid (Below w6.heap.size w6 wc) := Lib.hid (HBB.out.trans (hb_.mono HBB.out.size))
          clear hb_
          go_wp2_with fail
          refine hK.out _ _ (hS.out _ HBC.out) (fun hHeld => ?_)
          clear hK K
          try simp only [Act.put, List.setIfInBounds_toArray, List.set_cons_zero, List.set_cons_succ]
          refine takes [17, 18] 0 (by kernel_rfl) (by assumption) ?_
          iterate 2 (refine tkY rfl (fun _ _ _ h => h) rfl (by ((intro w hSw); (try dsimp only at hSw); go_simp; (try with_reducible rfl))) ?_; try simp only [Act.put, List.setIfInBounds_toArray, List.set_cons_zero, List.set_cons_succ])
          refine tkE ?_
          refine wpAnyH_done (by kernel_rfl) ?_ _
          go_wp2
          go_ret
          exact ⟨rfl, _, _, (HX7.out.below HBC.out).less (fun k hk => by simp [hk])⟩
        exact AllReadyH.nil
      exact AllReadyH.nil
    exact AllReadyH.nil
  · have z0b : (o.kind == 0) = false := by simpa using k0
    have z0d : decide (o.kind = 0) = false := decide_eq_false k0
    by_cases k1 : o.kind = 1
    · have HPL : Hid (playT q o = prepT q o.id) := Lib.hid (by unfold playT; rw [if_neg k0, if_pos k1])
      rw [k1] at x10
      clear k0 k1 z0b z0d
      go_upto_region 13 with fail
      have HBD : Hid (Below w2.heap.size w2 w2.drew) := Lib.hid (below_drewN (Below.refl w2.heap.size w2) 1)
      have HXD := Lib.hid (HX2.out.below HBD.out)
      have HKD := Lib.hid (HK2.out.below HBD.out HK2.out.lt)
      have hS : (w2.drew.cell? ⟨p1, 1, none⟩ = some (.int .i64 o.id.n) ∧ w2.drew.cell? ⟨p1, 2, none⟩ = some (.int .i64 o.id.c)) := ⟨HKD.out.cell 1, HKD.out.cell 2⟩
      obtain ⟨E, hE⟩ : ∃ E, E = prepE q o.id := ⟨_, rfl⟩
      have zE : (E != E) = false := by simp
      have zE2 : decide (E = E) = true := by simp
      have zE3 : (E == E) = true := by simp
      clear x10 x11 x12 x13 x14
      refine wp_region_held_drew (S := fun w' => w'.cell? ⟨p1, 1, none⟩ = some (.int .i64 o.id.n) ∧ w'.cell? ⟨p1, 2, none⟩ = some (.int .i64 o.id.c)) (by kernel_rfl) hS (fun hHeld => ?_)
      refine takes [0, 1, 2, 4, 5, 6] 3 (by kernel_rfl) (by assumption) ?_
      iterate 6 (refine tkY rfl (fun _ _ _ h => h) rfl (by ((intro w hSw); (try dsimp only at hSw); go_simp; (try with_reducible rfl))) ?_; try simp only [Act.put, List.setIfInBounds_toArray, List.set_cons_zero, List.set_cons_succ])
      refine tkE ?_
      refine wpAnyH_ready (rs := [3]) (by kernel_rfl) (by simp) ?_
      refine readyC rfl (fun K hK => ?_) ?_
      ·
        go_simp
        go_at_call 16
        refine (prepare_any HXD.out.tb o.id (by omega)).mono ?_
        rintro e w3 ⟨he, m', ht, hm⟩
        rw [← hE] at he
        subst he
        have HX3 := Lib.hid (HXD.out.prog ht hm)
        have HK3 := Lib.hid (hm.kept.blk HKD.out (HXD.out.ap p1 (by simp)).1.1)
        clear ht hm
        go_wp2_with fail
        refine hK.out _ _ (⟨HK3.out.cell 1, HK3.out.cell 2⟩) (fun hHeld => ?_)
        clear hK K
        try simp only [Act.put, List.setIfInBounds_toArray, List.set_cons_zero, List.set_cons_succ]
        refine wpAnyH_ready (rs := [7]) (by kernel_rfl) (by simp) ?_
        refine readyC rfl (fun K hK => ?_) ?_
        ·
          go_simp
          go_at_call 17
          refine (rprep_any HX3.out.rf o.id (by omega)).mono ?_
          rintro e w4 ⟨he, n', ht, hm⟩
          rw [← hE] at he
          subst he
          have HX4 := Lib.hid (HX3.out.ref ht hm)
          have HK4 := Lib.hid (hm.kept.blk HK3.out (HX3.out.ap p1 (by simp)).1.2)
          clear ht hm
          go_wp2_with fail
          refine hK.out _ _ (⟨HK4.out.cell 1, HK4.out.cell 2⟩) (fun hHeld => ?_)
          clear hK K
          try simp only [Act.put, List.setIfInBounds_toArray, List.set_cons_zero, List.set_cons_succ]
          refine takes [8] 0 (by kernel_rfl) (by assumption) ?_
          refine tkY rfl (fun _ _ _ h => h) rfl (by ((intro w hSw); (try dsimp only at hSw); go_simp; (try with_reducible rfl))) ?_; try simp only [Act.put, List.setIfInBounds_toArray, List.set_cons_zero, List.set_cons_succ]
          refine tkE ?_
          refine wpAnyH_done (by kernel_rfl) ?_ _
          clear hE
          have HX7 := Lib.hid (show Bth w0 _ d g (playT q o) m' (playT q o) n' w4 from by rw [HPL.out]; exact HX4.out)
          go_upto_region 15 with fail
          have HBD : Hid (Below w4.heap.size w4 w4.drew) := Lib.hid (below_drewN (Below.refl w4.heap.size w4) 1)
          have hS : Hid (∀ w', Below w4.heap.size w4 w' → (w'.cell? ⟨p1, 1, none⟩ = some (.int .i64 o.id.n) ∧ w'.cell? ⟨p1, 2, none⟩ = some (.int .i64 o.id.c) ∧ w'.cell? ⟨p1, 3, none⟩ = some (.string o.key))) := Lib.hid (fun w' hb => ⟨(HK4.out.below hb HK4.out.lt).cell 1, (HK4.out.below hb HK4.out.lt).cell 2, (HK4.out.below hb HK4.out.lt).cell 3⟩)
          obtain ⟨M, hM⟩ : ∃ M, M = modeI (playT q o) o.id o.key := ⟨_, rfl⟩
          have HM1 : Hid (∀ w', Below w4.heap.size w4 w' → Calls Tryz.prog 20 #[.pointer (some ⟨d, 0, none⟩), .agg #[.int .i64 o.id.n, .int .i64 o.id.c], .string o.key] w' (IntIs M w')) := Lib.hid (fun w' hb => by have h := mode_any (HX7.out.tb.below hb) o.id o.key; rw [← hM] at h; exact h)
          have HM2 : Hid (∀ w', Below w4.heap.size w4 w' → Calls Tryz.prog 21 #[.pointer (some ⟨g, 0, none⟩), .agg #[.int .i64 o.id.n, .int .i64 o.id.c], .string o.key] w' (IntIs M w')) := Lib.hid (fun w' hb => by have h := rmode_any (HX7.out.rf.below hb) o.id o.key; rw [← hM] at h; exact h)
          clear hM
          have zM : (M == M) = true := by simp
          have zM2 : decide (M = M) = true := by simp
          go_wp2_with fail
          refine wp_region_heldH (by kernel_rfl) hS (HBD.out) (fun hHeld => ?_)
          refine takes [0, 1, 2, 3, 4, 6, 7, 8, 9, 10] 9 (by kernel_rfl) (by assumption) ?_
          iterate 10 (refine tkY rfl (fun _ _ _ h => h) rfl (by ((intro w hSw); (try dsimp only at hSw); go_simp; (try with_reducible rfl))) ?_; try simp only [Act.put, List.setIfInBounds_toArray, List.set_cons_zero, List.set_cons_succ])
          refine tkE ?_
          refine wpAnyH_ready (rs := [5]) (by kernel_rfl) (by simp) ?_
          refine readyC rfl (fun K hK => ?_) ?_
          ·
            go_simp
            go_at_call 20
            refine (HM1.out _ HBD.out).mono ?_
            rintro e wa ⟨rfl, hb_⟩
            have HBA : Hid (Below w4.heap.size w4 wa) := Lib.hid (HBD.out.trans (hb_.mono HBD.out.size))
            clear hb_
            go_wp2_with fail
            refine hK.out _ _ (hS.out _ HBA.out) (fun hHeld => ?_)
            clear hK K
            try simp only [Act.put, List.setIfInBounds_toArray, List.set_cons_zero, List.set_cons_succ]
            refine wpAnyH_ready (rs := [11]) (by kernel_rfl) (by simp) ?_
            refine readyC rfl (fun K hK => ?_) ?_
            ·
              go_simp
              go_at_call 21
              refine (HM2.out _ HBA.out).mono ?_
              rintro e wb ⟨rfl, hb_⟩
              have HBB : Hid (Below w4.heap.size w4 wb) := Lib.hid (HBA.out.trans (hb_.mono HBA.out.size))
              clear hb_
              go_wp2_with fail
              refine hK.out _ _ (hS.out _ HBB.out) (fun hHeld => ?_)
              clear hK K
              try simp only [Act.put, List.setIfInBounds_toArray, List.set_cons_zero, List.set_cons_succ]
              refine takes [12, 13, 14, 15] 3 (by kernel_rfl) (by assumption) ?_
              iterate 4 (refine tkY rfl (fun _ _ _ h => h) rfl (by ((intro w hSw); (try dsimp only at hSw); go_simp; (try with_reducible rfl))) ?_; try simp only [Act.put, List.setIfInBounds_toArray, List.set_cons_zero, List.set_cons_succ])
              refine tkE ?_
              refine wpAnyH_ready (rs := [16]) (by kernel_rfl) (by simp) ?_
              refine readyC rfl (fun K hK => ?_) ?_
              ·
                go_simp
                go_at_call 8
                refine (same_any (HX7.out.tb.below HBB.out) (HX7.out.rf.below HBB.out) HPM.out).mono ?_
                rintro e wc ⟨rfl, hb_⟩
                have HBC : Hid (Below w4.heap.size w4 wc) := Lib.hid (HBB.out.trans (hb_.mono HBB.out.size))
                clear hb_
                go_wp2_with fail
                refine hK.out _ _ (hS.out _ HBC.out) (fun hHeld => ?_)
                clear hK K
                try simp only [Act.put, List.setIfInBounds_toArray, List.set_cons_zero, List.set_cons_succ]
                refine takes [17, 18] 0 (by kernel_rfl) (by assumption) ?_
                iterate 2 (refine tkY rfl (fun _ _ _ h => h) rfl (by ((intro w hSw); (try dsimp only at hSw); go_simp; (try with_reducible rfl))) ?_; try simp only [Act.put, List.setIfInBounds_toArray, List.set_cons_zero, List.set_cons_succ])
                refine tkE ?_
                refine wpAnyH_done (by kernel_rfl) ?_ _
                go_wp2
                go_ret
                exact ⟨rfl, _, _, (HX7.out.below HBC.out).less (fun k hk => by simp [hk])⟩
              exact AllReadyH.nil
            exact AllReadyH.nil
          exact AllReadyH.nil
        exact AllReadyH.nil
      exact AllReadyH.nil
    · have z1b : (o.kind == 1) = false := by simpa using k1
      have z1d : decide (o.kind = 1) = false := decide_eq_false k1
      have HPL : Hid (playT q o = (endS q o.id).1) := Lib.hid (by unfold playT; rw [if_neg k0, if_neg k1])
      clear k0 k1
      go_upto_region 2 with fail
      have HBD : Hid (Below w2.heap.size w2 w2.drew) := Lib.hid (below_drewN (Below.refl w2.heap.size w2) 1)
      have HXD := Lib.hid (HX2.out.below HBD.out)
      have HKD := Lib.hid (HK2.out.below HBD.out HK2.out.lt)
      have hS : (w2.drew.cell? ⟨p1, 1, none⟩ = some (.int .i64 o.id.n) ∧ w2.drew.cell? ⟨p1, 2, none⟩ = some (.int .i64 o.id.c)) := ⟨HKD.out.cell 1, HKD.out.cell 2⟩
      have hgl : (endS q o.id).2.length ≤ 2000000 := got_few HGD.out (by omega)
      clear x10 x11 x12 x13 x14
      refine wp_region_held_drew (S := fun w' => w'.cell? ⟨p1, 1, none⟩ = some (.int .i64 o.id.n) ∧ w'.cell? ⟨p1, 2, none⟩ = some (.int .i64 o.id.c)) (by kernel_rfl) hS (fun hHeld => ?_)
      refine takes [0, 1, 2, 4, 5, 6] 4 (by kernel_rfl) (by assumption) ?_
      iterate 6 (refine tkY rfl (fun _ _ _ h => h) rfl (by ((intro w hSw); (try dsimp only at hSw); go_simp; (try with_reducible rfl))) ?_; try simp only [Act.put, List.setIfInBounds_toArray, List.set_cons_zero, List.set_cons_succ])
      refine tkE ?_
      refine wpAnyH_ready (rs := [3]) (by kernel_rfl) (by simp) ?_
      refine readyC rfl (fun K hK => ?_) ?_
      ·
        go_simp
        go_at_call 18
        refine (end_any HXD.out.tb o.id ⟨by omega, by omega⟩).mono ?_
        rintro e w3 ⟨A1, c1, rfl, ho, hf, m', ht, hm, ha⟩
        have HX3 := Lib.hid ((HXD.out.prog ht hm).more (T' := ob A1) (fun k hk => ⟨⟨ha k hk, fun hm_ => by have h1 := HXD.out.rf.lt k hm_; have h2 := hf k hk; omega⟩, own_lt ho k hk⟩))
        have HK3 := Lib.hid (hm.kept.blk HKD.out (HXD.out.ap p1 (by simp)).1.1)
        have HO3 := Lib.hid ho
        have HFR : Hid (∀ k ∈ ob A1, w0.heap.size ≤ k) := Lib.hid (fun k hk => Nat.le_trans HXD.out.bel.size (hf k hk))
        have HFR2 : Hid (∀ k ∈ ob A1, ¬ k = p1) := Lib.hid (fun k hk e => by have h1 := hf k hk; have h2 := HKD.out.lt; omega)
        clear ho hf ht hm ha
        go_wp2_with fail
        refine hK.out _ _ (⟨HK3.out.cell 1, HK3.out.cell 2⟩) (fun hHeld => ?_)
        clear hK K
        try simp only [Act.put, List.setIfInBounds_toArray, List.set_cons_zero, List.set_cons_succ]
        refine wpAnyH_ready (rs := [7]) (by kernel_rfl) (by simp) ?_
        refine readyC rfl (fun K hK => ?_) ?_
        ·
          go_simp
          go_at_call 19
          refine (rend_any HX3.out.rf o.id HGD.out (by omega) ⟨by omega, by omega⟩).mono ?_
          rintro e w4 ⟨A2, c2, rfl, ho, hf, n', ht, hm, ha⟩
          have HX4 := Lib.hid (HX3.out.ref ht hm)
          have HK4 := Lib.hid (hm.kept.blk HK3.out (HX3.out.ap p1 (by simp)).1.2)
          have HO4 := Lib.hid (hm.kept.own HO3.out (fun k hk => (HX3.out.ap k (List.mem_append.2 (.inl (ownBlock_mem.1 hk)))).1.2))
          have HP4 := Lib.hid ho
          clear ho hf ht hm ha HX3 HK3 HO3
          go_wp2_with fail
          refine hK.out _ _ (⟨HK4.out.cell 1, HK4.out.cell 2⟩) (fun hHeld => ?_)
          clear hK K
          try simp only [Act.put, List.setIfInBounds_toArray, List.set_cons_zero, List.set_cons_succ]
          refine takes [8, 9] 0 (by kernel_rfl) (by assumption) ?_
          iterate 2 (refine tkY rfl (fun _ _ _ h => h) rfl (by ((intro w hSw); (try dsimp only at hSw); go_simp; (try with_reducible rfl))) ?_; try simp only [Act.put, List.setIfInBounds_toArray, List.set_cons_zero, List.set_cons_succ])
          refine tkE ?_
          refine wpAnyH_done (by kernel_rfl) ?_ _
          obtain ⟨L, hL⟩ : ∃ L, L = (endS q o.id).2 := ⟨_, rfl⟩
          rw [← hL] at HO4 HP4 hgl
          rw [← hL]
          have HAL := Lib.hid (alikeL A1 A2 c1 c2 _ _ L w4 (Reads.of_own HO4.out) (Reads.of_own HP4.out) (by omega))
          clear hL
          go_wp2_with fail
          refine HAL.out.mono ?_
          clear HAL
          rintro e w5 ⟨rfl, k5, rfl⟩
          have hb5 := below_drewN (Below.refl w4.heap.size w4) k5
          obtain ⟨w5, hw5⟩ : ∃ w5, w5 = w4.drewN k5 := ⟨_, rfl⟩
          rw [← hw5] at hb5 ⊢
          have HX5 := Lib.hid (HX4.out.below hb5)
          have HK5 := Lib.hid (HK4.out.below hb5 HK4.out.lt)
          have HO5 := Lib.hid (own_b HO4.out hb5)
          clear hw5 hb5 HX4 HK4 HO4 HP4
          have HSP := Lib.hid (spoil_any HO5.out (World.ownsRow_nil w5 0 29 2) (World.ownsRow_nil w5 0 66 5) (by omega) (by omega) (by omega))
          go_wp2_with fail
          refine HSP.out.mono ?_
          clear HSP
          rintro e w6 ⟨rfl, hk⟩
          have HX6 := Lib.hid (HX5.out.kept hk (fun k hm => by simp [ob_none] at hm; exact ⟨by simp [hm], HFR.out k hm⟩))
          have HK6 := Lib.hid (hk.blk HK5.out (fun hm => by simp [ob_none] at hm; have h1 := HFR2.out _ hm; exact h1 rfl))
          clear hk
          have HX7 := Lib.hid (show Bth w0 _ d g (playT q o) m' (playT q o) n' w6 from by rw [HPL.out]; exact HX6.out)
          clear HX6 HO5
          go_upto_region 15 with fail
          have HBD : Hid (Below w6.heap.size w6 w6.drew) := Lib.hid (below_drewN (Below.refl w6.heap.size w6) 1)
          have hS : Hid (∀ w', Below w6.heap.size w6 w' → (w'.cell? ⟨p1, 1, none⟩ = some (.int .i64 o.id.n) ∧ w'.cell? ⟨p1, 2, none⟩ = some (.int .i64 o.id.c) ∧ w'.cell? ⟨p1, 3, none⟩ = some (.string o.key))) := Lib.hid (fun w' hb => ⟨(HK6.out.below hb HK6.out.lt).cell 1, (HK6.out.below hb HK6.out.lt).cell 2, (HK6.out.below hb HK6.out.lt).cell 3⟩)
          obtain ⟨M, hM⟩ : ∃ M, M = modeI (playT q o) o.id o.key := ⟨_, rfl⟩
          have HM1 : Hid (∀ w', Below w6.heap.size w6 w' → Calls Tryz.prog 20 #[.pointer (some ⟨d, 0, none⟩), .agg #[.int .i64 o.id.n, .int .i64 o.id.c], .string o.key] w' (IntIs M w')) := Lib.hid (fun w' hb => by have h := mode_any (HX7.out.tb.below hb) o.id o.key; rw [← hM] at h; exact h)
          have HM2 : Hid (∀ w', Below w6.heap.size w6 w' → Calls Tryz.prog 21 #[.pointer (some ⟨g, 0, none⟩), .agg #[.int .i64 o.id.n, .int .i64 o.id.c], .string o.key] w' (IntIs M w')) := Lib.hid (fun w' hb => by have h := rmode_any (HX7.out.rf.below hb) o.id o.key; rw [← hM] at h; exact h)
          clear hM
          have zM : (M == M) = true := by simp
          have zM2 : decide (M = M) = true := by simp
          go_wp2_with fail
          refine wp_region_heldH (by kernel_rfl) hS (HBD.out) (fun hHeld => ?_)
          refine takes [0, 1, 2, 3, 4, 6, 7, 8, 9, 10] 9 (by kernel_rfl) (by assumption) ?_
          iterate 10 (refine tkY rfl (fun _ _ _ h => h) rfl (by ((intro w hSw); (try dsimp only at hSw); go_simp; (try with_reducible rfl))) ?_; try simp only [Act.put, List.setIfInBounds_toArray, List.set_cons_zero, List.set_cons_succ])
          refine tkE ?_
          refine wpAnyH_ready (rs := [5]) (by kernel_rfl) (by simp) ?_
          refine readyC rfl (fun K hK => ?_) ?_
          ·
            go_simp
            go_at_call 20
            refine (HM1.out _ HBD.out).mono ?_
            rintro e wa ⟨rfl, hb_⟩
            have HBA : Hid (Below w6.heap.size w6 wa) := Lib.hid (HBD.out.trans (hb_.mono HBD.out.size))
            clear hb_
            go_wp2_with fail
            refine hK.out _ _ (hS.out _ HBA.out) (fun hHeld => ?_)
            clear hK K
            try simp only [Act.put, List.setIfInBounds_toArray, List.set_cons_zero, List.set_cons_succ]
            refine wpAnyH_ready (rs := [11]) (by kernel_rfl) (by simp) ?_
            refine readyC rfl (fun K hK => ?_) ?_
            ·
              go_simp
              go_at_call 21
              refine (HM2.out _ HBA.out).mono ?_
              rintro e wb ⟨rfl, hb_⟩
              have HBB : Hid (Below w6.heap.size w6 wb) := Lib.hid (HBA.out.trans (hb_.mono HBA.out.size))
              clear hb_
              go_wp2_with fail
              refine hK.out _ _ (hS.out _ HBB.out) (fun hHeld => ?_)
              clear hK K
              try simp only [Act.put, List.setIfInBounds_toArray, List.set_cons_zero, List.set_cons_succ]
              refine takes [12, 13, 14, 15] 3 (by kernel_rfl) (by assumption) ?_
              iterate 4 (refine tkY rfl (fun _ _ _ h => h) rfl (by ((intro w hSw); (try dsimp only at hSw); go_simp; (try with_reducible rfl))) ?_; try simp only [Act.put, List.setIfInBounds_toArray, List.set_cons_zero, List.set_cons_succ])
              refine tkE ?_
              refine wpAnyH_ready (rs := [16]) (by kernel_rfl) (by simp) ?_
              refine readyC rfl (fun K hK => ?_) ?_
              ·
                go_simp
                go_at_call 8
                refine (same_any (HX7.out.tb.below HBB.out) (HX7.out.rf.below HBB.out) HPM.out).mono ?_
                rintro e wc ⟨rfl, hb_⟩
                have HBC : Hid (Below w6.heap.size w6 wc) := Lib.hid (HBB.out.trans (hb_.mono HBB.out.size))
                clear hb_
                go_wp2_with fail
                refine hK.out _ _ (hS.out _ HBC.out) (fun hHeld => ?_)
                clear hK K
                try simp only [Act.put, List.setIfInBounds_toArray, List.set_cons_zero, List.set_cons_succ]
                refine takes [17, 18] 0 (by kernel_rfl) (by assumption) ?_
                iterate 2 (refine tkY rfl (fun _ _ _ h => h) rfl (by ((intro w hSw); (try dsimp only at hSw); go_simp; (try with_reducible rfl))) ?_; try simp only [Act.put, List.setIfInBounds_toArray, List.set_cons_zero, List.set_cons_succ])
                refine tkE ?_
                refine wpAnyH_done (by kernel_rfl) ?_ _
                go_wp2
                go_ret
                exact ⟨rfl, _, _, (HX7.out.below HBC.out).less (fun k hk => by simp [hk])⟩
              exact AllReadyH.nil
            exact AllReadyH.nil
          exact AllReadyH.nil
        exact AllReadyH.nil
      exact AllReadyH.nil
end Go.Proofs.YtpidpdbjjdkhoaaGreat
