/- Entries: rlog's one, the reference's Copy. -/
import Derived.Test.YtdcnfdhhflmdcaaEntA
namespace Go.Proofs.Ytdcnfdhhflmdcaa
open Go.RowKit
set_option linter.unusedSimpArgs false
set_option linter.unusedVariables false

/-- an entry's two slices lie in rows of one's own, in new memory -/
structure OwnF (w : World) (B : Nat) (m : MEnt) : Prop where
  wr : w.ownsRow 0 76 3 (.slice m.aw m.e.ws.length m.cw) m.e.ws.length (wc m.e.ws)
  gr : w.ownsRow 0 3 1 (.slice m.ag m.e.gs.length m.cg) m.e.gs.length (ic m.e.gs)
  fw : ∀ k ∈ ob m.aw, B ≤ k
  fg : ∀ k ∈ ob m.ag, B ≤ k
theorem OwnF.fine {w : World} {B : Nat} {m : MEnt} (h : OwnF w B m) : Fine w w.heap.size m := ⟨Reads.of_own h.wr, Reads.of_own h.gr⟩
theorem OwnF.kept {w w' : World} {B : Nat} {m : MEnt} {S : List Nat} (h : OwnF w B m) (hk : Kept S w w') (hw : ∀ k ∈ ob m.aw, k ∉ S) (hg : ∀ k ∈ ob m.ag, k ∉ S) : OwnF w' B m := ⟨hk.own h.wr (fun k hk2 => hw k (ownBlock_mem.1 hk2)), hk.own h.gr (fun k hk2 => hg k (ownBlock_mem.1 hk2)), h.fw, h.fg⟩
def SmallE (m : MEnt) : Prop := m.e.ws.length * 40 ≤ 140737488355328 ∧ m.e.gs.length * 8 ≤ 140737488355328
def OneEnds (m : MEnt) (w : World) (e : Ending) (w' : World) : Prop := ∃ m' : MEnt, e = .returned (magg m') ∧ m'.e = m.e ∧ OwnF w' w.heap.size m' ∧ Below w.heap.size w w'
set_option maxHeartbeats 4000000 in
set_option maxRecDepth 100000 in
theorem one_any (m : MEnt) (w : World) (hf : Fine w w.heap.size m) (hs : SmallE m) : Calls Try.prog 32 #[magg m] w (OneEnds m w) := by
  obtain ⟨i1, hi1, hz1, hy1, hx1⟩ := info_parts Try.infoW
  obtain ⟨i2, hi2, hz2, hy2, hx2⟩ := info_parts Try.infoI
  have hs1 := hs.1
  have hs2 := hs.2
  have HF := Lib.hid hf
  clear hf hs
  have hb1 := below_alloc w (.cells (mcell m).toArray 37)
  have hb2 := hb1.alloc hb1.size (.cells (mcell ment0).toArray 37)
  have k1 := (Blk.new w 37 (mcell m).toArray).alloc (.cells (mcell ment0).toArray 37)
  have k2 := Blk.new (w.alloc (.cells (mcell m).toArray 37)) 37 (mcell ment0).toArray
  rw [World.size_alloc] at k2
  have hsz1 : w.heap.size + 1 < (w.alloc (.cells (mcell m).toArray 37) |>.alloc (.cells (mcell ment0).toArray 37)).heap.size := k2.lt
  unfold magg
  go_enter Try.func32, Try.ntmps32
  go_wp2_with (first
    | (at_builtin; refine wpList_app rfl (.const (.slice none 0 0)) (.tmp 5) 33 33 rfl 76 i1 _ 3 40 Try.underlying33 hi1 hz1 hy1 hx1 rfl (by omega) none 0 0 [] rfl (World.ownsRow_nil _ _ _ _) _ m.e.ws.length (wc m.e.ws) rfl (Src.ofReads Try.underlying33 (HF.out.wr.below hb2) (wc_one _)) (by simp only [maxLen]; omega) (by omega) ?_
       intro A1 c1 w1 hown1 hk1 hf1
       rw [Nat.zero_add, List.nil_append] at hown1
       rw [Nat.zero_add]
       have hb3 := hb2.trans (hk1.below (B := w.heap.size) hb2.size (by simp [ob]))
       have j1 := hk1.blk k1 (by simp [ob])
       have j2 := hk1.blk k2 (by simp [ob])
       have d7 : w1.cell? ⟨w.heap.size, 7, none⟩ = some (.slice m.aw m.e.ws.length m.cw) := j1.cell 7
       have f7 := j1.frozen 7
       have d8 : w1.cell? ⟨w.heap.size, 8, none⟩ = some (.slice m.ag m.e.gs.length m.cg) := j1.cell 8
       have hb4 := hb3.setCell (p := ⟨w.heap.size, 7, none⟩) (Nat.le_refl _) (.slice A1 m.e.ws.length c1))
    | (at_builtin; refine wpList_app rfl (.const (.slice none 0 0)) (.tmp 11) 22 22 rfl 3 i2 _ 1 8 Try.underlying22 hi2 hz2 hy2 hx2 rfl (by omega) none 0 0 [] rfl (World.ownsRow_nil _ _ _ _) _ m.e.gs.length (ic m.e.gs) rfl (Src.ofReads Try.underlying22 (HF.out.gr.below hb4) (ic_one _)) (by simp only [maxLen]; omega) (by omega) ?_
       intro A2 c2 w2 hown2 hk2 hf2
       rw [Nat.zero_add, List.nil_append] at hown2
       rw [Nat.zero_add]
       have l1 := hk2.blk (j1.set_ 7 (.slice A1 m.e.ws.length c1)) (by simp [ob])
       have l2 := hk2.blk (j2.far (p := ⟨w.heap.size, 7, none⟩) (by simp) (.slice A1 m.e.ws.length c1)) (by simp [ob])
       have d9 : w2.cell? ⟨w.heap.size, 8, none⟩ = some (.slice m.ag m.e.gs.length m.cg) := l1.cell 8
       have f9 := l1.frozen 8
       have l3 : Blk (w2.setCell ⟨w.heap.size, 8, none⟩ (.slice A2 m.e.gs.length c2)) w.heap.size 37 (mcell ⟨m.e, A1, c1, A2, c2⟩).toArray := l1.set_ 8 (.slice A2 m.e.gs.length c2)
       have l4 := l2.far (p := ⟨w.heap.size, 8, none⟩) (by simp) (.slice A2 m.e.gs.length c2)
       have hld := l3.range
       have hst := cells_ent (P := Try.prog) ⟨m.e, A1, c1, A2, c2⟩ (l4.there (o := 0) (n := 13) (by decide)))
    | (with_reducible refine wpList_load_mid ?e1 37 (.tmp 1) ?e2 w.heap.size 0 ?e3 (mcell ⟨m.e, A1, c1, A2, c2⟩) _ ?e4 Try.underlying37 ?e5 ?e6 ?e7
       case e1 => rfl
       case e2 => rfl
       case e3 => rfl
       case e4 => exact hld
       case e5 => rfl
       case e6 => kernel_rfl
       case' e7 => skip))
  have hb5 := (hb4.trans (hk2.below (B := w.heap.size) hb4.size (by simp [ob]))).setCell (p := ⟨w.heap.size, 8, none⟩) (Nat.le_refl _) (.slice A2 m.e.gs.length c2)
  have hb6 := belowAll (mcell ⟨m.e, A1, c1, A2, c2⟩) (g := w.heap.size + 1) (p := 0) hb5 (Nat.le_succ _)
  have l5 := Blk.setAll (mcell ⟨m.e, A1, c1, A2, c2⟩) (p := 0) l4
  rw [show mcell ment0 = mcell ment0 ++ [] by simp, setAll_head _ _ _ (by rw [mcell_len, mcell_len]), List.append_nil] at l5
  refine bodyPost_ret (results_cell_row (P := Try.prog) rfl _ _ (w.heap.size + 1) 37 _ _ _ rfl l5 Try.underlying37 rfl (by kernel_rfl)) rfl ?_
  have o1 := own_far hown1 (p := ⟨w.heap.size, 7, none⟩) (fun k hk hkp => own_blk_ne hown1 j1 (by decide) (by rw [hk, hkp])) (.slice A1 m.e.ws.length c1)
  have o2 := hk2.own o1 (by simp [ob])
  have o3 := own_far o2 (p := ⟨w.heap.size, 8, none⟩) (fun k hk hkp => own_blk_ne o2 l1 (by decide) (by rw [hk, hkp])) (.slice A2 m.e.gs.length c2)
  have o4 := own_farAll (mcell ⟨m.e, A1, c1, A2, c2⟩) (p := 0) o3 (own_blk_ne o3 l4 (by decide))
  have p3 := own_far hown2 (p := ⟨w.heap.size, 8, none⟩) (fun k hk hkp => own_blk_ne hown2 l1 (by decide) (by rw [hk, hkp])) (.slice A2 m.e.gs.length c2)
  have p4 := own_farAll (mcell ⟨m.e, A1, c1, A2, c2⟩) (p := 0) p3 (own_blk_ne p3 l4 (by decide))
  refine ⟨⟨m.e, A1, c1, A2, c2⟩, rfl, rfl, ⟨o4, p4, fun k hk => ?_, fun k hk => ?_⟩, hb6⟩
  · rcases hf1 k hk with h | h
    · simp [ob] at h
    · exact Nat.le_trans hb2.size h
  · rcases hf2 k hk with h | h
    · simp [ob] at h
    · exact Nat.le_trans hb4.size h
end Go.Proofs.Ytdcnfdhhflmdcaa
