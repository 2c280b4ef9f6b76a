/- rlog: a new log; works. -/
import Derived.Test.YtdcnfdhhflmdcaaEntZ
namespace Go.Proofs.Ytdcnfdhhflmdcaa
open Go.RowKit
set_option linter.unusedSimpArgs false
set_option linter.unusedVariables false

theorem new_is (T : TypeId) (w : World) : IsLog T (w.alloc (.cells (logC 0 0 none 0 0) T)) w.heap.size [w.heap.size] 0 0 [] :=
  ⟨none, 0, [], ⟨Blk.new w T _, OwnE.nil _ _, by omega, by simp, by simp, by simp⟩, by simp [fpL, fpE, ob, rows], rfl⟩
/-- an entry of a term alone -/
def eT (t : Int) : Ent := ⟨t, 0, 0, 0, 0, ⟨#[]⟩, 0, [], [], 0, 0, 0, 0⟩
def mT (t : Int) : MEnt := ⟨eT t, none, 0, none, 0⟩
theorem fine_nil (w : World) (B : Nat) (e : Ent) (h1 : e.ws = []) (h2 : e.gs = []) : Fine w B ⟨e, none, 0, none, 0⟩ := by
  obtain ⟨t, k, i, c, h, ky, m, ws, gs, s, o, cd, g⟩ := e
  simp only at h1 h2
  subst h1 h2
  exact ⟨Reads.none_, Reads.none_⟩
theorem small_nil (e : Ent) (h1 : e.ws = []) (h2 : e.gs = []) : SmallE ⟨e, none, 0, none, 0⟩ := by
  unfold SmallE
  simp [h1, h2]
theorem app1 : appN 0 0 [] (eT 1) = 1 ∧ appE 0 0 [] (eT 1) = 0 ∧ appL 0 0 [] (eT 1) = [eT 1] := ⟨by decide, by decide, rfl⟩
theorem app2 : appN 0 0 [eT 1] (eT 2) = 2 ∧ appE 0 0 [eT 1] (eT 2) = 0 ∧ appL 0 0 [eT 1] (eT 2) = [eT 1, eT 2] := ⟨by decide, by decide, rfl⟩
theorem app3 : appE 0 0 [eT 1, eT 2] (eT 1) = 2 ∧ appL 0 0 [eT 1, eT 2] (eT 1) = [eT 1, eT 2] := ⟨by decide, rfl⟩
theorem try1 : tryR 0 0 [eT 1, eT 2] 1 1 [eT 2, eT 3] = ((3, 3, 0), [eT 1, eT 2, eT 3]) := rfl
/-- two entries of a term alone, in a block of their own -/
theorem ents2 (w : World) (a b : Int) (cs : Array Value) (hcs : cs = (mcell (mT a) ++ mcell (mT b)).toArray) : Ents (w.alloc (.cells cs 37)) (w.alloc (.cells cs 37)).heap.size (some ⟨w.heap.size, 0, none⟩) [mT a, mT b].length [mT a, mT b] := by
  subst hcs
  refine ⟨⟨rfl, fun _ => ⟨_, rfl, by simp, fun j u hu => ?_⟩⟩, fun m hm => ?_⟩
  · rw [Addr.add_lit, Nat.zero_add]
    exact ((Blk.new w 37 (mcell (mT a) ++ mcell (mT b)).toArray).cell j).trans (by simpa [mc] using hu)
  · simp only [List.mem_cons, List.not_mem_nil, or_false] at hm
    rcases hm with rfl | rfl
    · exact fine_nil _ _ _ rfl rfl
    · exact fine_nil _ _ _ rfl rfl
set_option maxHeartbeats 2000000 in
theorem works_any (w : World) : Calls Try.prog 7 #[] w fun e w' => e = .returned (.bool true) ∧ Below w.heap.size w w' := by
  have HN := Lib.hid (new_any w)
  have HI := Lib.hid (new_is 69 w)
  have HB := Lib.hid (below_alloc w (.cells (logC 0 0 none 0 0) 69))
  obtain ⟨w0, hw0⟩ : ∃ w0, w0 = w.alloc (.cells (logC 0 0 none 0 0) 69) := ⟨_, rfl⟩
  rw [← hw0] at HN HI HB
  clear hw0
  go_enter Try.func7, Try.ntmps7
  go_wp2_with fail
  refine HN.out.mono ?_
  rintro e w9 ⟨rfl, rfl⟩
  go_wp2_with fail
  refine (append_any w.heap.size [w.heap.size] 0 0 [] (mT 1) _ HI.out (fine_nil _ _ _ rfl rfl) (small_nil _ rfl rfl)).mono ?_
  rintro e w1 ⟨he, F1, hI1, hM1⟩
  rw [show (mT 1).e = eT 1 from rfl, app1.1, app1.2.1] at he
  rw [show (mT 1).e = eT 1 from rfl, app1.2.2] at hI1
  subst he
  go_wp2_with fail
  refine (append_any w.heap.size F1 0 0 [eT 1] (mT 2) _ hI1 (fine_nil _ _ _ rfl rfl) (small_nil _ rfl rfl)).mono ?_
  rintro e w2 ⟨he, F2, hI2, hM2⟩
  rw [show (mT 2).e = eT 2 from rfl, app2.1, app2.2.1] at he
  rw [show (mT 2).e = eT 2 from rfl, app2.2.2] at hI2
  subst he
  go_wp2_with fail
  refine (append_any w.heap.size F2 0 0 [eT 1, eT 2] (mT 1) _ hI2 (fine_nil _ _ _ rfl rfl) (small_nil _ rfl rfl)).mono ?_
  rintro e w3 ⟨he, F3, hI3, hM3⟩
  rw [show (mT 1).e = eT 1 from rfl, app3.1] at he
  rw [show (mT 1).e = eT 1 from rfl, app3.2] at hI3
  subst he
  go_wp2_with fail
  have hb3 := below_alloc w3 (.cells #[.int .i64 2, .int .i64 0, .int .i64 0, .int .i64 0, .int .i64 0, .string ⟨#[]⟩, .int .i64 0, .slice none 0 0, .slice none 0 0, .int .i64 0, .int .i64 0, .int .i64 0, .int .i64 0, .int .i64 3, .int .i64 0, .int .i64 0, .int .i64 0, .int .i64 0, .string ⟨#[]⟩, .int .i64 0, .slice none 0 0, .slice none 0 0, .int .i64 0, .int .i64 0, .int .i64 0, .int .i64 0] 37)
  refine (try_any w.heap.size F3 0 0 [eT 1, eT 2] 1 1 (some ⟨w3.heap.size, 0, none⟩) 2 [mT 2, mT 3] _ (hI3.below hb3) (ents2 w3 2 3 _ rfl) ⟨by decide, fun m hm => ?_⟩ (by decide)).mono ?_
  · simp only [List.mem_cons, List.not_mem_nil, or_false] at hm
    rcases hm with rfl | rfl
    · exact small_nil _ rfl rfl
    · exact small_nil _ rfl rfl
  rintro e w4 ⟨he, F4, hI4, hM4⟩
  rw [show es [mT 2, mT 3] = [eT 2, eT 3] from rfl, try1] at he
  subst he
  have hM : Moves [w.heap.size] F4 w9 w4 := ((hM1.trans hM2).trans hM3).trans (hM4.below_left hb3)
  have hbw := HB.out.trans ((hM.below (B := w.heap.size) HB.out.size (fun x hx => by rw [List.mem_singleton.1 hx]; exact Nat.le_refl _)))
  clear hM hM1 hM2 hM3 hM4 hI1 hI2 hI3 hI4 hb3
  have HBW := Lib.hid hbw
  clear hbw
  go_wp2
  go_ret
  exact ⟨rfl, HBW.out⟩
end Go.Proofs.Ytdcnfdhhflmdcaa
