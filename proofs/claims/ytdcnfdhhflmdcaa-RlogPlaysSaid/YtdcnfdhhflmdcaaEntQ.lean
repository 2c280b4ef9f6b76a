/- rlog: Append. -/
import Derived.Test.YtdcnfdhhflmdcaaEntP
import Derived.Deep.RegionLaw
namespace Go.Proofs.Ytdcnfdhhflmdcaa
open Go.RowKit
set_option linter.unusedSimpArgs false
set_option linter.unusedVariables false

def appE (b t : Int) (l : List Ent) (e : Ent) : Int :=
  if numB e.term = false then 2 else if e.term < lastT b t l then 2 else if lastI b l = 1099511627776 then 2 else if l.length = 512 then 131 else 0
def appN (b t : Int) (l : List Ent) (e : Ent) : Int := if appE b t l e = 0 then lastI b l + 1 else 0
def appL (b t : Int) (l : List Ent) (e : Ent) : List Ent := if appE b t l e = 0 then l ++ [e] else l
def AppEnds (T : TypeId) (d : Nat) (F : List Nat) (b t : Int) (l : List Ent) (x : Ent) (w : World) (e : Ending) (w' : World) : Prop :=
  e = .returned (.tuple #[.int .i64 (appN b t l x), .int .i64 (appE b t l x)]) ∧ ∃ F', IsLog T w' d F' b t (appL b t l x) ∧ Moves F F' w w'
theorem load_blk {w : World} {g : Nat} {m : MEnt} (h : Blk w g 37 (mcell m).toArray) : (Instr.loadAt 37 (.pointer (some ⟨g, 0, none⟩))).run Try.prog w = .ok (magg m) w := load_ent (Blk.range h)
/-- the thirteen cells of an entry that lies in a block -/
theorem blk13 {w : World} {g : Nat} {m : MEnt} (h : Blk w g 37 (mcell m).toArray) : w.cell? ⟨g, 0, none⟩ = some (.int .i64 m.e.term) ∧ w.cell? ⟨g, 1, none⟩ = some (.int .i64 m.e.kind) ∧ w.cell? ⟨g, 2, none⟩ = some (.int .i64 m.e.idn) ∧ w.cell? ⟨g, 3, none⟩ = some (.int .i64 m.e.idc) ∧ w.cell? ⟨g, 4, none⟩ = some (.int .i64 m.e.home) ∧ w.cell? ⟨g, 5, none⟩ = some (.string m.e.key) ∧ w.cell? ⟨g, 6, none⟩ = some (.int .i64 m.e.mode) ∧ w.cell? ⟨g, 7, none⟩ = some (.slice m.aw m.e.ws.length m.cw) ∧ w.cell? ⟨g, 8, none⟩ = some (.slice m.ag m.e.gs.length m.cg) ∧ w.cell? ⟨g, 9, none⟩ = some (.int .i64 m.e.stamp) ∧ w.cell? ⟨g, 10, none⟩ = some (.int .i64 m.e.out) ∧ w.cell? ⟨g, 11, none⟩ = some (.int .i64 m.e.code) ∧ w.cell? ⟨g, 12, none⟩ = some (.int .i64 m.e.grp) :=
  ⟨h.cell 0, h.cell 1, h.cell 2, h.cell 3, h.cell 4, h.cell 5, h.cell 6, h.cell 7, h.cell 8, h.cell 9, h.cell 10, h.cell 11, h.cell 12⟩
theorem lastI_bd {b : Int} {l : List Ent} (h0 : 0 ≤ b) (h1 : b ≤ 1099511627776) (h2 : l.length ≤ 512) : 0 ≤ lastI b l ∧ lastI b l ≤ 1099511628288 := by unfold lastI; omega
/-- a log, an entry appended -/
theorem lg_append {T : TypeId} {w wd w1 w3 : World} {d : Nat} {A A3 : Option Addr} {c k3 : Nat} {b t : Int} {ms : List MEnt} {m' : MEnt} {cs : Array Value} (hT : 37 ≠ T ∧ 76 ≠ T ∧ 3 ≠ T) (hG : Lg T w d A c b t ms) (hwb : Below w.heap.size w wd) (hb1 : Below wd.heap.size wd w1)
    (hOF : OwnF w1 wd.heap.size m') (hown3 : w3.ownsRow 0 37 13 (.slice A3 (ms.length + 1) k3) (ms.length + 1) (mc (ms ++ [m']))) (hk3 : Kept (ob A) (w1.alloc (.cells cs 37)) w3)
    (hf3 : ∀ k ∈ ob A3, k ∈ ob A ∨ (w1.alloc (.cells cs 37)).heap.size ≤ k) (hlen : ms.length < 512) (hroom : b + ms.length < 1099511627776) (hsm : SmallE m') :
    ∃ F', IsLog T (w3.setCell ⟨d, 2, none⟩ (.slice A3 (ms.length + 1) k3)) d F' b t (es ms ++ [m'.e]) ∧ Moves (fpL d A ms) F' w (w3.setCell ⟨d, 2, none⟩ (.slice A3 (ms.length + 1) k3)) := by
  have hb2 : Below w.heap.size w w1 := hwb.trans (hb1.mono hwb.size)
  have hb3 : Below w.heap.size w (w1.alloc (.cells cs 37)) := hb2.alloc hb2.size _
  have hG3 := hG.below hb3
  have hsz : w1.heap.size < (w1.alloc (.cells cs 37)).heap.size := by simp
  have hra := hG3.own.row
  have hdA : d ∉ ob A := own_ne hra hG3.blk hT.1
  have hbl := hk3.blk hG3.blk hdA
  have hbl2 := hbl.set_ 2 (.slice A3 (ms.length + 1) k3)
  have hdA3 : ∀ g, (Value.slice A3 (ms.length + 1) k3).ownBlock = some g → g ≠ d := fun g hg he => own_blk_ne hown3 hbl hT.1 (by rw [hg, he])
  have hown4 := own_far hown3 (p := ⟨d, 2, none⟩) hdA3 (.slice A3 (ms.length + 1) k3)
  have hOFa := hOF.below (below_alloc w1 (.cells cs 37))
  have far : ∀ x : MEnt, ∀ B, OwnF w3 B x → OwnF (w3.setCell ⟨d, 2, none⟩ (.slice A3 (ms.length + 1) k3)) B x := fun x B h =>
    h.kept (S := [d]) ((Kept.refl _ _).setCell _ (.inl (List.mem_cons_self ..))) (fun k hk hm => own_ne h.wr hbl hT.2.1 (by rw [← List.mem_singleton.1 hm]; exact hk)) (fun k hk hm => own_ne h.gr hbl hT.2.2 (by rw [← List.mem_singleton.1 hm]; exact hk))
  have hfin : ∀ x ∈ ms ++ [m'], OwnF (w3.setCell ⟨d, 2, none⟩ (.slice A3 (ms.length + 1) k3)) 0 x := fun x hx => by
    rcases List.mem_append.1 hx with h | h
    · exact far x 0 ((hG3.own.fine x h).grows hra hk3)
    · obtain rfl : x = m' := by simpa using h
      exact far x 0 ((hOFa.grows hra hk3).more (Nat.zero_le _))
  refine ⟨fpL d A3 (ms ++ [m']), ⟨A3, k3, ms ++ [m'], ⟨?_, ⟨?_, hfin, fun k _ => Nat.zero_le k⟩, hG.b0, by simp; omega, by simp; omega, fun x hx => ?_⟩, rfl, by simp [es]⟩, ⟨?_, fun k hk => ?_⟩⟩
  · rw [List.length_append]
    exact hbl2
  · rw [List.length_append]
    exact hown4
  · rcases List.mem_append.1 hx with h | h
    · exact hG.small x h
    · obtain rfl : x = m' := by simpa using h
      exact hsm
  · have k1 : Kept (fpL d A ms) w (w1.alloc (.cells cs 37)) := Kept.of_below hb3
    have k2 := k1.trans hk3 (fun x hx => .inl (List.mem_cons_of_mem _ (List.mem_append.2 (.inl hx))))
    exact k2.setCell _ (.inl (List.mem_cons_self ..))
  · rcases List.mem_cons.1 hk with rfl | hk
    · exact .inl (List.mem_cons_self ..)
    rcases List.mem_append.1 hk with h | h
    · rcases hf3 k h with h1 | h1
      · exact .inl (List.mem_cons_of_mem _ (List.mem_append.2 (.inl h1)))
      · exact .inr (by have := hb2.size; omega)
    · rw [rows_app] at h
      rcases List.mem_append.1 h with h1 | h1
      · exact .inl (List.mem_cons_of_mem _ (List.mem_append.2 (.inr h1)))
      · obtain ⟨x, hx, h2⟩ := mem_rows.1 h1
        obtain rfl : x = m' := by simpa using hx
        have := hwb.size
        rcases h2 with h2 | h2
        · exact .inr (Nat.le_trans this (hOF.fw k h2))
        · exact .inr (Nat.le_trans this (hOF.fg k h2))
set_option maxHeartbeats 4000000 in
theorem append_any (d : Nat) (F : List Nat) (b t : Int) (l : List Ent) (m : MEnt) (w : World) (hL : IsLog 69 w d F b t l) (hf : Fine w w.heap.size m) (hs : SmallE m) :
    Calls Try.prog 9 #[.pointer (some ⟨d, 0, none⟩), magg m] w (AppEnds 69 d F b t l m.e w) := by
  obtain ⟨i0, hi0, hz0, hy0, hx0⟩ := info_parts Try.infoE
  obtain ⟨A, c, ms, hG, rfl, rfl⟩ := hL
  have hba := below_alloc w (.cells (mcell m).toArray 37)
  have hG1 := hG.below hba
  have kx := Blk.new w 37 (mcell m).toArray
  have x0 : (w.alloc (.cells (mcell m).toArray 37)).cell? ⟨w.heap.size, 0, none⟩ = some (.int .i64 m.e.term) := kx.cell 0
  have HLast := Lib.hid (last_any d b t A c ms _ hG1.at_)
  have hbd := lastI_bd (l := es ms) hG.b0 (by have := hG.b1; omega) (by rw [es_len]; exact hG.few)
  unfold LastEnds at HLast
  have HNX := Lib.hid (fun w => number_any m.e.term w)
  have hfew := hG.few
  have HQ : Hid (appE b t (es ms) m.e = if numB m.e.term = false then 2 else if m.e.term < lastT b t (es ms) then 2 else if lastI b (es ms) = 1099511627776 then 2 else if ms.length = 512 then 131 else 0) := Lib.hid (by unfold appE; rw [es_len])
  have HN : Hid (appN b t (es ms) m.e = if appE b t (es ms) m.e = 0 then lastI b (es ms) + 1 else 0) := Lib.hid rfl
  have hM : Moves (fpL d A ms) (fpL d A ms) w (w.alloc (.cells (mcell m).toArray 37)) := ⟨Kept.of_below hba, fun k hk => .inl hk⟩
  have HR : Hid (∀ q, appE b t (es ms) m.e ≠ 0 → ∃ F', IsLog 69 ((w.alloc (.cells (mcell m).toArray 37)).drewN q) d F' b t (appL b t (es ms) m.e) ∧ Moves (fpL d A ms) F' w ((w.alloc (.cells (mcell m).toArray 37)).drewN q)) := Lib.hid (fun q he => by
    unfold appL
    rw [if_neg he]
    exact ⟨_, ⟨A, c, ms, hG1.drewN q, rfl, rfl⟩, ⟨hM.kept.drewN q, hM.foot⟩⟩)
  have HG := Lib.hid hG
  have HG1 := Lib.hid hG1
  have HF := Lib.hid (hf.below hba)
  have HS := Lib.hid hs
  have HBA := Lib.hid hba
  have HKX := Lib.hid kx
  obtain ⟨I, hI⟩ : ∃ I, I = lastI b (es ms) := ⟨_, rfl⟩
  obtain ⟨T, hT⟩ : ∃ T, T = lastT b t (es ms) := ⟨_, rfl⟩
  obtain ⟨E, hE⟩ : ∃ E, E = appE b t (es ms) m.e := ⟨_, rfl⟩
  obtain ⟨N, hN⟩ : ∃ N, N = appN b t (es ms) m.e := ⟨_, rfl⟩
  unfold AppEnds
  rw [← hE, ← hI, ← hT] at HQ
  rw [← hE, ← hI, ← hN] at HN
  rw [← hE] at HR
  rw [← hI, ← hT] at HLast
  rw [← hI] at hbd
  rw [← hE, ← hN]
  have HE := Lib.hid hE
  have HI : Hid (I = b + ms.length) := Lib.hid (by rw [hI]; unfold lastI; rw [es_len])
  have HIB := Lib.hid hG.b1
  clear hG hG1 hM hf hs hba kx hI hT hE hN
  unfold magg
  go_enter Try.func9, Try.ntmps9
  go_wp2_with fail
  refine HLast.out.mono ?_
  rintro e w' ⟨rfl, q, rfl⟩
  go_wp2_with fail
  refine (HNX.out _).mono ?_
  rintro e w' ⟨rfl, rfl⟩
  obtain ⟨hbd0, hbd1⟩ := hbd
  cases h1 : numB m.e.term with
  | false =>
    rw [h1, if_pos rfl] at HQ
    have HE2 : Hid (E = 2 ∧ N = 0) := Lib.hid ⟨HQ.out, by rw [HN.out, HQ.out]; rfl⟩
    go_wp2
    go_ret2
    rw [HE2.out.1, HE2.out.2]
    exact ⟨rfl, HR.out q (by rw [HE2.out.1]; decide)⟩
  | true =>
    rw [h1, if_neg (by decide)] at HQ
    by_cases h2 : m.e.term < T
    · rw [if_pos h2] at HQ
      have HE2 : Hid (E = 2 ∧ N = 0) := Lib.hid ⟨HQ.out, by rw [HN.out, HQ.out]; rfl⟩
      have z2 : decide (m.e.term < T) = true := decide_eq_true h2
      go_wp2
      go_ret2
      rw [HE2.out.1, HE2.out.2]
      exact ⟨rfl, HR.out q (by rw [HE2.out.1]; decide)⟩
    · rw [if_neg h2] at HQ
      have z2 : decide (m.e.term < T) = false := decide_eq_false h2
      by_cases h3 : I = 1099511627776
      · rw [if_pos h3] at HQ
        have HE2 : Hid (E = 2 ∧ N = 0) := Lib.hid ⟨HQ.out, by rw [HN.out, HQ.out]; rfl⟩
        have z3 : (I == 1099511627776) = true := by rw [h3]; rfl
        clear h3
        go_wp2
        go_ret2
        rw [HE2.out.1, HE2.out.2]
        exact ⟨rfl, HR.out q (by rw [HE2.out.1]; decide)⟩
      · rw [if_neg h3] at HQ
        have z3 : (I == 1099511627776) = false := beq_eq_false_iff_ne.2 h3
        clear h3
        have y2 : ((w.alloc (.cells (mcell m).toArray 37)).drewN q).cell? ⟨d, 2, none⟩ = some (.slice A ms.length c) := HG1.out.blk.cell 2
        by_cases h4 : ms.length = 512
        · rw [if_pos h4] at HQ
          have HE2 : Hid (E = 131 ∧ N = 0) := Lib.hid ⟨HQ.out, by rw [HN.out, HQ.out]; rfl⟩
          have z4 : ((ms.length : Int) == 512) = true := by rw [h4]; rfl
          clear h4
          go_wp2
          go_ret2
          rw [HE2.out.1, HE2.out.2]
          exact ⟨rfl, HR.out q (by rw [HE2.out.1]; decide)⟩
        · rw [if_neg h4] at HQ
          have HE2 : Hid (E = 0 ∧ N = I + 1) := Lib.hid ⟨HQ.out, by rw [HN.out, HQ.out]; rfl⟩
          have z4 : ((ms.length : Int) == 512) = false := beq_eq_false_iff_ne.2 (by omega)
          have hlen : ms.length * 144 + 144 ≤ 140737488355328 := by omega
          obtain ⟨wa, hwa⟩ : ∃ wa, wa = (w.alloc (.cells (mcell m).toArray 37)).drewN q := ⟨_, rfl⟩
          have hwb : Below w.heap.size w wa := by rw [hwa]; exact below_drewN HBA.out q
          have hwn : w.heap.size < wa.heap.size := by rw [hwa]; simp
          have kxa : Blk wa w.heap.size 37 (mcell m).toArray := by rw [hwa]; exact HKX.out.drewN q
          go_wp2
          rw [← hwa] at y2 ⊢
          have HFa : Fine wa.drew wa.drew.heap.size m := by rw [hwa]; exact (HF.out.below (below_drewN (Below.refl _ _) (q + 1))).more (by simp)
          clear hwa
          have HONE := Lib.hid (one_any m wa.drew HFa HS.out)
          have kxd := kxa.drew
          have HGA := Lib.hid (show Lg 69 wa.drew d A c b t ms from (HG.out.below hwb).drewN 1)
          have hnA : w.heap.size ∉ ob A := fun hm => by have h1 := HG.out.own.lt _ (List.mem_append.2 (.inl hm)); omega
          have hG0 : d < w.heap.size := HG.out.blk.lt
          have y2d : wa.drew.cell? ⟨d, 2, none⟩ = some (.slice A ms.length c) := y2
          obtain ⟨q0, q1, q2, q3, q4, q5, q6, q7, q8, q9, q10, q11, q12⟩ := blk13 kxd
          go_region_law
            (first
              | (go_simp; go_at_call 32; refine HONE.out.mono ?_; rintro e w1 ⟨m', rfl, hme, hOF, hb1⟩; have HME := Lib.hid hme; clear hme; have y2e := (hb1.cell (p := ⟨d, 2, none⟩) (Nat.lt_trans hG0 hwn)).trans y2d; have kxe := kxd.below hb1 hwn; have y2f : (w1.alloc (.cells #[.int .i64 m'.e.term, .int .i64 m'.e.kind, .int .i64 m'.e.idn, .int .i64 m'.e.idc, .int .i64 m'.e.home, .string m'.e.key, .int .i64 m'.e.mode, .slice m'.aw m'.e.ws.length m'.cw, .slice m'.ag m'.e.gs.length m'.cg, .int .i64 m'.e.stamp, .int .i64 m'.e.out, .int .i64 m'.e.code, .int .i64 m'.e.grp] 37)).cell? ⟨d, 2, none⟩ = some (.slice A ms.length c) := (Below.cell (below_alloc w1 (.cells (mcell m').toArray 37)) (p := ⟨d, 2, none⟩) (Nat.lt_of_lt_of_le (Nat.lt_trans hG0 hwn) hb1.size)).trans y2e; have kxf := kxe.alloc (.cells (mcell m').toArray 37); have hlt1 : ∀ m' : MEnt, d < (w1.alloc (.cells (mcell m').toArray 37)).heap.size := (fun m' => by have := hb1.size; rw [World.size_alloc]; have h2 : wa.heap.size ≤ w1.heap.size := this; omega); have hra := ((HGA.out.below hb1).own.row).alloc (.cells (mcell m').toArray 37); unfold magg)
              | (refine step_app rfl (.tmp 39) (.tmp 42) 41 41 (by rfl) 37 i0 (.agg #[.int .i64 0, .int .i64 0, .int .i64 0, .int .i64 0, .int .i64 0, .string ⟨#[]⟩, .int .i64 0, .slice none 0 0, .slice none 0 0, .int .i64 0, .int .i64 0, .int .i64 0, .int .i64 0]) 13 144 Try.underlying41 hi0 hz0 hy0 hx0 rfl (by omega) A ms.length c (mc ms) (by rfl) hra (.slice (some ⟨w1.heap.size, 0, none⟩) 1 1) 1 (mcell m') (by rfl) (Src.ent Try.underlying41 m' 37) (by simp only [maxLen]; omega) (by omega) ?_; intro A3 k3 w3 hown3 hk3 hf3; rw [mc_snoc] at hown3; have y2g := (hk3.cell (p := ⟨d, 2, none⟩) (hlt1 m') (own_ne hra ((HGA.out.below hb1).blk.alloc _) (by decide))).trans y2f; have kxg := hk3.blk kxf hnA; have f3 : w3.frozen? ⟨d, 2, none⟩ = false := (hk3.blk ((HGA.out.below hb1).blk.alloc _) (own_ne hra ((HGA.out.below hb1).blk.alloc _) (by decide))).frozen 2))
          all_goals
            go_wp2
            go_ret2
            rw [HE2.out.1, HE2.out.2]
            have hlg := lg_append (by decide) HG.out (below_drewN hwb 1) hb1 hOF hown3 hk3 hf3 (by omega) (by have h1 := HI.out; have h2 := HIB.out; have h3 : I ≠ 1099511627776 := beq_eq_false_iff_ne.1 z3; omega) (show SmallE m' by unfold SmallE; rw [HME.out]; exact HS.out)
            rw [HME.out] at hlg
            have hap : appL b t (es ms) m.e = es ms ++ [m.e] := by unfold appL; rw [← HE.out, HE2.out.1, if_pos rfl]
            rw [hap]
            exact ⟨rfl, hlg⟩
end Go.Proofs.Ytdcnfdhhflmdcaa
