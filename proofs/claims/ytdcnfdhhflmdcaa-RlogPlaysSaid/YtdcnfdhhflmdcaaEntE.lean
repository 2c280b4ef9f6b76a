/- Entries: rlog's some. -/
import Derived.Test.YtdcnfdhhflmdcaaEntD
import Derived.Laws.CopyOwn
namespace Go.Proofs.Ytdcnfdhhflmdcaa
open Go.RowKit
set_option linter.unusedSimpArgs false
set_option linter.unusedVariables false

/-- copy of a whole row, the elements of any size -/
theorem run_copy_full {P : Program} (w : World) (T ty elem : TypeId) (size g n c : Nat) (ad : Addr) (sc : Nat) (cur : Array Value) (t : TypeId) (cs : List Value) (hu : P.underlying T = some (.slice elem)) (hs : (P.info? elem).map (·.size) = some size)
    (hg : w.heap[g]? = some (.cells cur t (0, 0))) (hn : cs.length = n * size) (hsrc : ∀ j v, cs[j]? = some v → w.cell? (ad.add j) = some v) (hfit : cs.length ≤ cur.size) (h1 : ∀ v ∈ cs, v.oneCell' = true) :
    (Builtin.copy_ #[T, T] ty #[.slice (some ⟨g, 0, none⟩) n c, .slice (some ad) n sc]).run P w = .ok (goInt n) (w.setRow g (cs ++ cur.toList.drop cs.length).toArray) := by
  have hl := run_loadCells_list (P := P) w ad cs hsrc
  have hst := run_storeCells_at P g 0 t cs 0 cur w hg (by simpa using hfit) h1
  rw [hn] at hl
  cases hq : P.info? elem with
  | none => simp [hq] at hs
  | some i =>
    have hi : i.size = size := by simpa [hq] using hs
    simp [Builtin.copy_, run_underlying hu, Builtin.lenOf, Builtin.firstCells, sizeOf, typeInfo, hq, hi, hl, hst]
theorem run_copy_zero {P : Program} (w : World) (T ty elem : TypeId) (g c : Nat) (A : Option Addr) (sc : Nat) (hu : P.underlying T = some (.slice elem)) (hs : ((P.info? elem).map (·.size)).isSome = true) :
    (Builtin.copy_ #[T, T] ty #[.slice (some ⟨g, 0, none⟩) 0 c, .slice A 0 sc]).run P w = .ok (goInt 0) w := by
  cases hq : P.info? elem with
  | none => simp [hq] at hs
  | some i =>
    cases A with
    | none => simp [Builtin.copy_, run_underlying hu, Builtin.lenOf, Builtin.firstCells, sizeOf, typeInfo, hq, storeCells]
    | some a =>
      have hl := run_loadCells_list (P := P) w a [] (fun j v hv => by simp at hv)
      simp at hl
      simp [Builtin.copy_, run_underlying hu, Builtin.lenOf, Builtin.firstCells, sizeOf, typeInfo, hq, storeCells, hl]
theorem own_copied {w : World} {base size g n c : Nat} {e : TypeId} {xs cs : List Value} (h : w.ownsRow base e size (.slice (some ⟨g, 0, none⟩) n c) n xs) (hn : cs.length = n * size) :
    ∃ cur, w.heap[g]? = some (.cells cur e (0, 0)) ∧ cs.length ≤ cur.size ∧ (w.setRow g (cs ++ cur.toList.drop cs.length).toArray).ownsRow base e size (.slice (some ⟨g, 0, none⟩) n c) n cs := by
  rcases h.2 with ⟨hv, _⟩ | ⟨g', cap, cur, hv, hb, hg, hnc, hcm, hcs, _⟩
  · simp at hv
  · simp only [Value.slice.injEq, Option.some.injEq, Addr.mk.injEq, and_true, true_and] at hv
    obtain ⟨rfl, rfl⟩ := hv
    have hle : n * size ≤ c * size := Nat.mul_le_mul_right _ hnc
    refine ⟨cur, hg, by omega, hn, .inr ⟨g, c, _, rfl, hb, setRow_heap w g cur _ e _ hg, hnc, hcm, ?_, ?_⟩⟩
    · simp only [List.size_toArray, List.length_append, List.length_drop, Array.length_toList]
      omega
    · simp only
      rw [List.take_append_of_le_length (by omega), List.take_of_length_le (by omega)]
def NilRel (w1 : World) (j i : Value) (wr : World) : Prop := i = .int .i64 0 ∧ w1 = wr
def SomeRel (ms : List MEnt) (w : World) (g c : Nat) (j i : Value) (wr : World) : Prop :=
  ∃ (k : Nat) (ns : List MEnt), i = .int .i64 k ∧ k ≤ ms.length ∧ ns.length = ms.length ∧ (ns.take k).map (·.e) = (ms.take k).map (·.e) ∧ ns.drop k = ms.drop k ∧ wr.ownsRow 0 37 13 (.slice (some ⟨g, 0, none⟩) ms.length c) ms.length (mc ns) ∧
    (∀ x ∈ ns.take k, OwnF wr w.heap.size x) ∧ Below w.heap.size w wr
set_option maxHeartbeats 4000000 in
set_option maxRecDepth 100000 in
theorem some_any (A0 : Option Addr) (c0 : Nat) (ms : List MEnt) (w : World) (hE : Ents w w.heap.size A0 ms.length ms) (hs : SmallL ms) : Calls Try.prog 33 #[.slice A0 ms.length c0] w (CopiesEnds ms w) := by
  obtain ⟨i0, hi0, hz0, hy0, hx0⟩ := info_parts Try.infoE
  have hs1 := hs.1
  have HS := Lib.hid hs.2
  have HE := Lib.hid hE
  clear hs
  by_cases h0 : ms.length = 0
  · obtain rfl : ms = [] := List.eq_nil_of_length_eq_zero h0
    clear hE HE HS h0 hs1
    go_enter Try.func33, Try.ntmps33
    go_wp2_with (at_make
                 refine wpList_make_full _ rfl (.tmp 6) (.tmp 6) 41 rfl 0 37 i0 _ 13 Try.underlying41 hi0 hz0 hy0 .i64 .i64 _ _ 0 rfl rfl rfl rfl (by rw [hx0]; omega) (by simp only [maxLen]; omega) (Nat.zero_le _) ?_
                 intro w1 hown1 hg1
                 have hbw := (Kept.of_grown (row := none) hg1).below (Nat.le_refl _) (by simp)
                 have hcp := run_copy_zero (P := Try.prog) w1 41 3 37 w.heap.size 0 A0 c0 Try.underlying41 (by kernel_rfl))
    have HO : Hid (OwnE w1 w.heap.size (some ⟨w.heap.size, 0, none⟩) 0 []) := Lib.hid ⟨by rw [show mc [] = [] from rfl]; simpa [madeCells] using hown1, by simp, by simp [ob]⟩
    clear hown1 hg1 hcp
    go_loopw [4, 13] (NilRel w1) (fun _ _ _ => 0)
    case atStart => exact ⟨rfl, rfl⟩
    case round =>
      obtain ⟨rfl, rfl⟩ := hrel
      go_wp2
      go_ret
      exact ⟨some ⟨w.heap.size, 0, none⟩, 0, [], rfl, rfl, HO.out, hbw⟩
  · obtain ⟨ad, hA, hab, hsrc⟩ := hE.row.2 (by omega)
    subst hA
    clear hE
    go_enter Try.func33, Try.ntmps33
    go_wp2_with (at_make
                 refine wpList_make_full _ rfl (.tmp 6) (.tmp 6) 41 rfl 0 37 i0 _ 13 Try.underlying41 hi0 hz0 hy0 .i64 .i64 _ _ ms.length rfl rfl rfl rfl (by rw [hx0]; omega) (by simp only [maxLen]; omega) (Nat.zero_le _) ?_
                 intro w1 hown1 hg1
                 have hbw := (Kept.of_grown (row := none) hg1).below (Nat.le_refl _) (by simp)
                 obtain ⟨cur, hcur, hcl, hown2⟩ := own_copied (cs := mc ms) hown1 (mc_len ms)
                 have hcp := run_copy_full (P := Try.prog) w1 41 3 37 13 w.heap.size ms.length ms.length ad c0 cur 37 (mc ms) Try.underlying41 (by kernel_rfl) hcur (mc_len ms) (fun j v hv => (hbw.cell (p := ad.add j) (by rw [block_of_add]; exact hab)).trans (hsrc j v hv)) hcl (mc_one ms)
                 have hb2 := below_setRow hbw (Nat.le_refl w.heap.size) (mc ms ++ cur.toList.drop (mc ms).length).toArray)
    generalize w1.setRow w.heap.size (mc ms ++ cur.toList.drop (mc ms).length).toArray = w2 at *
    clear hcp hown1 hg1 hcur hcl hbw
    obtain ⟨g, hg⟩ : ∃ g, g = w.heap.size := ⟨_, rfl⟩
    rw [← hg] at hown2 ⊢
    have hgw : w.heap.size ≤ g := by omega
    clear hg hsrc
    go_loopw [4, 13] (SomeRel ms w g ms.length) (fun _ i _ => ms.length - (intOf i).toNat)
    case atStart => exact ⟨0, ms, rfl, Nat.zero_le _, rfl, rfl, rfl, hown2, by simp, hb2⟩
    case round =>
      obtain ⟨k, ns, rfl, hk, hnl, hne, hnd, hown, hof, hb⟩ := hrel
      have HNL := Lib.hid hnl
      have HNE := Lib.hid hne
      have HND := Lib.hid hnd
      have HOF := Lib.hid hof
      clear hnl hne hnd hof hown2 hb2
      by_cases hlt : k < ms.length
      · have hlt2 : k < ns.length := by rw [HNL.out]; exact hlt
        have hgk : gme ns k = gme ms k := by
          have := HND.out
          rw [List.drop_eq_getElem_cons hlt2, List.drop_eq_getElem_cons hlt] at this
          rw [gme_at hlt2, gme_at hlt]
          exact (List.cons.inj this).1
        have HF := Lib.hid (((HE.out.fine _ (gme_mem hlt)).below hb).more hb.size)
        have HSm := Lib.hid (HS.out _ (gme_mem hlt))
        have hrg : wr.rangeAt g (k * 13) (mcell (gme ms k)) := fun j v hv => by
          have hj : j < 13 := (List.getElem?_eq_some_iff.1 hv).1
          rw [hown.cellAt (k * 13 + j) (by omega), mc_at hlt2 j hj, hgk]
          exact hv
        obtain ⟨m, hmm⟩ : ∃ m, m = gme ms k := ⟨_, rfl⟩
        rw [← hmm] at hrg HF HSm
        have HMM := Lib.hid hmm
        clear hmm hgk
        have kL : (0 : Int) ≤ (k : Int) := by omega
        have kU : (k : Int) < (ms.length : Int) := by omega
        go_wp2_with (with_reducible refine wpList_load_mid ?e1 37 (.tmp 20) ?e2 g (k * 13) ?e3 (mcell m) _ ?e4 Try.underlying37 ?e5 ?e6 ?e7
                     case e1 => rfl
                     case e2 => rfl
                     case e3 => rfl
                     case e4 => exact hrg
                     case e5 => rfl
                     case e6 => kernel_rfl
                     case' e7 => skip)
        refine (one_any m wr HF.out HSm.out).mono ?_
        rintro e w3 ⟨m', rfl, hme, hOF, hb3⟩
        have HME := Lib.hid hme
        clear hme hrg
        have hown3 := (Kept.of_below (S := []) hb3).own hown (by simp)
        have hst := cells_ent (P := Try.prog) m' (own_there hown3 (o := k * 13) (m := 13) (by omega))
        rw [show magg m' = .agg (mcell m').toArray from rfl]
        go_wp2
        have hsto := storedAll (mcell m') (p := k * 13) hown3
        rw [mc_set ns m' k hlt2] at hsto
        have hkp := keptAll (mcell m') (g := g) (p := k * 13) (Kept.refl [g] w3) (.inl (by simp))
        have hbb := belowAll (mcell m') (g := g) (p := k * 13) (hb.trans (hb3.mono hb.size)) hgw
        have htk : (ns.set k m').take (k + 1) = ns.take k ++ [m'] := by
          rw [List.take_succ_eq_append_getElem (by rw [List.length_set]; exact hlt2), List.take_set_of_le (Nat.le_refl _), List.getElem_set_self]
        refine ⟨⟨k + 1, ns.set k m', by go_num, by omega, by rw [List.length_set]; exact HNL.out, ?_, by rw [List.drop_set_of_lt (by omega), ← List.drop_drop, HND.out, List.drop_drop], hsto, ?_, hbb⟩, by simp [intOf]; omega⟩
        · rw [htk, List.take_succ_eq_append_getElem hlt, List.map_append, List.map_append, HNE.out, ← gme_at hlt, ← HMM.out]
          simp [HME.out]
        · intro x hx
          rw [htk] at hx
          rcases List.mem_append.1 hx with h | h
          · exact ((HOF.out x h).below hb3).grows hown3 (by simpa [ob] using hkp)
          · obtain rfl : x = m' := by simpa using h
            exact (hOF.grows hown3 (by simpa [ob] using hkp)).more hb.size
      · have hkk : k = ms.length := by omega
        subst hkk
        have HN : Hid (ns.map (·.e) = ms.map (·.e)) := Lib.hid (by
          have := HNE.out
          rw [List.take_of_length_le (by rw [HNL.out]; exact Nat.le_refl _), List.take_length] at this
          exact this)
        have HO : Hid (OwnE wr w.heap.size (some ⟨g, 0, none⟩) ms.length ns) := Lib.hid ⟨by rw [HNL.out]; exact hown, fun x hx => HOF.out x (by rw [List.take_of_length_le (by rw [HNL.out]; exact Nat.le_refl _)]; exact hx), by simpa [ob] using hgw⟩
        go_wp2
        go_ret
        exact ⟨some ⟨g, 0, none⟩, ms.length, ns, rfl, HN.out, HO.out, hb⟩
end Go.Proofs.Ytdcnfdhhflmdcaa
