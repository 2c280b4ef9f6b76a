/- Entries: the reference's Copies. -/
import Derived.Test.YtdcnfdhhflmdcaaEntC
namespace Go.Proofs.Ytdcnfdhhflmdcaa
open Go.RowKit
set_option linter.unusedSimpArgs false
set_option linter.unusedVariables false

/-- a row of entries of one's own, each with its two rows, all in new memory -/
structure OwnE (w : World) (B : Nat) (A : Option Addr) (c : Nat) (ms : List MEnt) : Prop where
  row : w.ownsRow 0 37 13 (.slice A ms.length c) ms.length (mc ms)
  fine : ∀ m ∈ ms, OwnF w B m
  fa : ∀ k ∈ ob A, B ≤ k
theorem OwnE.ents {w : World} {B : Nat} {A : Option Addr} {c : Nat} {ms : List MEnt} (h : OwnE w B A c ms) : Ents w w.heap.size A ms.length ms := ⟨Reads.of_own h.row, fun m hm => (h.fine m hm).fine⟩
theorem OwnE.nil (w : World) (B : Nat) : OwnE w B none 0 [] := ⟨World.ownsRow_nil _ _ _ _, fun m hm => by simp at hm, by simp [ob]⟩
theorem OwnF.below {w w' : World} {B : Nat} {m : MEnt} (h : OwnF w B m) (hb : Below w.heap.size w w') : OwnF w' B m := h.kept (S := []) (Kept.of_below hb) (by simp) (by simp)
theorem OwnF.more {w : World} {B B' : Nat} {m : MEnt} (h : OwnF w B m) (hB : B' ≤ B) : OwnF w B' m := ⟨h.wr, h.gr, fun k hk => Nat.le_trans hB (h.fw k hk), fun k hk => Nat.le_trans hB (h.fg k hk)⟩
theorem OwnE.below {w w' : World} {B : Nat} {A : Option Addr} {c : Nat} {ms : List MEnt} (h : OwnE w B A c ms) (hb : Below w.heap.size w w') : OwnE w' B A c ms := ⟨(Kept.of_below (S := []) hb).own h.row (by simp), fun m hm => (h.fine m hm).below hb, h.fa⟩
/-- a row of another type is not touched where one grows -/
theorem OwnF.grows {w w' : World} {B : Nat} {m : MEnt} {A : Option Addr} {n c : Nat} {xs : List Value} (h : OwnF w B m) (hr : w.ownsRow 0 37 13 (.slice A n c) n xs) (hk : Kept (ob A) w w') : OwnF w' B m := by
  rcases A with _ | ad
  · exact h.kept hk (by simp [ob]) (by simp [ob])
  · rcases hr.2 with ⟨hv, _⟩ | ⟨g, cap, cur, hv, _, hg, _⟩
    · simp at hv
    · injection hv with hA
      injection hA with hA
      subst hA
      have hb : Blk w g 37 cur := hg
      refine h.kept hk (fun k hkm hkp => ?_) (fun k hkm hkp => ?_)
      · simp [ob] at hkp
        subst hkp
        exact own_blk_ne h.wr hb (by decide) (ownBlock_mem.2 hkm)
      · simp [ob] at hkp
        subst hkp
        exact own_blk_ne h.gr hb (by decide) (ownBlock_mem.2 hkm)
def SmallL (ms : List MEnt) : Prop := ms.length * 144 ≤ 140737488355328 ∧ ∀ m ∈ ms, SmallE m
def CopiesEnds (ms : List MEnt) (w : World) (e : Ending) (w' : World) : Prop :=
  ∃ A c ms', e = .returned (.slice A ms.length c) ∧ ms'.map (·.e) = ms.map (·.e) ∧ OwnE w' w.heap.size A c ms' ∧ Below w.heap.size w w'
def CopiesRel (ms : List MEnt) (w : World) (o i : Value) (wr : World) : Prop :=
  ∃ (k : Nat) (A : Option Addr) (c : Nat) (ms' : List MEnt), i = .int .i64 k ∧ k ≤ ms.length ∧ ms'.map (·.e) = (ms.take k).map (·.e) ∧ ms'.length = k ∧ o = .slice A ms'.length c ∧ OwnE wr w.heap.size A c ms' ∧ Below w.heap.size w wr
theorem map_on {ms ms' : List MEnt} {k : Nat} {m : MEnt} (hk : k < ms.length) (h : ms'.map (·.e) = (ms.take k).map (·.e)) (hm : m.e = (gme ms k).e) : (ms' ++ [m]).map (·.e) = (ms.take (k + 1)).map (·.e) := by
  rw [List.take_succ_eq_append_getElem hk, List.map_append, List.map_append, h, ← gme_at hk]
  simp [hm]
set_option maxHeartbeats 4000000 in
set_option maxRecDepth 100000 in
theorem copies_any (A0 : Option Addr) (c0 : Nat) (ms : List MEnt) (w : World) (hE : Ents w w.heap.size A0 ms.length ms) (hs : SmallL ms) : Calls Try.prog 36 #[.slice A0 ms.length c0] w (CopiesEnds ms w) := by
  obtain ⟨i0, hi0, hz0, hy0, hx0⟩ := info_parts Try.infoE
  have hs1 := hs.1
  have HS := Lib.hid hs.2
  have HE := Lib.hid hE
  clear hE hs
  go_enter Try.func36, Try.ntmps36
  go_wp2
  go_loopw [3, 4] (CopiesRel ms w) (fun _ i _ => ms.length - (intOf i).toNat)
  case atStart => exact ⟨0, none, 0, [], rfl, Nat.zero_le _, by simp, rfl, rfl, OwnE.nil _ _, Below.refl _ _⟩
  case round =>
    obtain ⟨k, A, c, ms', rfl, hk, hm, hml, rfl, hO, hb⟩ := hrel
    have HM := Lib.hid hm
    have HL := Lib.hid hml
    clear hm
    by_cases hlt : k < ms.length
    · have hEw := HE.out.below hb
      obtain ⟨b, off, rfl, hbb, hrg⟩ := hEw.range hlt
      have HF := Lib.hid ((hEw.fine _ (gme_mem hlt)).more hb.size)
      have HSm := Lib.hid (HS.out _ (gme_mem hlt))
      have HMO := Lib.hid (fun (m : MEnt) (h : m.e = (gme ms k).e) => map_on hlt HM.out h)
      obtain ⟨m, hmm⟩ : ∃ m, m = gme ms k := ⟨_, rfl⟩
      rw [← hmm] at hrg HF HSm HMO
      clear hmm hEw
      have kL : (0 : Int) ≤ (k : Int) := by omega
      have kU : (k : Int) < (ms.length : Int) := by omega
      clear hml
      go_wp2_with (with_reducible refine wpList_load_mid ?e1 37 (.tmp 14) ?e2 b (off + k * 13) ?e3 (mcell m) _ ?e4 Try.underlying37 ?e5 ?e6 ?e7
                   case e1 => rfl
                   case e2 => rfl
                   case e3 => rfl
                   case e4 => exact hrg
                   case e5 => rfl
                   case e6 => kernel_rfl
                   case' e7 => skip)
      refine (copy_any m wr HF.out HSm.out).mono ?_
      rintro e w1 ⟨m', rfl, hme, hOF, hb1⟩
      have HME := Lib.hid hme
      clear hme
      have hO1 := hO.below hb1
      have hb1' := hb.trans (hb1.mono hb.size)
      unfold magg
      have hkm : ms'.length * 144 + 144 ≤ 140737488355328 := by rw [HL.out]; omega
      clear hO hrg
      go_wp2_with (at_builtin
                   refine wpList_app rfl (.tmp 11) (.tmp 17) 41 41 rfl 37 i0 _ 13 144 Try.underlying41 hi0 hz0 hy0 hx0 rfl (by omega) A ms'.length c (mc ms') rfl (hO1.row.alloc _) _ 1 (mcell m') rfl (Src.ent Try.underlying41 m' 37) (by simp only [maxLen]; omega) (by omega) ?_
                   intro A3 k3 w3 hown3 hk3 hf3
                   rw [mc_snoc] at hown3)
      have hol : ms'.length + 1 = (ms' ++ [m']).length := by simp
      rw [hol] at hown3 ⊢
      have hba := below_alloc w1 (.cells (mcell m').toArray 37)
      have hra := hO1.row.alloc (.cells (mcell m').toArray 37)
      have hO3 : OwnE w3 w.heap.size A3 k3 (ms' ++ [m']) := ⟨hown3, fun x hx => by
        rcases List.mem_append.1 hx with h | h
        · exact ((hO1.fine x h).below hba).grows hra hk3
        · obtain rfl : x = m' := by simpa using h
          exact ((hOF.below hba).grows hra hk3).more hb.size, fun y hy => by
        rcases hf3 y hy with h | h
        · exact hO1.fa y h
        · simp at h
          have := hb1'.size
          omega⟩
      have hb3 := hb1'.trans (hk3.of_alloc.below hb1'.size hO1.fa)
      have HL3 : Hid ((ms' ++ [m']).length = k + 1) := Lib.hid (by simp [HL.out])
      go_roundw
      case rel => exact ⟨k + 1, A3, k3, _, by go_num, by omega, HMO.out m' HME.out, HL3.out, rfl, hO3, hb3⟩
      case measure => simp [intOf]; omega
    · have hkk : k = ms.length := by omega
      have HT : Hid (ms'.map (·.e) = ms.map (·.e)) := Lib.hid (by rw [HM.out, hkk, List.take_length])
      have HK : Hid (ms'.length = ms.length) := Lib.hid (by rw [HL.out, hkk])
      clear hkk hml
      go_wp2
      go_ret
      refine ⟨A, c, ms', ?_, HT.out, hO, hb⟩
      rw [← HK.out]
      rfl
end Go.Proofs.Ytdcnfdhhflmdcaa
