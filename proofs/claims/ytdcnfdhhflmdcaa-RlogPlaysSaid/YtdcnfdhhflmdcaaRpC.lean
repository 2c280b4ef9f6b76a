/- The law's spoil: it writes over entries of one's own, and over nothing else. -/
import Derived.Test.YtdcnfdhhflmdcaaEntO
namespace Go.Proofs.Ytdcnfdhhflmdcaa
open Go.RowKit
set_option linter.unusedSimpArgs false
set_option linter.unusedVariables false

/-- an entry's two rows, whatever they hold -/
structure Loose (w : World) (m : MEnt) : Prop where
  wr : ∃ l : List Wrt, l.length = m.e.ws.length ∧ w.ownsRow 0 76 3 (.slice m.aw m.e.ws.length m.cw) m.e.ws.length (wc l)
  gr : ∃ l : List Int, l.length = m.e.gs.length ∧ w.ownsRow 0 3 1 (.slice m.ag m.e.gs.length m.cg) m.e.gs.length (ic l)
def Shape (m m' : MEnt) : Prop := m.aw = m'.aw ∧ m.cw = m'.cw ∧ m.ag = m'.ag ∧ m.cg = m'.cg ∧ m.e.ws.length = m'.e.ws.length ∧ m.e.gs.length = m'.e.gs.length
structure Spoilt (A : Option Addr) (c : Nat) (ms : List MEnt) (w0 w : World) : Prop where
  row : ∃ ns : List MEnt, ns.length = ms.length ∧ (∀ i, i < ms.length → Shape (gme ns i) (gme ms i)) ∧ w.ownsRow 0 37 13 (.slice A ms.length c) ms.length (mc ns)
  loose : ∀ m ∈ ms, Loose w m
  kept : Kept (fpE A ms) w0 w
section
variable {w : World} {b b' : Nat} {e e' : TypeId} {s s' n n' c' : Nat} {v : Value} {xs ys : List Value} {g p : Nat} {u : Value}
theorem own_apart (h : w.ownsRow b e s v n xs) (h' : w.ownsRow b' e' s' (.slice (some ⟨g, 0, none⟩) n' c') n' ys) (hne : e ≠ e') : (w.setCell ⟨g, p, none⟩ u).ownsRow b e s v n xs := by
  refine own_far h (fun k hk hkp => ?_) u
  rcases h'.2 with ⟨hv, _⟩ | ⟨g', cap, cur, hv, _, hh, _⟩
  · simp at hv
  · simp only [Value.slice.injEq, Option.some.injEq, Addr.mk.injEq, and_true, true_and] at hv
    obtain ⟨rfl, _⟩ := hv
    have hb : Blk w g e' cur := hh
    exact own_blk_ne h hb hne (by rw [hk]; exact congrArg some hkp)
theorem own_at (h : w.ownsRow b e s v n xs) (hn : 0 < n) : ∃ g c, v = .slice (some ⟨g, 0, none⟩) n c := by
  obtain ⟨g, cap, hv, _⟩ := h.form hn
  exact ⟨g, cap, hv⟩
/-- a cell of a block is set: a row of the same type in it has that cell set, or lies elsewhere -/
theorem own_set {A : Option Addr} {c : Nat} (h : w.ownsRow b e s (.slice A n c) n xs) : (w.setCell ⟨g, p, none⟩ u).ownsRow b e s (.slice A n c) n (if A = some ⟨g, 0, none⟩ then xs.set p u else xs) := by
  by_cases hA : A = some ⟨g, 0, none⟩
  · rw [if_pos hA]
    subst hA
    exact (h.stored p u).1
  · rw [if_neg hA]
    refine own_far h (fun k hk hkp => hA ?_) u
    rcases h.2 with ⟨hv, _⟩ | ⟨g', cap, cur, hv, _⟩
    · injection hv with h1
      rw [h1] at hk
      simp [Value.ownBlock] at hk
    · injection hv with h1
      rw [h1] at hk ⊢
      simp only [Value.ownBlock, Option.some.injEq] at hk
      rw [hk, hkp]
end
theorem wc_setAny (l : List Wrt) (k : ByteArray) (i : Nat) : ∃ l', l'.length = l.length ∧ (wc l).set (i * 3) (.string k) = wc l' := by
  by_cases hi : i < l.length
  · exact ⟨_, by rw [List.length_set], wc_setKey l k i hi⟩
  · exact ⟨l, rfl, List.set_eq_of_length_le (by rw [wc_len]; omega)⟩
theorem Loose.setW {w : World} {m m0 : MEnt} {g i : Nat} (h : Loose w m) (h0 : Loose w m0) (hA : m0.aw = some ⟨g, 0, none⟩) (k : ByteArray) : Loose (w.setCell ⟨g, i * 3, none⟩ (.string k)) m := by
  obtain ⟨l, hl, hr⟩ := h.wr
  obtain ⟨l2, hl2, hr2⟩ := h.gr
  obtain ⟨l0, _, hr0⟩ := h0.wr
  rw [hA] at hr0
  refine ⟨?_, l2, hl2, own_apart hr2 hr0 (by decide)⟩
  have := own_set (g := g) (p := i * 3) (u := .string k) hr
  split at this
  · obtain ⟨l', hl', he⟩ := wc_setAny l k i
    rw [he] at this
    exact ⟨l', hl'.trans hl, this⟩
  · exact ⟨l, hl, this⟩
theorem Loose.setG {w : World} {m m0 : MEnt} {g i : Nat} (h : Loose w m) (h0 : Loose w m0) (hA : m0.ag = some ⟨g, 0, none⟩) (x : Int) : Loose (w.setCell ⟨g, i, none⟩ (.int .i64 x)) m := by
  obtain ⟨l, hl, hr⟩ := h.wr
  obtain ⟨l2, hl2, hr2⟩ := h.gr
  obtain ⟨l0, _, hr0⟩ := h0.gr
  rw [hA] at hr0
  refine ⟨⟨l, hl, own_apart hr hr0 (by decide)⟩, ?_⟩
  have := own_set (g := g) (p := i) (u := .int .i64 x) hr2
  split at this
  · rw [ic_set] at this
    exact ⟨_, by rw [List.length_set]; exact hl2, this⟩
  · exact ⟨l2, hl2, this⟩
section
variable {A : Option Addr} {c : Nat} {ms : List MEnt} {w0 w : World}
theorem Spoilt.setW (h : Spoilt A c ms w0 w) {m0 : MEnt} (hm : m0 ∈ ms) {g i : Nat} (hA : m0.aw = some ⟨g, 0, none⟩) (k : ByteArray) : Spoilt A c ms w0 (w.setCell ⟨g, i * 3, none⟩ (.string k)) := by
  obtain ⟨ns, hl, hs, hr⟩ := h.row
  obtain ⟨l0, _, hr0⟩ := (h.loose m0 hm).wr
  rw [hA] at hr0
  exact ⟨⟨ns, hl, hs, own_apart hr hr0 (by decide)⟩, fun m hm2 => (h.loose m hm2).setW (h.loose m0 hm) hA k, h.kept.setCell _ (.inl (List.mem_append.2 (.inr (mem_rows.2 ⟨m0, hm, .inl (by rw [hA]; simp [ob])⟩))))⟩
theorem Spoilt.setG (h : Spoilt A c ms w0 w) {m0 : MEnt} (hm : m0 ∈ ms) {g i : Nat} (hA : m0.ag = some ⟨g, 0, none⟩) (x : Int) : Spoilt A c ms w0 (w.setCell ⟨g, i, none⟩ (.int .i64 x)) := by
  obtain ⟨ns, hl, hs, hr⟩ := h.row
  obtain ⟨l0, _, hr0⟩ := (h.loose m0 hm).gr
  rw [hA] at hr0
  exact ⟨⟨ns, hl, hs, own_apart hr hr0 (by decide)⟩, fun m hm2 => (h.loose m hm2).setG (h.loose m0 hm) hA x, h.kept.setCell _ (.inl (List.mem_append.2 (.inr (mem_rows.2 ⟨m0, hm, .inr (by rw [hA]; simp [ob])⟩))))⟩
theorem Spoilt.setT (h : Spoilt A c ms w0 w) {g i : Nat} (hi : i < ms.length) (hA : A = some ⟨g, 0, none⟩) (x : Int) : Spoilt A c ms w0 (w.setCell ⟨g, i * 13, none⟩ (.int .i64 x)) := by
  obtain ⟨ns, hl, hs, hr⟩ := h.row
  subst hA
  have hr2 := (hr.stored (i * 13) (.int .i64 x)).1
  rw [mc_setTerm ns x i (by omega)] at hr2
  refine ⟨⟨_, by rw [List.length_set]; exact hl, fun j hj => ?_, hr2⟩, fun m hm => ?_, h.kept.setCell _ (.inl (List.mem_append.2 (.inl (by simp [ob]))))⟩
  · by_cases hij : j = i
    · subst hij
      have := hs j hj
      unfold Shape at this ⊢
      rw [gme_at (by rw [List.length_set]; omega), List.getElem_set_self]
      exact this
    · have := hs j hj
      rw [gme_at (by rw [List.length_set]; omega), List.getElem_set_ne (Ne.symm hij), ← gme_at (by omega)]
      exact this
  · obtain ⟨l, hl1, hr1⟩ := (h.loose m hm).wr
    obtain ⟨l2, hl2, hr2⟩ := (h.loose m hm).gr
    exact ⟨⟨l, hl1, own_apart hr1 hr (by decide)⟩, ⟨l2, hl2, own_apart hr2 hr (by decide)⟩⟩
/-- the cells of an entry's two slices -/
theorem Spoilt.head (h : Spoilt A c ms w0 w) {i : Nat} (hi : i < ms.length) : ∃ g, A = some ⟨g, 0, none⟩ ∧ w.cell? ⟨g, i * 13 + 7, none⟩ = some (.slice (gme ms i).aw (gme ms i).e.ws.length (gme ms i).cw) ∧ w.cell? ⟨g, i * 13 + 8, none⟩ = some (.slice (gme ms i).ag (gme ms i).e.gs.length (gme ms i).cg) ∧
    (∃ x, w.cell? ⟨g, i * 13, none⟩ = some (.int .i64 x)) ∧ w.frozen? ⟨g, i * 13, none⟩ = false := by
  obtain ⟨ns, hl, hs, hr⟩ := h.row
  obtain ⟨g, cap, hv⟩ := own_at hr (by omega)
  injection hv with hA
  subst hA
  obtain ⟨a1, a2, a3, a4, a5, a6⟩ := hs i hi
  have c0 := hr.cellAt (i * 13 + 0) (by omega)
  have c7 := hr.cellAt (i * 13 + 7) (by omega)
  have c8 := hr.cellAt (i * 13 + 8) (by omega)
  rw [mc_at (by omega) _ (by omega)] at c0 c7 c8
  rw [Nat.add_zero] at c0
  refine ⟨g, rfl, ?_, ?_, ⟨_, c0⟩, hr.frozenAt _⟩
  · rw [c7]; simp [mcell, a1, a2, a5]
  · rw [c8]; simp [mcell, a3, a4, a6]
end
theorem OwnF.loose {w : World} {B : Nat} {m : MEnt} (h : OwnF w B m) : Loose w m := ⟨⟨m.e.ws, rfl, h.wr⟩, ⟨m.e.gs, rfl, h.gr⟩⟩
theorem OwnE.spoilt {w : World} {B : Nat} {A : Option Addr} {c : Nat} {ms : List MEnt} (h : OwnE w B A c ms) : Spoilt A c ms w w :=
  ⟨⟨ms, rfl, fun i _ => ⟨rfl, rfl, rfl, rfl, rfl, rfl⟩, h.row⟩, fun m hm => (h.fine m hm).loose, Kept.refl _ _⟩
def SpRel (A : Option Addr) (c : Nat) (ms : List MEnt) (w0 : World) (n : Nat) (i : Value) (wr : World) : Prop := ∃ k : Nat, i = .int .i64 k ∧ k ≤ n ∧ Spoilt A c ms w0 wr
set_option maxHeartbeats 4000000 in
set_option maxRecDepth 100000 in
theorem spoil_any (B : Nat) (A : Option Addr) (c : Nat) (ms : List MEnt) (w : World) (h : OwnE w B A c ms) (hs : SmallL ms) :
    Calls Try.prog 24 #[.slice A ms.length c] w fun e w' => e = .returned (.tuple #[]) ∧ Kept (fpE A ms) w w' := by
  have HSP := Lib.hid h.spoilt
  have hn : ms.length ≤ 977343669134 := by have := hs.1; omega
  have HS := Lib.hid hs.2
  clear h hs
  go_enter Try.func24, Try.ntmps24
  go_wp2
  go_loopw [2] (SpRel A c ms w ms.length) (fun i _ => ms.length - (intOf i).toNat)
  case atStart => exact ⟨0, rfl, Nat.zero_le _, HSP.out⟩
  case round =>
    obtain ⟨i, rfl, hi, hsp⟩ := hrel
    by_cases hlt : i < ms.length
    · have iL : (0 : Int) ≤ (i : Int) := by omega
      have iU : (i : Int) < (ms.length : Int) := by omega
      have hmm := gme_mem hlt
      have hsm := HS.out _ hmm
      obtain ⟨wn, hwn⟩ : ∃ wn, wn = (gme ms i).e.ws.length := ⟨_, rfl⟩
      obtain ⟨gn, hgn⟩ : ∃ gn, gn = (gme ms i).e.gs.length := ⟨_, rfl⟩
      have hw1 : wn ≤ 3518437208884 := by have := hsm.1; omega
      have hg1 : gn ≤ 17592186044416 := by have := hsm.2; omega
      have HWN := Lib.hid hwn
      have HGN := Lib.hid hgn
      have HMM := Lib.hid hmm
      have hsp0 := hsp
      obtain ⟨g, rfl, _⟩ := hsp0.head hlt
      have HP := Lib.hid hsp
      clear hwn hgn hsm hmm hsp hsp0
      go_wp2
      go_loopw [3] (SpRel (some ⟨g, 0, none⟩) c ms w wn) (fun j _ => wn - (intOf j).toNat)
      case atStart => exact ⟨0, rfl, Nat.zero_le _, HP.out⟩
      case round =>
        clear HP
        obtain ⟨j, rfl, hj, hsp⟩ := hrel
        obtain ⟨g', hA', c7, c8, _, _⟩ := hsp.head hlt
        cases hA'
        rw [← HWN.out] at c7
        by_cases hjn : j < wn
        · have jL : (0 : Int) ≤ (j : Int) := by omega
          have jU : (j : Int) < (wn : Int) := by omega
          obtain ⟨l, hl, hr⟩ := (hsp.loose _ HMM.out).wr
          rw [← HWN.out] at hl hr
          obtain ⟨ga, ca, hv⟩ := own_at hr (by omega)
          injection hv with hA1 _ hc1
          have HA1 := Lib.hid hA1
          rw [hA1] at c7 hr
          obtain ⟨q0, _, _⟩ := wc_at (l := l) (i := j) (by omega)
          have y0 : wr.cell? ⟨ga, j * 3, none⟩ = some (.string (gw l j).key) := by rw [hr.cellAt (j * 3) (by omega)]; exact q0
          have f0 := hr.frozenAt (j * 3)
          have HN := Lib.hid (hsp.setW (i := j) HMM.out hA1 ⟨#[115, 112, 111, 105, 108, 116]⟩)
          clear q0 hr hl hA1 c8 hsp
          go_wp2
          go_roundw
          case rel => exact ⟨j + 1, by go_num, by omega, HN.out⟩
          case measure => simp [intOf]; omega
        · have jU : ¬ (j : Int) < (wn : Int) := by omega
          have HP := Lib.hid hsp
          clear hsp c8
          go_wp2
          go_loopw [4] (SpRel (some ⟨g, 0, none⟩) c ms w gn) (fun j _ => gn - (intOf j).toNat)
          case atStart => exact ⟨0, rfl, Nat.zero_le _, HP.out⟩
          case round =>
            clear HP c7
            obtain ⟨j2, rfl, hj2, hsp⟩ := hrel
            obtain ⟨g', hA', c7, c8, ⟨x0, c0⟩, f00⟩ := hsp.head hlt
            cases hA'
            rw [← HGN.out] at c8
            clear c7
            by_cases hjn2 : j2 < gn
            · have jL2 : (0 : Int) ≤ (j2 : Int) := by omega
              have jU2 : (j2 : Int) < (gn : Int) := by omega
              obtain ⟨l, hl, hr⟩ := (hsp.loose _ HMM.out).gr
              rw [← HGN.out] at hl hr
              obtain ⟨ga, ca, hv⟩ := own_at hr (by omega)
              injection hv with hA1 _ hc1
              have HA1 := Lib.hid hA1
              rw [hA1] at c8 hr
              have y0 : wr.cell? ⟨ga, j2, none⟩ = some (.int .i64 (gm l j2)) := by rw [hr.cellAt j2 (by omega)]; exact ic_at (by omega)
              have f0 := hr.frozenAt j2
              have HN := Lib.hid (hsp.setG (i := j2) HMM.out hA1 (-9))
              clear hr hl hA1 hsp c0 f00
              go_wp2
              go_roundw
              case rel => exact ⟨j2 + 1, by go_num, by omega, HN.out⟩
              case measure => simp [intOf]; omega
            · have jU2 : ¬ (j2 : Int) < (gn : Int) := by omega
              have HN := Lib.hid (hsp.setT hlt rfl (-9))
              clear hsp
              go_wp2
              go_roundw
              case rel => exact ⟨i + 1, by go_num, by omega, HN.out⟩
              case measure => simp [intOf]; omega
    · have iU : ¬ (i : Int) < (ms.length : Int) := by omega
      have HK := Lib.hid hsp.kept
      clear hsp
      go_wp2
      refine bodyPost_end (results_none rfl _ _ _) rfl ?_
      exact ⟨rfl, HK.out⟩
end Go.Proofs.Ytdcnfdhhflmdcaa
