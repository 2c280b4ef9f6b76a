/- Locks: LocksEdges. -/
import Derived.Test.YtpidpdbjjdkhoaaLlE
import Derived.Deep.DeepCutAuto
import Derived.Deep.CutBlock
namespace Go.Proofs.Ytpidpdbjjdkhoaa
open Go.RowKit
set_option linter.unusedSimpArgs false
set_option linter.unusedVariables false
attribute [local go_sem ↓] Go.wp_at_zero Go.wp_at_succ

theorem Reads.row {α : Type} {R : RowT α} {w : World} {B n : Nat} {A : Option Addr} {l : List α} (h : Reads w B R.sz A n (rc R l)) (h0 : 0 < l.length) :
    ∃ b off, A = some ⟨b, off, none⟩ ∧ b < B ∧ ∀ k, k < l.length → ∀ j u, (R.cells (gr R l k))[j]? = some u → w.cell? ⟨b, off + k * R.sz + j, none⟩ = some u := by
  obtain ⟨b, off, hA, hb, _⟩ := Reads.elt (R := R) h h0
  refine ⟨b, off, hA, hb, fun k hk => ?_⟩
  obtain ⟨b', off', hA', _, hc⟩ := Reads.elt (R := R) h hk
  rw [hA] at hA'
  cases hA'
  exact hc
theorem rowL {w : World} {n : Nat} {A : Option Addr} {l : List Lk} (h : Reads w w.heap.size 4 A n (rc lkR l)) (h0 : 0 < l.length) :
    ∃ b off, A = some ⟨b, off, none⟩ ∧ ∀ k, k < l.length → ∀ w', Below w.heap.size w w' → (w'.cell? ⟨b, off + k * 4, none⟩ = some (.string (gr lkR l k).key) ∧ w'.cell? ⟨b, off + k * 4 + 1, none⟩ = some (.int .i64 (gr lkR l k).id.n) ∧ w'.cell? ⟨b, off + k * 4 + 2, none⟩ = some (.int .i64 (gr lkR l k).id.c) ∧ w'.cell? ⟨b, off + k * 4 + 3, none⟩ = some (.int .i64 (gr lkR l k).mode)) := by
  obtain ⟨b, off, hA, hb, hc⟩ := Reads.row (R := lkR) h h0
  refine ⟨b, off, hA, fun k hk w' hw => ⟨(hw.cell (p := ⟨b, off + k * 4, none⟩) hb).trans (hc k hk 0 _ rfl), (hw.cell (p := ⟨b, off + k * 4 + 1, none⟩) hb).trans (hc k hk 1 _ rfl), (hw.cell (p := ⟨b, off + k * 4 + 2, none⟩) hb).trans (hc k hk 2 _ rfl), (hw.cell (p := ⟨b, off + k * 4 + 3, none⟩) hb).trans (hc k hk 3 _ rfl)⟩⟩
theorem rowI {w : World} {n : Nat} {A : Option Addr} {l : List Idn} (h : Reads w w.heap.size 2 A n (rc idR l)) (h0 : 0 < l.length) :
    ∃ b off, A = some ⟨b, off, none⟩ ∧ ∀ k, k < l.length → ∀ w', Below w.heap.size w w' → (w'.cell? ⟨b, off + k * 2, none⟩ = some (.int .i64 (gr idR l k).n) ∧ w'.cell? ⟨b, off + k * 2 + 1, none⟩ = some (.int .i64 (gr idR l k).c)) := by
  obtain ⟨b, off, hA, hb, hc⟩ := Reads.row (R := idR) h h0
  refine ⟨b, off, hA, fun k hk w' hw => ⟨(hw.cell (p := ⟨b, off + k * 2, none⟩) hb).trans (hc k hk 0 _ rfl), (hw.cell (p := ⟨b, off + k * 2 + 1, none⟩) hb).trans (hc k hk 1 _ rfl)⟩⟩
theorem rowE {w : World} {n : Nat} {A : Option Addr} {l : List Edg} (h : Reads w w.heap.size 5 A n (rc edR l)) (h0 : 0 < l.length) :
    ∃ b off, A = some ⟨b, off, none⟩ ∧ ∀ k, k < l.length → ∀ w', Below w.heap.size w w' → (w'.cell? ⟨b, off + k * 5, none⟩ = some (.string (gr edR l k).key) ∧ w'.cell? ⟨b, off + k * 5 + 1, none⟩ = some (.int .i64 (gr edR l k).w.n) ∧ w'.cell? ⟨b, off + k * 5 + 2, none⟩ = some (.int .i64 (gr edR l k).w.c) ∧ w'.cell? ⟨b, off + k * 5 + 3, none⟩ = some (.int .i64 (gr edR l k).h.n) ∧ w'.cell? ⟨b, off + k * 5 + 4, none⟩ = some (.int .i64 (gr edR l k).h.c)) := by
  obtain ⟨b, off, hA, hb, hc⟩ := Reads.row (R := edR) h h0
  refine ⟨b, off, hA, fun k hk w' hw => ⟨(hw.cell (p := ⟨b, off + k * 5, none⟩) hb).trans (hc k hk 0 _ rfl), (hw.cell (p := ⟨b, off + k * 5 + 1, none⟩) hb).trans (hc k hk 1 _ rfl), (hw.cell (p := ⟨b, off + k * 5 + 2, none⟩) hb).trans (hc k hk 2 _ rfl), (hw.cell (p := ⟨b, off + k * 5 + 3, none⟩) hb).trans (hc k hk 3 _ rfl), (hw.cell (p := ⟨b, off + k * 5 + 4, none⟩) hb).trans (hc k hk 4 _ rfl)⟩⟩
def EoRel (W : World) (d : Nat) (most : Int) (i : Value) (wr : World) : Prop := ∃ (k : Nat) (q : Tb) (m : TbM), i = .int .i64 k ∧ k ≤ 200 ∧ TbX W [] d q m wr ∧ Sane k q ∧ q.most = max 0 most ∧ (q.held.length : Int) + (q.wait.length : Int) ≤ q.most
def UpRel (n : Nat) (w : World) (i : Value) (wr : World) : Prop := ∃ k : Nat, i = .int .i64 k ∧ k ≤ n ∧ Below w.heap.size w wr
def EhRel (q : Tb) (w : World) (n i : Value) (wr : World) : Prop := ∃ k N : Nat, n = .int .i64 N ∧ i = .int .i64 k ∧ k ≤ q.held.length ∧ N = cntH q k ∧ Below w.heap.size w wr
def EwRel (q : Tb) (k : Nat) (x : Lk) (w : World) (n i : Value) (wr : World) : Prop := ∃ j N : Nat, n = .int .i64 N ∧ i = .int .i64 j ∧ j ≤ q.wait.length ∧ N = cntH q k + cntR q x j ∧ Below w.heap.size w wr
theorem cnt_few {q : Tb} (h : q.held.length + q.wait.length ≤ 1000) (k j : Nat) (x : Lk) : cntH q k + cntR q x j ≤ 2000000 := by
  have h1 := cntH_le q k
  have h2 := cntR_le q x j
  have h3 : q.held.length * q.wait.length ≤ 1000 * 1000 := Nat.mul_le_mul (by omega) (by omega)
  omega
theorem edges_few {q : Tb} (h : q.held.length + q.wait.length ≤ 1000) : (edges q).length ≤ 1000000 := by
  have h1 := eds_len q.held q.wait
  rw [edges_eq]
  have h3 : q.wait.length * q.held.length ≤ 1000 * 1000 := Nat.mul_le_mul (by omega) (by omega)
  omega
set_option maxHeartbeats 8000000 in
set_option maxRecDepth 100000 in
theorem locksEdges_any (most : Int) (A : Option Addr) (c : Nat) (os : List LOp) (W : World) (hO : Reads W W.heap.size 5 A os.length (rc opR os)) :
    Calls Try.prog 4 #[.int .i64 most, .slice A os.length c] W fun e w' => e = .returned (.bool true) ∧ Below W.heap.size W w' := by
  have HO := Lib.hid hO
  clear hO
  go_enter Try.func4, Try.ntmps4
  go_wp2_with fail
  refine (works_any W).mono ?_
  rintro e w0 ⟨rfl, hb0⟩
  go_wp2_with fail
  refine (new_any most _).mono ?_
  rintro e w1 ⟨rfl, hw1⟩
  have HX0 : Hid (TbX W [] w0.heap.size (tb0 most) tm0 w1) := Lib.hid (by rw [hw1]; exact tbx0 most hb0)
  obtain ⟨d, hd⟩ : ∃ d, d = w0.heap.size := ⟨_, rfl⟩
  rw [← hd] at HX0
  rw [← hd]
  clear hw1 hb0 hd
  go_wp2
  go_loopw [6] (EoRel W d most) (fun i _ => 200 - (intOf i).toNat)
  case atStart => exact ⟨0, tb0 most, tm0, rfl, by omega, HX0.out, sane0 most, rfl, by show ((0 : Nat) : Int) + ((0 : Nat) : Int) ≤ max 0 most; omega⟩
  case round =>
    clear HX0
    obtain ⟨kk, q, m, rfl, hk, hx, hs, hm1, hm2⟩ := hrel
    have HX := Lib.hid hx
    have HS := Lib.hid hs
    have HM1 := Lib.hid hm1
    have HM2 := Lib.hid hm2
    clear hx hs hm1 hm2
    by_cases hgo : kk < os.length ∧ kk < 200
    · obtain ⟨hg1, hg2⟩ := hgo
      obtain ⟨bo, off, rfl, hbo, y0, y1, y2, y3, y4⟩ := rdO (HO.out.below HX.out.bel) hg1
      obtain ⟨o, ho⟩ : ∃ o, o = gr opR os kk := ⟨_, rfl⟩
      rw [← ho] at y0 y1 y2 y3 y4
      have kL : (0 : Int) ≤ (kk : Int) := by omega
      have kU : (kk : Int) < (os.length : Int) := by omega
      have k1 : (kk : Int) < 200 := by omega
      have HC := Lib.hid (play_sane HX.out HS.out (by omega) o)
      unfold lopV at HC
      clear ho
      go_wp2_with fail
      refine HC.out.mono ?_
      clear HC
      rintro e w2 ⟨A2, c2, A3, c3, rfl, hpl⟩
      obtain ⟨m', ht, hmv, _, _⟩ := hpl.tb
      have HX2 := Lib.hid (HX.out.step ht hmv)
      have HS2 := Lib.hid (HS.out.step o)
      obtain ⟨hq1, hq2⟩ := play_most HS.out.inv.mid.good o HM2.out
      rw [HM1.out] at hq1 hq2
      obtain ⟨q', hq'⟩ : ∃ q', q' = playT q o := ⟨_, rfl⟩
      rw [← hq'] at HX2 HS2 hq1 hq2
      have HQ1 := Lib.hid hq1
      have HQ2 := Lib.hid hq2
      clear ht hmv hpl hq' hq1 hq2 y0 y1 y2 y3 y4 HX HS HM1 HM2
      have HH := Lib.hid (held_any HX2.out.tb)
      go_wp2_with fail
      refine HH.out.mono ?_
      clear HH
      rintro e w3 ⟨Ah, ch, rfl, ho, hb, hf⟩
      have HX3 := Lib.hid (HX2.out.below hb)
      have OH0 := Lib.hid ho
      clear ho hb hf HX2 
      have HH := Lib.hid (waiting_any HX3.out.tb)
      go_wp2_with fail
      refine HH.out.mono ?_
      clear HH
      rintro e w4 ⟨Aw, cw, rfl, ho, hb, hf⟩
      have HX4 := Lib.hid (HX3.out.below hb)
      have OH1 := Lib.hid (own_below OH0.out hb)
      have OW1 := Lib.hid ho
      clear ho hb hf HX3 OH0
      have HH := Lib.hid (prepared_any HX4.out.tb)
      go_wp2_with fail
      refine HH.out.mono ?_
      clear HH
      rintro e w5 ⟨Ap, cp, rfl, ho, hb, hf⟩
      have HX5 := Lib.hid (HX4.out.below hb)
      have OH2 := Lib.hid (own_below OH1.out hb)
      have OW2 := Lib.hid (own_below OW1.out hb)
      have OP2 := Lib.hid ho
      clear ho hb hf HX4 OH1 OW1
      have HH := Lib.hid (wounded_any HX5.out.tb)
      go_wp2_with fail
      refine HH.out.mono ?_
      clear HH
      rintro e w6 ⟨Au, cu, rfl, ho, hb, hf⟩
      have HX6 := Lib.hid (HX5.out.below hb)
      have OH3 := Lib.hid (own_below OH2.out hb)
      have OW3 := Lib.hid (own_below OW2.out hb)
      have OP3 := Lib.hid (own_below OP2.out hb)
      have OU3 := Lib.hid ho
      clear ho hb hf HX5 OH2 OW2 OP2
      have HH := Lib.hid (edges_any HX6.out.tb)
      unfold EdgesEnds at HH
      go_wp2_with fail
      refine HH.out.mono ?_
      clear HH
      rintro e w7 ⟨Ae, ce, rfl, ho, hf, hb⟩
      have HX7 := Lib.hid (HX6.out.below hb)
      have OH4 := Lib.hid (own_below OH3.out hb)
      have OW4 := Lib.hid (own_below OW3.out hb)
      have OP4 := Lib.hid (own_below OP3.out hb)
      have OU4 := Lib.hid (own_below OU3.out hb)
      have OE4 := Lib.hid ho
      clear ho hb hf HX6 OH3 OW3 OP3 OU3
      have HRH := Lib.hid (Reads.of_own OH4.out)
      have HRW := Lib.hid (Reads.of_own OW4.out)
      have HRP := Lib.hid (Reads.of_own OP4.out)
      have HRU := Lib.hid (Reads.of_own OU4.out)
      have HRE := Lib.hid (Reads.of_own OE4.out)
      clear OH4 OW4 OP4 OU4 OE4
      have hfh := HX7.out.tb.fh
      have hpl := HS2.out.prep
      have hul := HS2.out.hurt
      have hel := edges_few hfh
      go_wp2
      go_loopw [13] (UpRel (edges q').length w7) (fun i _ => (edges q').length - (intOf i).toNat)
      case atStart => exact ⟨0, rfl, Nat.zero_le _, Below.refl _ _⟩
      case round =>
        obtain ⟨k, rfl, hk, hb⟩ := hrel
        have HBR := Lib.hid hb
        clear hb
        by_cases hlt : k < (edges q').length
        · obtain ⟨ge, oe, rfl, hcell⟩ := rowE HRE.out (by omega)
          obtain ⟨a0, a1, a2, a3, a4⟩ := hcell k hlt wr HBR.out
          obtain ⟨x, hx⟩ : ∃ x, x = gr edR (edges q') k := ⟨_, rfl⟩
          have HOK := Lib.hid (edge_ok HS2.out.inv.mid (x := x) (by rw [hx]; exact gr_mem hlt))
          rw [← hx] at a0 a1 a2 a3 a4
          have kL : (0 : Int) ≤ (k : Int) := by omega
          have kU : (k : Int) < ((edges q').length : Int) := by omega
          have HOL := Lib.hid (fun w => rolder_any x.h x.w w)
          unfold idV at HOL
          clear hx hcell
          go_upto_region 15 with fail
          have k1 := Blk.new wr 50 #[.string x.key, .int .i64 x.w.n, .int .i64 x.w.c, .int .i64 x.h.n, .int .i64 x.h.c]
          have HB := Lib.hid (below_alloc wr (.cells #[.string x.key, .int .i64 x.w.n, .int .i64 x.w.c, .int .i64 x.h.n, .int .i64 x.h.c] 50))
          obtain ⟨w8, hw2⟩ : ∃ w8, w8 = (wr.alloc (.cells #[.string x.key, .int .i64 x.w.n, .int .i64 x.w.c, .int .i64 x.h.n, .int .i64 x.h.c] 50)) := ⟨_, rfl⟩
          obtain ⟨p1, hp1⟩ : ∃ p1, p1 = wr.heap.size := ⟨_, rfl⟩
          rw [← hw2] at HB k1
          rw [← hp1] at k1
          rw [← hw2]
          rw [← hp1]
          clear hw2 hp1
          have HB8 := Lib.hid (HBR.out.trans (HB.out.mono HBR.out.size))
          have HK1 := Lib.hid k1
          clear a0 a1 a2 a3 a4
          have x10 : w8.cell? ⟨p1, 0, none⟩ = some (.string x.key) := k1.cell 0
          have x11 : w8.cell? ⟨p1, 1, none⟩ = some (.int .i64 x.w.n) := k1.cell 1
          have x12 : w8.cell? ⟨p1, 2, none⟩ = some (.int .i64 x.w.c) := k1.cell 2
          have x13 : w8.cell? ⟨p1, 3, none⟩ = some (.int .i64 x.h.n) := k1.cell 3
          have x14 : w8.cell? ⟨p1, 4, none⟩ = some (.int .i64 x.h.c) := k1.cell 4
          clear k1
          go_wp2_with fail
          refine (HOL.out _).mono ?_
          rintro e w9 ⟨rfl, hb9⟩
          have HB9 := Lib.hid (HB8.out.trans (hb9.mono HB8.out.size))
          have k2 := HK1.out.below hb9 HK1.out.lt
          have HK2 := Lib.hid k2
          clear hb9 x10 x11 x12 x13 x14
          have x13 : w9.cell? ⟨p1, 3, none⟩ = some (.int .i64 x.h.n) := k2.cell 3
          have x14 : w9.cell? ⟨p1, 4, none⟩ = some (.int .i64 x.h.c) := k2.cell 4
          clear k2
          cases hol : ol x.h x.w with
          | true =>
            clear hol
            go_wp2
            go_roundw
            case rel => exact ⟨k + 1, by go_num, by omega, HB9.out⟩
            case measure => simp [intOf]; omega
          | false =>
            have HA1 := Lib.hid (has_any Ap cp q'.prep x.h w9 ((HRP.out.below HB9.out).more HB9.out.size) (by omega))
            unfold idV at HA1
            go_wp2_with fail
            refine HA1.out.mono ?_
            rintro e w10 ⟨rfl, hb10⟩
            have HB10 := Lib.hid (HB9.out.trans (hb10.mono HB9.out.size))
            have k2 := HK2.out.below hb10 HK2.out.lt
            clear hb10 x13 x14
            have x13 : w10.cell? ⟨p1, 3, none⟩ = some (.int .i64 x.h.n) := k2.cell 3
            have x14 : w10.cell? ⟨p1, 4, none⟩ = some (.int .i64 x.h.c) := k2.cell 4
            clear k2
            cases hp1 : hasI q'.prep x.h with
            | true =>
              clear hol hp1
              go_wp2
              go_roundw
              case rel => exact ⟨k + 1, by go_num, by omega, HB10.out⟩
              case measure => simp [intOf]; omega
            | false =>
              have hyes : hasI q'.hurt x.h = true := by
                rcases HOK.out with h | h | h
                · rw [hol] at h; cases h
                · rw [hp1] at h; cases h
                · exact h
              have HA2 := Lib.hid (has_any Au cu q'.hurt x.h w10 ((HRU.out.below HB10.out).more HB10.out.size) (by omega))
              unfold idV at HA2
              rw [hyes] at HA2
              clear hol hp1 hyes
              go_wp2_with fail
              refine HA2.out.mono ?_
              rintro e w11 ⟨rfl, hb11⟩
              have HB11 := Lib.hid (HB10.out.trans (hb11.mono HB10.out.size))
              clear hb11 x13 x14
              go_wp2
              go_roundw
              case rel => exact ⟨k + 1, by go_num, by omega, HB11.out⟩
              case measure => simp [intOf]; omega
        · have kU : ¬ (k : Int) < ((edges q').length : Int) := by omega
          obtain ⟨wo, hwo⟩ : ∃ wo : World, wo = wr := ⟨_, rfl⟩
          rw [← hwo] at HBR ⊢
          clear hwo
          go_wp2
          go_loopw [12, 15] (EhRel q' w7) (fun _ i _ => q'.held.length - (intOf i).toNat)
          case atStart => exact ⟨0, 0, rfl, rfl, Nat.zero_le _, rfl, HBR.out⟩
          case round =>
            clear HBR
            obtain ⟨k, N, rfl, rfl, hk, hN, hb⟩ := hrel
            have HBR := Lib.hid hb
            have HNN := Lib.hid hN
            clear hb hN
            by_cases hlt : k < q'.held.length
            · obtain ⟨gh, oh, rfl, hch⟩ := rowL HRH.out (by omega)
              have HCH := Lib.hid hch
              have HGX : Hid (q'.held[k]? = some (gr lkR q'.held k)) := Lib.hid (gr_get hlt)
              have HMX := Lib.hid (gr_mem (R := lkR) hlt)
              have HCK := Lib.hid (hch k hlt)
              obtain ⟨x, hx⟩ : ∃ x, x = gr lkR q'.held k := ⟨_, rfl⟩
              rw [← hx] at HGX HMX HCK
              have kL : (0 : Int) ≤ (k : Int) := by omega
              have kU : (k : Int) < (q'.held.length : Int) := by omega
              clear hx hch
              obtain ⟨wo, hwo⟩ : ∃ wo : World, wo = wr := ⟨_, rfl⟩
              rw [← hwo] at HBR ⊢
              clear hwo
              go_wp2
              go_loopw [16] (UpRel k w7) (fun i _ => k - (intOf i).toNat)
              case atStart => exact ⟨0, rfl, Nat.zero_le _, HBR.out⟩
              case round =>
                clear HBR
                obtain ⟨j, rfl, hj, hb⟩ := hrel
                have HBR := Lib.hid hb
                clear hb
                by_cases hlj : j < k
                · have hCY := HCH.out j (by omega)
                  have HNO := Lib.hid (HS2.out.inv.mid.noc x HMX.out _ (gr_mem (R := lkR) (show j < q'.held.length by omega)))
                  obtain ⟨y, hyy⟩ : ∃ y, y = gr lkR q'.held j := ⟨_, rfl⟩
                  rw [← hyy] at hCY HNO
                  have HCY := Lib.hid hCY
                  clear hCY hyy
                  have jL : (0 : Int) ≤ (j : Int) := by omega
                  have jU : (j : Int) < (k : Int) := by omega
                  have jU2 : (j : Int) < (q'.held.length : Int) := by omega
                  have hS : Hid (∀ w', Below wr.heap.size wr w' → (w'.cell? ⟨gh, oh + k * 4, none⟩ = some (.string x.key) ∧ w'.cell? ⟨gh, oh + k * 4 + 1, none⟩ = some (.int .i64 x.id.n) ∧ w'.cell? ⟨gh, oh + k * 4 + 2, none⟩ = some (.int .i64 x.id.c) ∧ w'.cell? ⟨gh, oh + k * 4 + 3, none⟩ = some (.int .i64 x.mode) ∧ w'.cell? ⟨gh, oh + j * 4, none⟩ = some (.string y.key) ∧ w'.cell? ⟨gh, oh + j * 4 + 1, none⟩ = some (.int .i64 y.id.n) ∧ w'.cell? ⟨gh, oh + j * 4 + 2, none⟩ = some (.int .i64 y.id.c) ∧ w'.cell? ⟨gh, oh + j * 4 + 3, none⟩ = some (.int .i64 y.mode))) := Lib.hid (fun w' hb => by
                    obtain ⟨a0, a1, a2, a3⟩ := HCK.out w' (HBR.out.trans (hb.mono HBR.out.size))
                    obtain ⟨b0, b1, b2, b3⟩ := HCY.out w' (HBR.out.trans (hb.mono HBR.out.size))
                    exact ⟨a0, a1, a2, a3, b0, b1, b2, b3⟩)
                  have hD : Below wr.heap.size wr wr.drew := below_drewN (Below.refl _ _) 1
                  have HC := Lib.hid (fun w => lconf_any x y w)
                  have HCV := HNO
                  unfold lkV at HC
                  go_wp2_with fail
                  refine wp_region_held_drew (S := fun w' => w'.cell? ⟨gh, oh + k * 4, none⟩ = some (.string x.key) ∧ w'.cell? ⟨gh, oh + k * 4 + 1, none⟩ = some (.int .i64 x.id.n) ∧ w'.cell? ⟨gh, oh + k * 4 + 2, none⟩ = some (.int .i64 x.id.c) ∧ w'.cell? ⟨gh, oh + k * 4 + 3, none⟩ = some (.int .i64 x.mode) ∧ w'.cell? ⟨gh, oh + j * 4, none⟩ = some (.string y.key) ∧ w'.cell? ⟨gh, oh + j * 4 + 1, none⟩ = some (.int .i64 y.id.n) ∧ w'.cell? ⟨gh, oh + j * 4 + 2, none⟩ = some (.int .i64 y.id.c) ∧ w'.cell? ⟨gh, oh + j * 4 + 3, none⟩ = some (.int .i64 y.mode)) (by kernel_rfl) (by with_reducible exact hS.out _ hD) (fun hHeld => ?_)
                  refine wpAnyH_take (i := 0) (oi := { dst := some 91, op := Op.move (Operand.tmp 7), type := 28, pos := "law.go:210", after := #[], guard := none }) (v := ?vv1) rfl (by kernel_rfl) (by kernel_rfl) (by kernel_rfl) (fun _ _ _ h => h) (Or.inl ⟨by rfl, ?hyy1⟩) (by assumption) ?rest1
                  case hyy1 => ((intro w hSw); (try dsimp only at hSw); go_simp; (try with_reducible rfl))
                  try simp only [Act.put, List.setIfInBounds_toArray, List.set_cons_zero, List.set_cons_succ]
                  refine wpAnyH_take (i := 1) (oi := { dst := some 92, op := Op.move (Operand.tmp 15), type := 3, pos := "law.go:210", after := #[], guard := none }) (v := ?vv2) rfl (by kernel_rfl) (by kernel_rfl) (by kernel_rfl) (fun _ _ _ h => h) (Or.inl ⟨by rfl, ?hyy2⟩) (by assumption) ?rest2
                  case hyy2 => ((intro w hSw); (try dsimp only at hSw); go_simp; (try with_reducible rfl))
                  try simp only [Act.put, List.setIfInBounds_toArray, List.set_cons_zero, List.set_cons_succ]
                  refine wpAnyH_take (i := 2) (oi := { dst := some 93, op := Op.indexAddr 28 (Operand.tmp 91) (Operand.tmp 92), type := 0, pos := "law.go:210", after := #[{ on := 0, ground := Ground.data }, { on := 1, ground := Ground.data }], guard := none }) (v := ?vv3) rfl (by kernel_rfl) (by kernel_rfl) (by kernel_rfl) (fun _ _ _ h => h) (Or.inl ⟨by rfl, ?hyy3⟩) (by assumption) ?rest3
                  case hyy3 => ((intro w hSw); (try dsimp only at hSw); go_simp; (try with_reducible rfl))
                  try simp only [Act.put, List.setIfInBounds_toArray, List.set_cons_zero, List.set_cons_succ]
                  refine wpAnyH_take (i := 3) (oi := { dst := some 94, op := Op.load 39 (Operand.tmp 93), type := 39, pos := "law.go:210", after := #[{ on := 2, ground := Ground.data }], guard := none }) (v := ?vv4) rfl (by kernel_rfl) (by kernel_rfl) (by kernel_rfl) (fun _ _ _ h => h) (Or.inl ⟨by rfl, ?hyy4⟩) (by assumption) ?rest4
                  case hyy4 => ((intro w hSw); (try dsimp only at hSw); go_simp; (try with_reducible rfl))
                  try simp only [Act.put, List.setIfInBounds_toArray, List.set_cons_zero, List.set_cons_succ]
                  refine wpAnyH_take (i := 4) (oi := { dst := some 95, op := Op.move (Operand.tmp 7), type := 28, pos := "law.go:210", after := #[], guard := none }) (v := ?vv5) rfl (by kernel_rfl) (by kernel_rfl) (by kernel_rfl) (fun _ _ _ h => h) (Or.inl ⟨by rfl, ?hyy5⟩) (by assumption) ?rest5
                  case hyy5 => ((intro w hSw); (try dsimp only at hSw); go_simp; (try with_reducible rfl))
                  try simp only [Act.put, List.setIfInBounds_toArray, List.set_cons_zero, List.set_cons_succ]
                  refine wpAnyH_take (i := 5) (oi := { dst := some 96, op := Op.move (Operand.tmp 16), type := 3, pos := "law.go:210", after := #[], guard := none }) (v := ?vv6) rfl (by kernel_rfl) (by kernel_rfl) (by kernel_rfl) (fun _ _ _ h => h) (Or.inl ⟨by rfl, ?hyy6⟩) (by assumption) ?rest6
                  case hyy6 => ((intro w hSw); (try dsimp only at hSw); go_simp; (try with_reducible rfl))
                  try simp only [Act.put, List.setIfInBounds_toArray, List.set_cons_zero, List.set_cons_succ]
                  refine wpAnyH_take (i := 6) (oi := { dst := some 97, op := Op.indexAddr 28 (Operand.tmp 95) (Operand.tmp 96), type := 0, pos := "law.go:210", after := #[{ on := 4, ground := Ground.data }, { on := 5, ground := Ground.data }], guard := none }) (v := ?vv7) rfl (by kernel_rfl) (by kernel_rfl) (by kernel_rfl) (fun _ _ _ h => h) (Or.inl ⟨by rfl, ?hyy7⟩) (by assumption) ?rest7
                  case hyy7 => ((intro w hSw); (try dsimp only at hSw); go_simp; (try with_reducible rfl))
                  try simp only [Act.put, List.setIfInBounds_toArray, List.set_cons_zero, List.set_cons_succ]
                  refine wpAnyH_take (i := 7) (oi := { dst := some 98, op := Op.load 39 (Operand.tmp 97), type := 39, pos := "law.go:210", after := #[{ on := 6, ground := Ground.data }], guard := none }) (v := ?vv8) rfl (by kernel_rfl) (by kernel_rfl) (by kernel_rfl) (fun _ _ _ h => h) (Or.inl ⟨by rfl, ?hyy8⟩) (by assumption) ?rest8
                  case hyy8 => ((intro w hSw); (try dsimp only at hSw); go_simp; (try with_reducible rfl))
                  try simp only [Act.put, List.setIfInBounds_toArray, List.set_cons_zero, List.set_cons_succ]
                  refine wpAnyH_ready (rs := [8]) (by kernel_rfl) (by simp) ?_
                  refine AllReadyH.cons (o := { dst := some 99, op := Op.call { callee := Callee.value (Operand.func 12), args := #[Operand.tmp 94, Operand.tmp 98], argTypes := #[39, 39] }, type := 4, pos := "law.go:210", after := #[{ on := 3, ground := Ground.data }, { on := 7, ground := Ground.data }], guard := none }) rfl (fun K hK => ?_) ?_
                  ·
                    go_simp
                    go_at_call 12
                    refine (HC.out _).mono ?_
                    rintro e w9 ⟨he, hb9⟩
                    rw [HCV.out] at he
                    subst he
                    have hc9 : Below wr.heap.size wr w9 := hD.trans (hb9.mono hD.size)
                    clear hb9
                    go_wp2_with fail
                    refine hK.out _ _ (by with_reducible exact hS.out _ hc9) (fun hHeld => ?_)
                    clear hK K
                    try simp only [Act.put, List.setIfInBounds_toArray, List.set_cons_zero, List.set_cons_succ]
                    refine wpAnyH_done (by kernel_rfl) ?_ _
                    go_wp2
                    go_roundw
                    case rel => exact ⟨j + 1, by go_num, by omega, HBR.out.trans (hc9.mono HBR.out.size)⟩
                    case measure => simp [intOf]; omega
                  exact AllReadyH.nil
                · have jU : ¬ (j : Int) < (k : Int) := by omega
                  obtain ⟨wo, hwo⟩ : ∃ wo : World, wo = wr := ⟨_, rfl⟩
                  rw [← hwo] at HBR ⊢
                  clear hwo
                  go_wp2
                  clear jU
                  go_loopw [12, 17] (EwRel q' k x w7) (fun _ i _ => q'.wait.length - (intOf i).toNat)
                  case atStart => exact ⟨0, N, rfl, rfl, Nat.zero_le _, HNN.out, HBR.out⟩
                  case round =>
                    clear HBR HNN
                    obtain ⟨j, M, rfl, rfl, hj, hM, hb⟩ := hrel
                    have HBR := Lib.hid hb
                    have hMb : M ≤ 2000000 := by rw [hM]; exact cnt_few hfh k j x
                    have HMM := Lib.hid hM
                    clear hb hM
                    by_cases hlj : j < q'.wait.length
                    · obtain ⟨gw, ow, rfl, hcw⟩ := rowL HRW.out (by omega)
                      have hCY := hcw j hlj
                      have HGY : Hid (q'.wait[j]? = some (gr lkR q'.wait j)) := Lib.hid (gr_get hlj)
                      obtain ⟨y, hyy⟩ : ∃ y, y = gr lkR q'.wait j := ⟨_, rfl⟩
                      rw [← hyy] at hCY HGY
                      have HCY := Lib.hid hCY
                      have HON := Lib.hid (cntR_on (x := x) HGY.out)
                      clear hCY hyy hcw
                      have jL : (0 : Int) ≤ (j : Int) := by omega
                      have jU : (j : Int) < (q'.wait.length : Int) := by omega
                      have hS : Hid (∀ w', Below wr.heap.size wr w' → (w'.cell? ⟨gh, oh + k * 4, none⟩ = some (.string x.key) ∧ w'.cell? ⟨gh, oh + k * 4 + 1, none⟩ = some (.int .i64 x.id.n) ∧ w'.cell? ⟨gh, oh + k * 4 + 2, none⟩ = some (.int .i64 x.id.c) ∧ w'.cell? ⟨gh, oh + k * 4 + 3, none⟩ = some (.int .i64 x.mode) ∧ w'.cell? ⟨gw, ow + j * 4, none⟩ = some (.string y.key) ∧ w'.cell? ⟨gw, ow + j * 4 + 1, none⟩ = some (.int .i64 y.id.n) ∧ w'.cell? ⟨gw, ow + j * 4 + 2, none⟩ = some (.int .i64 y.id.c) ∧ w'.cell? ⟨gw, ow + j * 4 + 3, none⟩ = some (.int .i64 y.mode))) := Lib.hid (fun w' hb => by
                        obtain ⟨a0, a1, a2, a3⟩ := HCK.out w' (HBR.out.trans (hb.mono HBR.out.size))
                        obtain ⟨b0, b1, b2, b3⟩ := HCY.out w' (HBR.out.trans (hb.mono HBR.out.size))
                        exact ⟨a0, a1, a2, a3, b0, b1, b2, b3⟩)
                      have hD : Below wr.heap.size wr wr.drew := below_drewN (Below.refl _ _) 1
                      have HC := Lib.hid (fun w => lconf_any x y w)
                      unfold lkV at HC
                      cases hcf : conf x y with
                      | false =>
                        have HCV := Lib.hid hcf
                        have HN2 : Hid (M = cntH q' k + cntR q' x (j + 1)) := Lib.hid (by rw [HON.out, hcf, if_neg (by simp), HMM.out]; rfl)
                        clear hcf HON
                        go_wp2_with fail
                        refine wp_region_held_drew (S := fun w' => w'.cell? ⟨gh, oh + k * 4, none⟩ = some (.string x.key) ∧ w'.cell? ⟨gh, oh + k * 4 + 1, none⟩ = some (.int .i64 x.id.n) ∧ w'.cell? ⟨gh, oh + k * 4 + 2, none⟩ = some (.int .i64 x.id.c) ∧ w'.cell? ⟨gh, oh + k * 4 + 3, none⟩ = some (.int .i64 x.mode) ∧ w'.cell? ⟨gw, ow + j * 4, none⟩ = some (.string y.key) ∧ w'.cell? ⟨gw, ow + j * 4 + 1, none⟩ = some (.int .i64 y.id.n) ∧ w'.cell? ⟨gw, ow + j * 4 + 2, none⟩ = some (.int .i64 y.id.c) ∧ w'.cell? ⟨gw, ow + j * 4 + 3, none⟩ = some (.int .i64 y.mode)) (by kernel_rfl) (by with_reducible exact hS.out _ hD) (fun hHeld => ?_)
                        refine wpAnyH_take (i := 0) (oi := { dst := some 106, op := Op.move (Operand.tmp 7), type := 28, pos := "law.go:215", after := #[], guard := none }) (v := ?vv9) rfl (by kernel_rfl) (by kernel_rfl) (by kernel_rfl) (fun _ _ _ h => h) (Or.inl ⟨by rfl, ?hyy9⟩) (by assumption) ?rest9
                        case hyy9 => ((intro w hSw); (try dsimp only at hSw); go_simp; (try with_reducible rfl))
                        try simp only [Act.put, List.setIfInBounds_toArray, List.set_cons_zero, List.set_cons_succ]
                        refine wpAnyH_take (i := 1) (oi := { dst := some 107, op := Op.move (Operand.tmp 15), type := 3, pos := "law.go:215", after := #[], guard := none }) (v := ?vv10) rfl (by kernel_rfl) (by kernel_rfl) (by kernel_rfl) (fun _ _ _ h => h) (Or.inl ⟨by rfl, ?hyy10⟩) (by assumption) ?rest10
                        case hyy10 => ((intro w hSw); (try dsimp only at hSw); go_simp; (try with_reducible rfl))
                        try simp only [Act.put, List.setIfInBounds_toArray, List.set_cons_zero, List.set_cons_succ]
                        refine wpAnyH_take (i := 2) (oi := { dst := some 108, op := Op.indexAddr 28 (Operand.tmp 106) (Operand.tmp 107), type := 0, pos := "law.go:215", after := #[{ on := 0, ground := Ground.data }, { on := 1, ground := Ground.data }], guard := none }) (v := ?vv11) rfl (by kernel_rfl) (by kernel_rfl) (by kernel_rfl) (fun _ _ _ h => h) (Or.inl ⟨by rfl, ?hyy11⟩) (by assumption) ?rest11
                        case hyy11 => ((intro w hSw); (try dsimp only at hSw); go_simp; (try with_reducible rfl))
                        try simp only [Act.put, List.setIfInBounds_toArray, List.set_cons_zero, List.set_cons_succ]
                        refine wpAnyH_take (i := 3) (oi := { dst := some 109, op := Op.load 39 (Operand.tmp 108), type := 39, pos := "law.go:215", after := #[{ on := 2, ground := Ground.data }], guard := none }) (v := ?vv12) rfl (by kernel_rfl) (by kernel_rfl) (by kernel_rfl) (fun _ _ _ h => h) (Or.inl ⟨by rfl, ?hyy12⟩) (by assumption) ?rest12
                        case hyy12 => ((intro w hSw); (try dsimp only at hSw); go_simp; (try with_reducible rfl))
                        try simp only [Act.put, List.setIfInBounds_toArray, List.set_cons_zero, List.set_cons_succ]
                        refine wpAnyH_take (i := 4) (oi := { dst := some 110, op := Op.move (Operand.tmp 8), type := 28, pos := "law.go:215", after := #[], guard := none }) (v := ?vv13) rfl (by kernel_rfl) (by kernel_rfl) (by kernel_rfl) (fun _ _ _ h => h) (Or.inl ⟨by rfl, ?hyy13⟩) (by assumption) ?rest13
                        case hyy13 => ((intro w hSw); (try dsimp only at hSw); go_simp; (try with_reducible rfl))
                        try simp only [Act.put, List.setIfInBounds_toArray, List.set_cons_zero, List.set_cons_succ]
                        refine wpAnyH_take (i := 5) (oi := { dst := some 111, op := Op.move (Operand.tmp 17), type := 3, pos := "law.go:215", after := #[], guard := none }) (v := ?vv14) rfl (by kernel_rfl) (by kernel_rfl) (by kernel_rfl) (fun _ _ _ h => h) (Or.inl ⟨by rfl, ?hyy14⟩) (by assumption) ?rest14
                        case hyy14 => ((intro w hSw); (try dsimp only at hSw); go_simp; (try with_reducible rfl))
                        try simp only [Act.put, List.setIfInBounds_toArray, List.set_cons_zero, List.set_cons_succ]
                        refine wpAnyH_take (i := 6) (oi := { dst := some 112, op := Op.indexAddr 28 (Operand.tmp 110) (Operand.tmp 111), type := 0, pos := "law.go:215", after := #[{ on := 4, ground := Ground.data }, { on := 5, ground := Ground.data }], guard := none }) (v := ?vv15) rfl (by kernel_rfl) (by kernel_rfl) (by kernel_rfl) (fun _ _ _ h => h) (Or.inl ⟨by rfl, ?hyy15⟩) (by assumption) ?rest15
                        case hyy15 => ((intro w hSw); (try dsimp only at hSw); go_simp; (try with_reducible rfl))
                        try simp only [Act.put, List.setIfInBounds_toArray, List.set_cons_zero, List.set_cons_succ]
                        refine wpAnyH_take (i := 7) (oi := { dst := some 113, op := Op.load 39 (Operand.tmp 112), type := 39, pos := "law.go:215", after := #[{ on := 6, ground := Ground.data }], guard := none }) (v := ?vv16) rfl (by kernel_rfl) (by kernel_rfl) (by kernel_rfl) (fun _ _ _ h => h) (Or.inl ⟨by rfl, ?hyy16⟩) (by assumption) ?rest16
                        case hyy16 => ((intro w hSw); (try dsimp only at hSw); go_simp; (try with_reducible rfl))
                        try simp only [Act.put, List.setIfInBounds_toArray, List.set_cons_zero, List.set_cons_succ]
                        refine wpAnyH_ready (rs := [8]) (by kernel_rfl) (by simp) ?_
                        refine AllReadyH.cons (o := { dst := some 114, op := Op.call { callee := Callee.value (Operand.func 12), args := #[Operand.tmp 109, Operand.tmp 113], argTypes := #[39, 39] }, type := 4, pos := "law.go:215", after := #[{ on := 3, ground := Ground.data }, { on := 7, ground := Ground.data }], guard := none }) rfl (fun K hK => ?_) ?_
                        ·
                          go_simp
                          go_at_call 12
                          refine (HC.out _).mono ?_
                          rintro e w9 ⟨he, hb9⟩
                          rw [HCV.out] at he
                          subst he
                          have hc9 : Below wr.heap.size wr w9 := hD.trans (hb9.mono hD.size)
                          clear hb9
                          go_wp2_with fail
                          refine hK.out _ _ (by with_reducible exact hS.out _ hc9) (fun hHeld => ?_)
                          clear hK K
                          try simp only [Act.put, List.setIfInBounds_toArray, List.set_cons_zero, List.set_cons_succ]
                          refine wpAnyH_done (by kernel_rfl) ?_ _
                          go_wp2
                          go_roundw
                          case rel => exact ⟨j + 1, M, rfl, by go_num, by omega, HN2.out, HBR.out.trans (hc9.mono HBR.out.size)⟩
                          case measure => simp [intOf]; omega
                        exact AllReadyH.nil
                      | true =>
                        have HCV := Lib.hid hcf
                        have HN2 : Hid (M + 1 = cntH q' k + cntR q' x (j + 1)) := Lib.hid (by rw [HON.out, hcf, if_pos rfl, HMM.out]; omega)
                        clear hcf HON
                        go_wp2_with fail
                        refine wp_region_held_drew (S := fun w' => w'.cell? ⟨gh, oh + k * 4, none⟩ = some (.string x.key) ∧ w'.cell? ⟨gh, oh + k * 4 + 1, none⟩ = some (.int .i64 x.id.n) ∧ w'.cell? ⟨gh, oh + k * 4 + 2, none⟩ = some (.int .i64 x.id.c) ∧ w'.cell? ⟨gh, oh + k * 4 + 3, none⟩ = some (.int .i64 x.mode) ∧ w'.cell? ⟨gw, ow + j * 4, none⟩ = some (.string y.key) ∧ w'.cell? ⟨gw, ow + j * 4 + 1, none⟩ = some (.int .i64 y.id.n) ∧ w'.cell? ⟨gw, ow + j * 4 + 2, none⟩ = some (.int .i64 y.id.c) ∧ w'.cell? ⟨gw, ow + j * 4 + 3, none⟩ = some (.int .i64 y.mode)) (by kernel_rfl) (by with_reducible exact hS.out _ hD) (fun hHeld => ?_)
                        refine wpAnyH_take (i := 0) (oi := { dst := some 106, op := Op.move (Operand.tmp 7), type := 28, pos := "law.go:215", after := #[], guard := none }) (v := ?vv17) rfl (by kernel_rfl) (by kernel_rfl) (by kernel_rfl) (fun _ _ _ h => h) (Or.inl ⟨by rfl, ?hyy17⟩) (by assumption) ?rest17
                        case hyy17 => ((intro w hSw); (try dsimp only at hSw); go_simp; (try with_reducible rfl))
                        try simp only [Act.put, List.setIfInBounds_toArray, List.set_cons_zero, List.set_cons_succ]
                        refine wpAnyH_take (i := 1) (oi := { dst := some 107, op := Op.move (Operand.tmp 15), type := 3, pos := "law.go:215", after := #[], guard := none }) (v := ?vv18) rfl (by kernel_rfl) (by kernel_rfl) (by kernel_rfl) (fun _ _ _ h => h) (Or.inl ⟨by rfl, ?hyy18⟩) (by assumption) ?rest18
                        case hyy18 => ((intro w hSw); (try dsimp only at hSw); go_simp; (try with_reducible rfl))
                        try simp only [Act.put, List.setIfInBounds_toArray, List.set_cons_zero, List.set_cons_succ]
                        refine wpAnyH_take (i := 2) (oi := { dst := some 108, op := Op.indexAddr 28 (Operand.tmp 106) (Operand.tmp 107), type := 0, pos := "law.go:215", after := #[{ on := 0, ground := Ground.data }, { on := 1, ground := Ground.data }], guard := none }) (v := ?vv19) rfl (by kernel_rfl) (by kernel_rfl) (by kernel_rfl) (fun _ _ _ h => h) (Or.inl ⟨by rfl, ?hyy19⟩) (by assumption) ?rest19
                        case hyy19 => ((intro w hSw); (try dsimp only at hSw); go_simp; (try with_reducible rfl))
                        try simp only [Act.put, List.setIfInBounds_toArray, List.set_cons_zero, List.set_cons_succ]
                        refine wpAnyH_take (i := 3) (oi := { dst := some 109, op := Op.load 39 (Operand.tmp 108), type := 39, pos := "law.go:215", after := #[{ on := 2, ground := Ground.data }], guard := none }) (v := ?vv20) rfl (by kernel_rfl) (by kernel_rfl) (by kernel_rfl) (fun _ _ _ h => h) (Or.inl ⟨by rfl, ?hyy20⟩) (by assumption) ?rest20
                        case hyy20 => ((intro w hSw); (try dsimp only at hSw); go_simp; (try with_reducible rfl))
                        try simp only [Act.put, List.setIfInBounds_toArray, List.set_cons_zero, List.set_cons_succ]
                        refine wpAnyH_take (i := 4) (oi := { dst := some 110, op := Op.move (Operand.tmp 8), type := 28, pos := "law.go:215", after := #[], guard := none }) (v := ?vv21) rfl (by kernel_rfl) (by kernel_rfl) (by kernel_rfl) (fun _ _ _ h => h) (Or.inl ⟨by rfl, ?hyy21⟩) (by assumption) ?rest21
                        case hyy21 => ((intro w hSw); (try dsimp only at hSw); go_simp; (try with_reducible rfl))
                        try simp only [Act.put, List.setIfInBounds_toArray, List.set_cons_zero, List.set_cons_succ]
                        refine wpAnyH_take (i := 5) (oi := { dst := some 111, op := Op.move (Operand.tmp 17), type := 3, pos := "law.go:215", after := #[], guard := none }) (v := ?vv22) rfl (by kernel_rfl) (by kernel_rfl) (by kernel_rfl) (fun _ _ _ h => h) (Or.inl ⟨by rfl, ?hyy22⟩) (by assumption) ?rest22
                        case hyy22 => ((intro w hSw); (try dsimp only at hSw); go_simp; (try with_reducible rfl))
                        try simp only [Act.put, List.setIfInBounds_toArray, List.set_cons_zero, List.set_cons_succ]
                        refine wpAnyH_take (i := 6) (oi := { dst := some 112, op := Op.indexAddr 28 (Operand.tmp 110) (Operand.tmp 111), type := 0, pos := "law.go:215", after := #[{ on := 4, ground := Ground.data }, { on := 5, ground := Ground.data }], guard := none }) (v := ?vv23) rfl (by kernel_rfl) (by kernel_rfl) (by kernel_rfl) (fun _ _ _ h => h) (Or.inl ⟨by rfl, ?hyy23⟩) (by assumption) ?rest23
                        case hyy23 => ((intro w hSw); (try dsimp only at hSw); go_simp; (try with_reducible rfl))
                        try simp only [Act.put, List.setIfInBounds_toArray, List.set_cons_zero, List.set_cons_succ]
                        refine wpAnyH_take (i := 7) (oi := { dst := some 113, op := Op.load 39 (Operand.tmp 112), type := 39, pos := "law.go:215", after := #[{ on := 6, ground := Ground.data }], guard := none }) (v := ?vv24) rfl (by kernel_rfl) (by kernel_rfl) (by kernel_rfl) (fun _ _ _ h => h) (Or.inl ⟨by rfl, ?hyy24⟩) (by assumption) ?rest24
                        case hyy24 => ((intro w hSw); (try dsimp only at hSw); go_simp; (try with_reducible rfl))
                        try simp only [Act.put, List.setIfInBounds_toArray, List.set_cons_zero, List.set_cons_succ]
                        refine wpAnyH_ready (rs := [8]) (by kernel_rfl) (by simp) ?_
                        refine AllReadyH.cons (o := { dst := some 114, op := Op.call { callee := Callee.value (Operand.func 12), args := #[Operand.tmp 109, Operand.tmp 113], argTypes := #[39, 39] }, type := 4, pos := "law.go:215", after := #[{ on := 3, ground := Ground.data }, { on := 7, ground := Ground.data }], guard := none }) rfl (fun K hK => ?_) ?_
                        ·
                          go_simp
                          go_at_call 12
                          refine (HC.out _).mono ?_
                          rintro e w9 ⟨he, hb9⟩
                          rw [HCV.out] at he
                          subst he
                          have hc9 : Below wr.heap.size wr w9 := hD.trans (hb9.mono hD.size)
                          clear hb9
                          go_wp2_with fail
                          refine hK.out _ _ (by with_reducible exact hS.out _ hc9) (fun hHeld => ?_)
                          clear hK K
                          try simp only [Act.put, List.setIfInBounds_toArray, List.set_cons_zero, List.set_cons_succ]
                          refine wpAnyH_done (by kernel_rfl) ?_ _
                          go_wp2
                          go_roundw
                          case rel => exact ⟨j + 1, M + 1, by go_num, by go_num, by omega, HN2.out, HBR.out.trans (hc9.mono HBR.out.size)⟩
                          case measure => simp [intOf]; omega
                        exact AllReadyH.nil
                    · have jU : ¬ (j : Int) < (q'.wait.length : Int) := by omega
                      have HN3 : Hid (M = cntH q' (k + 1)) := Lib.hid (by rw [cntH_on HGX.out, HMM.out, show j = q'.wait.length by omega])
                      go_wp2
                      go_roundw
                      case rel => exact ⟨k + 1, M, rfl, by go_num, by omega, HN3.out, HBR.out⟩
                      case measure => simp [intOf]; omega
            · have kU : ¬ (k : Int) < (q'.held.length : Int) := by omega
              have HNE : Hid ((N : Int) = ((edges q').length : Int)) := Lib.hid (by rw [HNN.out, show k = q'.held.length by omega, cnt_edges])
              clear HNN
              obtain ⟨wo, hwo⟩ : ∃ wo : World, wo = wr := ⟨_, rfl⟩
              rw [← hwo] at HBR ⊢
              clear hwo
              go_wp2
              clear kU
              rw [HNE.out]
              go_loopw [18] (UpRel q'.wait.length w7) (fun i _ => q'.wait.length - (intOf i).toNat)
              case atStart => exact ⟨0, rfl, Nat.zero_le _, HBR.out⟩
              case round =>
                clear HBR
                obtain ⟨k, rfl, hk, hb⟩ := hrel
                have HBR := Lib.hid hb
                clear hb
                by_cases hlt : k < q'.wait.length
                · obtain ⟨gw, ow, rfl, hcw⟩ := rowL HRW.out (by omega)
                  obtain ⟨a0, a1, a2, a3⟩ := hcw k hlt wr HBR.out
                  have hno : hasI q'.prep (gr lkR q'.wait k).id = false := hasI_no.2 (HS2.out.inv.mid.pw _ (gr_mem hlt))
                  obtain ⟨x, hx⟩ : ∃ x, x = gr lkR q'.wait k := ⟨_, rfl⟩
                  rw [← hx] at a0 a1 a2 a3 hno
                  have HA1 := Lib.hid (has_any Ap cp q'.prep x.id wr ((HRP.out.below HBR.out).more HBR.out.size) (by omega))
                  unfold idV at HA1
                  rw [hno] at HA1
                  have kL : (0 : Int) ≤ (k : Int) := by omega
                  have kU : (k : Int) < (q'.wait.length : Int) := by omega
                  clear hx hcw hno
                  go_wp2_with fail
                  refine HA1.out.mono ?_
                  rintro e w9 ⟨rfl, hb9⟩
                  have HB9 := Lib.hid (HBR.out.trans (hb9.mono HBR.out.size))
                  clear hb9 a0 a1 a2 a3
                  go_wp2
                  go_roundw
                  case rel => exact ⟨k + 1, by go_num, by omega, HB9.out⟩
                  case measure => simp [intOf]; omega
                · have kU : ¬ (k : Int) < (q'.wait.length : Int) := by omega
                  obtain ⟨wo, hwo⟩ : ∃ wo : World, wo = wr := ⟨_, rfl⟩
                  rw [← hwo] at HBR ⊢
                  clear hwo
                  go_wp2
                  clear kU
                  go_loopw [19] (UpRel q'.prep.length w7) (fun i _ => q'.prep.length - (intOf i).toNat)
                  case atStart => exact ⟨0, rfl, Nat.zero_le _, HBR.out⟩
                  case round =>
                    clear HBR
                    obtain ⟨k, rfl, hk, hb⟩ := hrel
                    have HBR := Lib.hid hb
                    clear hb
                    by_cases hlt : k < q'.prep.length
                    · obtain ⟨gw, ow, rfl, hcw⟩ := rowI HRP.out (by omega)
                      obtain ⟨a0, a1⟩ := hcw k hlt wr HBR.out
                      have hno : hasI q'.hurt (gr idR q'.prep k) = false := hasI_no.2 (HS2.out.inv.mid.ph _ (gr_mem hlt))
                      obtain ⟨x, hx⟩ : ∃ x, x = gr idR q'.prep k := ⟨_, rfl⟩
                      rw [← hx] at a0 a1 hno
                      have HA1 := Lib.hid (has_any Au cu q'.hurt x wr ((HRU.out.below HBR.out).more HBR.out.size) (by omega))
                      unfold idV at HA1
                      rw [hno] at HA1
                      have kL : (0 : Int) ≤ (k : Int) := by omega
                      have kU : (k : Int) < (q'.prep.length : Int) := by omega
                      clear hx hcw hno
                      go_wp2_with fail
                      refine HA1.out.mono ?_
                      rintro e w9 ⟨rfl, hb9⟩
                      have HB9 := Lib.hid (HBR.out.trans (hb9.mono HBR.out.size))
                      clear hb9 a0 a1
                      go_wp2
                      go_roundw
                      case rel => exact ⟨k + 1, by go_num, by omega, HB9.out⟩
                      case measure => simp [intOf]; omega
                    · have kU : ¬ (k : Int) < (q'.prep.length : Int) := by omega
                      have hmx : (q'.held.length : Int) + (q'.wait.length : Int) ≤ max 0 most := HQ1.out
                      have z0 : decide (max 0 most < (q'.held.length : Int) + (q'.wait.length : Int)) = false := decide_eq_false (by omega)
                      have z1 : (((edges q').length : Int) != ((edges q').length : Int)) = false := by simp
                      go_wp2
                      go_roundw
                      case rel => exact ⟨kk + 1, q', m', by go_num, by omega, HX7.out.below HBR.out, HS2.out, HQ2.out, by rw [HQ2.out]; exact HQ1.out⟩
                      case measure => simp [intOf]; omega
    · have hz : decide (kk < os.length) = false ∨ (decide (kk < os.length) = true ∧ decide ((kk : Int) < 200) = false) := by
        by_cases h1 : kk < os.length
        · exact .inr ⟨decide_eq_true (by omega), decide_eq_false (by omega)⟩
        · exact .inl (decide_eq_false (by omega))
      have HE := Lib.hid HX.out.bel
      clear hgo HX HS HM1 HM2
      rcases hz with z1 | ⟨z1, z2⟩
      all_goals
        go_wp2
        go_ret
        exact ⟨rfl, HE.out⟩
end Go.Proofs.Ytpidpdbjjdkhoaa
