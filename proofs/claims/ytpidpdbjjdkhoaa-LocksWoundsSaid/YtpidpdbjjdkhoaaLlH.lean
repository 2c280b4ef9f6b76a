/- Locks: LocksWounds. -/
import Derived.Test.YtpidpdbjjdkhoaaLlHa
namespace Go.Proofs.Ytpidpdbjjdkhoaa
open Go.RowKit
set_option linter.unusedSimpArgs false
set_option linter.unusedVariables false
attribute [local go_sem ↓] Go.wp_at_zero Go.wp_at_succ

def WoRel (W : World) (d : Nat) (i : Value) (wr : World) : Prop := ∃ (k : Nat) (q : Tb) (m : TbM), i = .int .i64 k ∧ k ≤ 100 ∧ TbX W [] d q m wr ∧ Sane k q ∧ q.most = 60 ∧ (q.held.length : Int) + (q.wait.length : Int) ≤ q.most
def WjRel (q : Tb) (i : Idn) (o : LOp) (w : World) (y s : Value) (wr : World) : Prop := ∃ j : Nat, y = .bool (whB q i o j) ∧ s = .int .i64 j ∧ j ≤ q.held.length ∧ Below w.heap.size w wr
def FiRel (W : World) (d p1 : Nat) (key : ByteArray) (s : Value) (wr : World) : Prop := ∃ (i : Nat) (q : Tb) (m : TbM), s = .int .i64 i ∧ TbX W [p1] d q m wr ∧ Blk wr p1 34 #[.int .i64 1, .int .i64 0] ∧ First key q ∧ (i = 0 ∨ (i = 1 ∧ modeI q ⟨1, 0⟩ key = 2))
def FjRel (W : World) (d p1 : Nat) (key : ByteArray) (L : List Lk) (Ah : Option Addr) (ch : Nat) (s : Value) (wr : World) : Prop := ∃ (k : Nat) (q : Tb) (m : TbM), s = .int .i64 k ∧ k ≤ L.length ∧ TbX W (ob Ah ++ [p1]) d q m wr ∧ Blk wr p1 34 #[.int .i64 1, .int .i64 0] ∧ First key q ∧
  wr.ownsRow 0 39 4 (.slice Ah L.length ch) L.length (rc lkR L) ∧ Way key q L k
set_option maxHeartbeats 16000000 in
set_option maxRecDepth 100000 in
theorem locksWounds_any (A : Option Addr) (c : Nat) (os : List LOp) (key : ByteArray) (W : World) (hO : Reads W W.heap.size 5 A os.length (rc opR os)) :
    Calls Try.prog 3 #[.slice A os.length c, .string key] W fun e w' => e = .returned (.bool true) ∧ Below W.heap.size W w' := by
  have HO := Lib.hid hO
  clear hO
  go_enter Try.func3, Try.ntmps3
  go_wp2_with fail
  refine (works_any W).mono ?_
  rintro e w0 ⟨rfl, hb0⟩
  go_wp2_with fail
  refine (new_any 60 _).mono ?_
  rintro e w1 ⟨rfl, hw1⟩
  have HX0 : Hid (TbX W [] w0.heap.size (tb0 60) tm0 w1) := Lib.hid (by rw [hw1]; exact tbx0 60 hb0)
  obtain ⟨d, hd⟩ : ∃ d, d = w0.heap.size := ⟨_, rfl⟩
  rw [← hd] at HX0
  rw [← hd]
  clear hw1 hb0 hd
  go_wp2
  go_loopw [6] (WoRel W d) (fun i _ => 100 - (intOf i).toNat)
  case atStart => exact ⟨0, tb0 60, tm0, rfl, by omega, HX0.out, sane0 60, by decide, by decide⟩
  case round =>
    clear HX0
    obtain ⟨kk, q, m, rfl, hk, hx, hs, hm1, hm2⟩ := hrel
    have HX := Lib.hid hx
    have HS := Lib.hid hs
    have HM1 := Lib.hid hm1
    have HM2 := Lib.hid hm2
    clear hx hs hm1 hm2
    by_cases hgo : kk < os.length ∧ kk < 100
    · obtain ⟨hg1, hg2⟩ := hgo
      have kL : (0 : Int) ≤ (kk : Int) := by omega
      have kU : (kk : Int) < (os.length : Int) := by omega
      have k1 : (kk : Int) < 100 := by omega
      have HH := Lib.hid (wounded_any HX.out.tb)
      go_wp2_with fail
      refine HH.out.mono ?_
      clear HH
      rintro e w2 ⟨Aa, ca, rfl, ho, hb, hf⟩
      have HX2 := Lib.hid (HX.out.fresh (T' := ob Aa) hb (fun k hk => ⟨hf k hk, own_lt ho k hk⟩))
      have OA2 := Lib.hid ho
      clear ho hb hf HX
      have HH := Lib.hid (held_any HX2.out.tb)
      go_wp2_with fail
      refine HH.out.mono ?_
      clear HH
      rintro e w3 ⟨Ah, ch, rfl, ho, hb, hf⟩
      have HX3 := Lib.hid (HX2.out.fresh (T' := ob Ah) hb (fun k hk => ⟨hf k hk, own_lt ho k hk⟩))
      have OA3 := Lib.hid (own_below OA2.out hb)
      have OH3 := Lib.hid ho
      clear ho hb hf HX2 OA2
      obtain ⟨bo, off, rfl, hrow⟩ := rowO HO.out (by omega)
      obtain ⟨y0, y1, y2, y3, y4⟩ := hrow kk hg1 w3 HX3.out.bel
      have hop := hrow kk hg1
      obtain ⟨o, ho⟩ : ∃ o, o = gr opR os kk := ⟨_, rfl⟩
      rw [← ho] at y0 y1 y2 y3 y4 hop
      have HOP := Lib.hid hop
      have HC := Lib.hid (play_sane HX3.out HS.out (by omega) o)
      unfold lopV at HC
      clear ho hrow hop
      go_wp2_with fail
      refine HC.out.mono ?_
      clear HC
      rintro e w4 ⟨A2, c2, A3, c3, rfl, hpl⟩
      obtain ⟨m', ht, hmv, hap, _⟩ := hpl.tb
      have HX4 := Lib.hid ((HX3.out.step ht hmv).less (T' := []) (by simp))
      have HS4 := Lib.hid (HS.out.step o)
      obtain ⟨hq1, hq2⟩ := play_most HS.out.inv.mid.good o HM2.out
      rw [HM1.out] at hq1 hq2
      have OA4 := Lib.hid (hmv.kept.own OA3.out (fun g hg => HX3.out.ap g (List.mem_append.2 (.inr (List.mem_append.2 (.inl (ownBlock_mem.1 hg)))))))
      have OH4 := Lib.hid (hmv.kept.own OH3.out (fun g hg => HX3.out.ap g (List.mem_append.2 (.inl (ownBlock_mem.1 hg)))))
      have OI4 := Lib.hid hpl.ids
      have hfhq := HX3.out.tb.fh
      have HWN : Hid (∀ i, i ∈ (playT q o).hurt → i ∉ q.hurt → o.kind = 0 ∧ ol o.id i = true ∧ hasI (playI q o) i = true ∧ ∃ x ∈ q.held, x.id = i ∧ x.key = o.key ∧ conf x (lopL o) = true) := Lib.hid (fun i h1 h2 => wound_new h1 h2 HS.out.inv.mid.good)
      have hPI : (playI q o).length ≤ 1000 := by
        unfold playI
        split
        · unfold askH
          cases refuse q (lopL o) with
          | some e => simp
          | none =>
            show (victims q (lopL o)).length ≤ 1000
            unfold victims
            rw [List.length_map]
            have := List.length_filter_le (victim q (lopL o)) q.held
            omega
        · simp
      have hhq := HS.out.hurt
      obtain ⟨q', hq'⟩ : ∃ q', q' = playT q o := ⟨_, rfl⟩
      rw [← hq'] at HX4 HS4 hq1 hq2 HWN
      obtain ⟨PI, hPIe⟩ : ∃ PI, PI = playI q o := ⟨_, rfl⟩
      rw [← hPIe] at OI4 HWN hPI
      rw [← hPIe]
      have HQ1 := Lib.hid hq1
      have HQ2 := Lib.hid hq2
      clear ht hmv hap hpl hq' hq1 hq2 y0 y1 y2 y3 y4 HX3 HS HM1 HM2 OA3 OH3 hPIe
      have HH := Lib.hid (wounded_any HX4.out.tb)
      go_wp2_with fail
      refine HH.out.mono ?_
      clear HH
      rintro e w5 ⟨An, cn, rfl, ho, hb, hf⟩
      have HX5 := Lib.hid (HX4.out.below hb)
      have HRA := Lib.hid (Reads.of_own (own_below OA4.out hb))
      have HRH := Lib.hid (Reads.of_own (own_below OH4.out hb))
      have HRI := Lib.hid (Reads.of_own (own_below OI4.out hb))
      have HRN := Lib.hid (Reads.of_own ho)
      have hfh := HX5.out.tb.fh
      have hul := HS4.out.hurt
      clear ho hb hf HX4 OA4 OH4 OI4
      go_wp2
      go_loopw [13] (UpRel q'.hurt.length w5) (fun i _ => q'.hurt.length - (intOf i).toNat)
      case atStart => exact ⟨0, rfl, Nat.zero_le _, Below.refl _ _⟩
      case round =>
        obtain ⟨k, rfl, hk, hb⟩ := hrel
        have HBR := Lib.hid hb
        clear hb
        by_cases hlt : k < q'.hurt.length
        · obtain ⟨gn, on, rfl, hcell⟩ := rowI HRN.out (by omega)
          obtain ⟨a0, a1⟩ := hcell k hlt wr HBR.out
          have hcn := hcell k hlt
          have hmem := gr_mem (R := idR) hlt
          obtain ⟨i, hi⟩ : ∃ i, i = gr idR q'.hurt k := ⟨_, rfl⟩
          rw [← hi] at a0 a1 hcn hmem
          have HCN := Lib.hid hcn
          have HW1 := Lib.hid (HWN.out i hmem)
          have kL : (0 : Int) ≤ (k : Int) := by omega
          have kU2 : (k : Int) < (q'.hurt.length : Int) := by omega
          have HHA := Lib.hid (has_any Aa ca q.hurt i wr ((HRA.out.below HBR.out).more HBR.out.size) (by omega))
          unfold idV at HHA
          clear hi hcell hcn hmem
          go_wp2_with fail
          refine HHA.out.mono ?_
          rintro e w9 ⟨rfl, hb9⟩
          have HB9 := Lib.hid (HBR.out.trans (hb9.mono HBR.out.size))
          clear hb9 a0 a1 HHA HBR
          cases hwas : hasI q.hurt i with
          | true =>
            clear hwas
            go_wp2
            go_roundw
            case rel => exact ⟨k + 1, by go_num, by omega, HB9.out⟩
            case measure => simp [intOf]; omega
          | false =>
            obtain ⟨hkind, hold, hin, hex⟩ := HW1.out (hasI_no.1 hwas)
            have HKD := Lib.hid hkind
            have HOLD := Lib.hid hold
            have HIN := Lib.hid hin
            have HWE := Lib.hid (whB_end hex)
            clear hwas hkind hold hin hex HW1
            go_wp2
            go_loopw [14, 15] (WjRel q i o w5) (fun _ s _ => q.held.length - (intOf s).toNat)
            case atStart => exact ⟨0, rfl, rfl, Nat.zero_le _, HB9.out⟩
            case round =>
              clear HB9
              obtain ⟨j, rfl, rfl, hj, hb⟩ := hrel
              have HBR := Lib.hid hb
              clear hb
              have hD : Below wr.heap.size wr wr.drew := below_drewN (Below.refl _ _) 1
              by_cases hlj : j < q.held.length
              · obtain ⟨gh, oh, rfl, hch⟩ := rowL HRH.out (by omega)
                have hcy := hch j hlj
                have HGY : Hid (q.held[j]? = some (gr lkR q.held j)) := Lib.hid (gr_get hlj)
                obtain ⟨y, hyy⟩ : ∃ y, y = gr lkR q.held j := ⟨_, rfl⟩
                rw [← hyy] at hcy HGY
                have HCY := Lib.hid hcy
                have HON := Lib.hid (whB_on (i := i) (o := o) HGY.out)
                have jL : (0 : Int) ≤ (j : Int) := by omega
                have jU : (j : Int) < (q.held.length : Int) := by omega
                have hS : Hid (∀ w', Below wr.heap.size wr w' → (w'.cell? ⟨gh, oh + j * 4, none⟩ = some (.string y.key) ∧ w'.cell? ⟨gh, oh + j * 4 + 1, none⟩ = some (.int .i64 y.id.n) ∧ w'.cell? ⟨gh, oh + j * 4 + 2, none⟩ = some (.int .i64 y.id.c) ∧ w'.cell? ⟨gh, oh + j * 4 + 3, none⟩ = some (.int .i64 y.mode) ∧ w'.cell? ⟨gn, on + k * 2, none⟩ = some (.int .i64 i.n) ∧ w'.cell? ⟨gn, on + k * 2 + 1, none⟩ = some (.int .i64 i.c) ∧ w'.cell? ⟨bo, off + kk * 5, none⟩ = some (.int .i64 o.kind) ∧ w'.cell? ⟨bo, off + kk * 5 + 1, none⟩ = some (.int .i64 o.id.n) ∧ w'.cell? ⟨bo, off + kk * 5 + 2, none⟩ = some (.int .i64 o.id.c) ∧ w'.cell? ⟨bo, off + kk * 5 + 3, none⟩ = some (.string o.key) ∧ w'.cell? ⟨bo, off + kk * 5 + 4, none⟩ = some (.int .i64 o.mode))) := Lib.hid (fun w' hb => by
                  obtain ⟨a0, a1, a2, a3⟩ := HCY.out w' (HBR.out.trans (hb.mono HBR.out.size))
                  obtain ⟨b0, b1⟩ := HCN.out w' (HBR.out.trans (hb.mono HBR.out.size))
                  obtain ⟨c0, c1, c2, c3, c4⟩ := HOP.out w' ((HX5.out.bel.trans (HBR.out.mono HX5.out.bel.size)).trans (hb.mono (Nat.le_trans HX5.out.bel.size HBR.out.size)))
                  exact ⟨a0, a1, a2, a3, b0, b1, c0, c1, c2, c3, c4⟩)
                clear hch hcy hyy
                go_wp2_with fail
                refine w18 (o := o) (y := y) (i := i) kL kU2 jL jU (by omega) (by assumption) hS (by exact fun _ _ _ _ h => h) ?_
                intro b_ v69 v70 v71 v72 v73 v74 v75 v76 v77 v78 v79 v80 v81 v82 v83 v84 v85 v86 v87 v88 v89 v90 v91 v92 v93 v94 v95 v96 v97 v98 v99 v100 v101 v102 v103 v104 v105 v106 v107 v108 v109 v110 v111 v112 v113 v114 v115 v116 v117 w9 hb_ hc9
                have HN : Hid (Value.bool b_ = .bool (whB q i o (j + 1))) := Lib.hid (by rw [HON.out, hb_])
                clear hb_
                go_wp2
                go_roundw
                case rel => exact ⟨j + 1, HN.out, by go_num, by omega, HBR.out.trans (hc9.mono HBR.out.size)⟩
                case measure => simp [intOf]; omega
              · have jU : ¬ (j : Int) < (q.held.length : Int) := by omega
                have hyes : whB q i o j = true := by rw [show j = q.held.length by omega]; exact HWE.out
                rw [hyes]
                have hS : Hid (∀ w', Below wr.heap.size wr w' → (w'.cell? ⟨gn, on + k * 2, none⟩ = some (.int .i64 i.n) ∧ w'.cell? ⟨gn, on + k * 2 + 1, none⟩ = some (.int .i64 i.c) ∧ w'.cell? ⟨bo, off + kk * 5, none⟩ = some (.int .i64 0) ∧ w'.cell? ⟨bo, off + kk * 5 + 1, none⟩ = some (.int .i64 o.id.n) ∧ w'.cell? ⟨bo, off + kk * 5 + 2, none⟩ = some (.int .i64 o.id.c) ∧ w'.cell? ⟨bo, off + kk * 5 + 3, none⟩ = some (.string o.key) ∧ w'.cell? ⟨bo, off + kk * 5 + 4, none⟩ = some (.int .i64 o.mode))) := Lib.hid (fun w' hb => by
                  obtain ⟨b0, b1⟩ := HCN.out w' (HBR.out.trans (hb.mono HBR.out.size))
                  obtain ⟨c0, c1, c2, c3, c4⟩ := HOP.out w' ((HX5.out.bel.trans (HBR.out.mono HX5.out.bel.size)).trans (hb.mono (Nat.le_trans HX5.out.bel.size HBR.out.size)))
                  rw [HKD.out] at c0
                  exact ⟨b0, b1, c0, c1, c2, c3, c4⟩)
                have HOL : Hid (∀ w, Calls Try.prog 13 #[.agg #[.int .i64 o.id.n, .int .i64 o.id.c], .agg #[.int .i64 i.n, .int .i64 i.c]] w (BoolIs true w)) := Lib.hid (fun w => by have h := rolder_any o.id i w; rw [HOLD.out] at h; exact h)
                have HHA : Hid (∀ w, Below w5.heap.size w5 w → Calls Try.prog 11 #[.slice A2 PI.length c2, .agg #[.int .i64 i.n, .int .i64 i.c]] w (BoolIs true w)) := Lib.hid (fun w hb => by have h := has_any A2 c2 PI i w ((HRI.out.below hb).more hb.size) (by omega); rw [HIN.out] at h; exact h)
                clear hyes
                go_wp2_with fail
                refine wp_region_held_drew (S := fun w' => w'.cell? ⟨gn, on + k * 2, none⟩ = some (.int .i64 i.n) ∧ w'.cell? ⟨gn, on + k * 2 + 1, none⟩ = some (.int .i64 i.c) ∧ w'.cell? ⟨bo, off + kk * 5, none⟩ = some (.int .i64 0) ∧ w'.cell? ⟨bo, off + kk * 5 + 1, none⟩ = some (.int .i64 o.id.n) ∧ w'.cell? ⟨bo, off + kk * 5 + 2, none⟩ = some (.int .i64 o.id.c) ∧ w'.cell? ⟨bo, off + kk * 5 + 3, none⟩ = some (.string o.key) ∧ w'.cell? ⟨bo, off + kk * 5 + 4, none⟩ = some (.int .i64 o.mode)) (by kernel_rfl) (by with_reducible exact hS.out _ hD) (fun hHeld => ?_)
                refine wpAnyH_take (i := 0) (oi := { dst := some 118, op := Op.move (Operand.tmp 0), type := 22, pos := "law.go:291", after := #[], guard := none }) (v := ?vv1) rfl (by kernel_rfl) (by kernel_rfl) (by kernel_rfl) (fun _ _ _ h => h) (Or.inl ⟨by rfl, ?hyy1⟩) (by assumption) ?rest1
                case hyy1 => ((intro w hSw); (try dsimp only at hSw); go_simp; (try with_reducible rfl))
                try simp only [Act.put, List.setIfInBounds_toArray, List.set_cons_zero, List.set_cons_succ]
                refine wpAnyH_take (i := 1) (oi := { dst := some 119, op := Op.move (Operand.tmp 6), type := 3, pos := "law.go:291", after := #[], guard := none }) (v := ?vv2) rfl (by kernel_rfl) (by kernel_rfl) (by kernel_rfl) (fun _ _ _ h => h) (Or.inl ⟨by rfl, ?hyy2⟩) (by assumption) ?rest2
                case hyy2 => ((intro w hSw); (try dsimp only at hSw); go_simp; (try with_reducible rfl))
                try simp only [Act.put, List.setIfInBounds_toArray, List.set_cons_zero, List.set_cons_succ]
                refine wpAnyH_take (i := 2) (oi := { dst := some 120, op := Op.indexAddr 22 (Operand.tmp 118) (Operand.tmp 119), type := 0, pos := "law.go:291", after := #[{ on := 0, ground := Ground.data }, { on := 1, ground := Ground.data }], guard := none }) (v := ?vv3) rfl (by kernel_rfl) (by kernel_rfl) (by kernel_rfl) (fun _ _ _ h => h) (Or.inl ⟨by rfl, ?hyy3⟩) (by assumption) ?rest3
                case hyy3 => ((intro w hSw); (try dsimp only at hSw); go_simp; (try with_reducible rfl))
                try simp only [Act.put, List.setIfInBounds_toArray, List.set_cons_zero, List.set_cons_succ]
                refine wpAnyH_take (i := 3) (oi := { dst := some 121, op := Op.fieldAddr 36 (Operand.tmp 120) 0, type := 0, pos := "law.go:291", after := #[{ on := 2, ground := Ground.data }], guard := none }) (v := ?vv4) rfl (by kernel_rfl) (by kernel_rfl) (by kernel_rfl) (fun _ _ _ h => h) (Or.inl ⟨by rfl, ?hyy4⟩) (by assumption) ?rest4
                case hyy4 => ((intro w hSw); (try dsimp only at hSw); go_simp; (try with_reducible rfl))
                try simp only [Act.put, List.setIfInBounds_toArray, List.set_cons_zero, List.set_cons_succ]
                refine wpAnyH_take (i := 4) (oi := { dst := some 122, op := Op.load 3 (Operand.tmp 121), type := 3, pos := "law.go:291", after := #[{ on := 3, ground := Ground.data }], guard := none }) (v := ?vv5) rfl (by kernel_rfl) (by kernel_rfl) (by kernel_rfl) (fun _ _ _ h => h) (Or.inl ⟨by rfl, ?hyy5⟩) (by assumption) ?rest5
                case hyy5 => ((intro w hSw); (try dsimp only at hSw); go_simp; (try with_reducible rfl))
                try simp only [Act.put, List.setIfInBounds_toArray, List.set_cons_zero, List.set_cons_succ]
                refine wpAnyH_take (i := 5) (oi := { dst := some 123, op := Op.binOp BinOp.neq 3 (Operand.tmp 122) (Operand.const (Value.int IntKind.i64 0)) 3, type := 4, pos := "law.go:291", after := #[{ on := 4, ground := Ground.data }], guard := none }) (v := ?vv6) rfl (by kernel_rfl) (by kernel_rfl) (by kernel_rfl) (fun _ _ _ h => h) (Or.inl ⟨by rfl, ?hyy6⟩) (by assumption) ?rest6
                case hyy6 => ((intro w hSw); (try dsimp only at hSw); go_simp; (try with_reducible rfl))
                try simp only [Act.put, List.setIfInBounds_toArray, List.set_cons_zero, List.set_cons_succ]
                refine wpAnyH_take (i := 6) (oi := { dst := some 124, op := Op.move (Operand.tmp 123), type := 4, pos := "law.go:291", after := #[{ on := 5, ground := Ground.data }], guard := none }) (v := ?vv7) rfl (by kernel_rfl) (by kernel_rfl) (by kernel_rfl) (fun _ _ _ h => h) (Or.inl ⟨by rfl, ?hyy7⟩) (by assumption) ?rest7
                case hyy7 => ((intro w hSw); (try dsimp only at hSw); go_simp; (try with_reducible rfl))
                try simp only [Act.put, List.setIfInBounds_toArray, List.set_cons_zero, List.set_cons_succ]
                refine wpAnyH_take (i := 7) (oi := { dst := some 125, op := Op.move (Operand.tmp 14), type := 4, pos := "law.go:291", after := #[{ on := 6, ground := Ground.guard }], guard := some (6, false) }) (v := ?vv8) rfl (by kernel_rfl) (by kernel_rfl) (by kernel_rfl) (fun _ _ _ h => h) (Or.inl ⟨by rfl, ?hyy8⟩) (by assumption) ?rest8
                case hyy8 => ((intro w hSw); (try dsimp only at hSw); go_simp; (try with_reducible rfl))
                try simp only [Act.put, List.setIfInBounds_toArray, List.set_cons_zero, List.set_cons_succ]
                refine wpAnyH_take (i := 8) (oi := { dst := some 126, op := Op.unOp UnOp.not 4 (Operand.tmp 125), type := 4, pos := "law.go:291", after := #[{ on := 7, ground := Ground.data }, { on := 6, ground := Ground.guard }], guard := some (6, false) }) (v := ?vv9) rfl (by kernel_rfl) (by kernel_rfl) (by kernel_rfl) (fun _ _ _ h => h) (Or.inl ⟨by rfl, ?hyy9⟩) (by assumption) ?rest9
                case hyy9 => ((intro w hSw); (try dsimp only at hSw); go_simp; (try with_reducible rfl))
                try simp only [Act.put, List.setIfInBounds_toArray, List.set_cons_zero, List.set_cons_succ]
                refine wpAnyH_take (i := 9) (oi := { dst := some 127, op := Op.pick (Operand.tmp 124) (Operand.const (Value.bool true)) (Operand.tmp 126), type := 4, pos := "law.go:291", after := #[{ on := 6, ground := Ground.data }, { on := 8, ground := Ground.data }], guard := none }) (v := ?vv10) rfl (by kernel_rfl) (by kernel_rfl) (by kernel_rfl) (fun _ _ _ h => h) (Or.inl ⟨by rfl, ?hyy10⟩) (by assumption) ?rest10
                case hyy10 => ((intro w hSw); (try dsimp only at hSw); go_simp; (try with_reducible rfl))
                try simp only [Act.put, List.setIfInBounds_toArray, List.set_cons_zero, List.set_cons_succ]
                refine wpAnyH_take (i := 10) (oi := { dst := some 128, op := Op.move (Operand.tmp 127), type := 4, pos := "law.go:291", after := #[{ on := 9, ground := Ground.data }, { on := 6, ground := Ground.chain }], guard := none }) (v := ?vv11) rfl (by kernel_rfl) (by kernel_rfl) (by kernel_rfl) (fun _ _ _ h => h) (Or.inl ⟨by rfl, ?hyy11⟩) (by assumption) ?rest11
                case hyy11 => ((intro w hSw); (try dsimp only at hSw); go_simp; (try with_reducible rfl))
                try simp only [Act.put, List.setIfInBounds_toArray, List.set_cons_zero, List.set_cons_succ]
                refine wpAnyH_take (i := 11) (oi := { dst := some 129, op := Op.move (Operand.tmp 0), type := 22, pos := "law.go:291", after := #[{ on := 10, ground := Ground.guard }], guard := some (10, false) }) (v := ?vv12) rfl (by kernel_rfl) (by kernel_rfl) (by kernel_rfl) (fun _ _ _ h => h) (Or.inl ⟨by rfl, ?hyy12⟩) (by assumption) ?rest12
                case hyy12 => ((intro w hSw); (try dsimp only at hSw); go_simp; (try with_reducible rfl))
                try simp only [Act.put, List.setIfInBounds_toArray, List.set_cons_zero, List.set_cons_succ]
                refine wpAnyH_take (i := 12) (oi := { dst := some 130, op := Op.move (Operand.tmp 6), type := 3, pos := "law.go:291", after := #[{ on := 10, ground := Ground.guard }], guard := some (10, false) }) (v := ?vv13) rfl (by kernel_rfl) (by kernel_rfl) (by kernel_rfl) (fun _ _ _ h => h) (Or.inl ⟨by rfl, ?hyy13⟩) (by assumption) ?rest13
                case hyy13 => ((intro w hSw); (try dsimp only at hSw); go_simp; (try with_reducible rfl))
                try simp only [Act.put, List.setIfInBounds_toArray, List.set_cons_zero, List.set_cons_succ]
                refine wpAnyH_take (i := 13) (oi := { dst := some 131, op := Op.indexAddr 22 (Operand.tmp 129) (Operand.tmp 130), type := 0, pos := "law.go:291", after := #[{ on := 11, ground := Ground.data }, { on := 12, ground := Ground.data }, { on := 10, ground := Ground.guard }], guard := some (10, false) }) (v := ?vv14) rfl (by kernel_rfl) (by kernel_rfl) (by kernel_rfl) (fun _ _ _ h => h) (Or.inl ⟨by rfl, ?hyy14⟩) (by assumption) ?rest14
                case hyy14 => ((intro w hSw); (try dsimp only at hSw); go_simp; (try with_reducible rfl))
                try simp only [Act.put, List.setIfInBounds_toArray, List.set_cons_zero, List.set_cons_succ]
                refine wpAnyH_take (i := 14) (oi := { dst := some 132, op := Op.fieldAddr 36 (Operand.tmp 131) 1, type := 0, pos := "law.go:291", after := #[{ on := 13, ground := Ground.data }, { on := 10, ground := Ground.guard }], guard := some (10, false) }) (v := ?vv15) rfl (by kernel_rfl) (by kernel_rfl) (by kernel_rfl) (fun _ _ _ h => h) (Or.inl ⟨by rfl, ?hyy15⟩) (by assumption) ?rest15
                case hyy15 => ((intro w hSw); (try dsimp only at hSw); go_simp; (try with_reducible rfl))
                try simp only [Act.put, List.setIfInBounds_toArray, List.set_cons_zero, List.set_cons_succ]
                refine wpAnyH_take (i := 15) (oi := { dst := some 133, op := Op.load 34 (Operand.tmp 132), type := 34, pos := "law.go:291", after := #[{ on := 14, ground := Ground.data }, { on := 10, ground := Ground.guard }], guard := some (10, false) }) (v := ?vv16) rfl (by kernel_rfl) (by kernel_rfl) (by kernel_rfl) (fun _ _ _ h => h) (Or.inl ⟨by rfl, ?hyy16⟩) (by assumption) ?rest16
                case hyy16 => ((intro w hSw); (try dsimp only at hSw); go_simp; (try with_reducible rfl))
                try simp only [Act.put, List.setIfInBounds_toArray, List.set_cons_zero, List.set_cons_succ]
                refine wpAnyH_take (i := 16) (oi := { dst := some 134, op := Op.move (Operand.tmp 12), type := 26, pos := "law.go:291", after := #[{ on := 10, ground := Ground.guard }], guard := some (10, false) }) (v := ?vv17) rfl (by kernel_rfl) (by kernel_rfl) (by kernel_rfl) (fun _ _ _ h => h) (Or.inl ⟨by rfl, ?hyy17⟩) (by assumption) ?rest17
                case hyy17 => ((intro w hSw); (try dsimp only at hSw); go_simp; (try with_reducible rfl))
                try simp only [Act.put, List.setIfInBounds_toArray, List.set_cons_zero, List.set_cons_succ]
                refine wpAnyH_take (i := 17) (oi := { dst := some 135, op := Op.move (Operand.tmp 13), type := 3, pos := "law.go:291", after := #[{ on := 10, ground := Ground.guard }], guard := some (10, false) }) (v := ?vv18) rfl (by kernel_rfl) (by kernel_rfl) (by kernel_rfl) (fun _ _ _ h => h) (Or.inl ⟨by rfl, ?hyy18⟩) (by assumption) ?rest18
                case hyy18 => ((intro w hSw); (try dsimp only at hSw); go_simp; (try with_reducible rfl))
                try simp only [Act.put, List.setIfInBounds_toArray, List.set_cons_zero, List.set_cons_succ]
                refine wpAnyH_take (i := 18) (oi := { dst := some 136, op := Op.indexAddr 26 (Operand.tmp 134) (Operand.tmp 135), type := 0, pos := "law.go:291", after := #[{ on := 16, ground := Ground.data }, { on := 17, ground := Ground.data }, { on := 10, ground := Ground.guard }], guard := some (10, false) }) (v := ?vv19) rfl (by kernel_rfl) (by kernel_rfl) (by kernel_rfl) (fun _ _ _ h => h) (Or.inl ⟨by rfl, ?hyy19⟩) (by assumption) ?rest19
                case hyy19 => ((intro w hSw); (try dsimp only at hSw); go_simp; (try with_reducible rfl))
                try simp only [Act.put, List.setIfInBounds_toArray, List.set_cons_zero, List.set_cons_succ]
                refine wpAnyH_take (i := 19) (oi := { dst := some 137, op := Op.load 34 (Operand.tmp 136), type := 34, pos := "law.go:291", after := #[{ on := 18, ground := Ground.data }, { on := 10, ground := Ground.guard }], guard := some (10, false) }) (v := ?vv20) rfl (by kernel_rfl) (by kernel_rfl) (by kernel_rfl) (fun _ _ _ h => h) (Or.inl ⟨by rfl, ?hyy20⟩) (by assumption) ?rest20
                case hyy20 => ((intro w hSw); (try dsimp only at hSw); go_simp; (try with_reducible rfl))
                try simp only [Act.put, List.setIfInBounds_toArray, List.set_cons_zero, List.set_cons_succ]
                refine wpAnyH_ready (rs := [20]) (by kernel_rfl) (by simp) ?_
                refine AllReadyH.cons (o := { dst := some 138, op := Op.call { callee := Callee.value (Operand.func 13), args := #[Operand.tmp 133, Operand.tmp 137], argTypes := #[34, 34] }, type := 4, pos := "law.go:291", after := #[{ on := 15, ground := Ground.data }, { on := 19, ground := Ground.data }, { on := 10, ground := Ground.chain }, { on := 10, ground := Ground.guard }], guard := some (10, false) }) rfl (fun K hK => ?_) ?_
                ·
                  go_simp
                  go_at_call 13
                  refine (HOL.out _).mono ?_
                  rintro e w9 ⟨rfl, hb_⟩
                  have hc9 : Below wr.heap.size wr w9 := hD.trans (hb_.mono hD.size)
                  clear hb_
                  go_wp2_with fail
                  refine hK.out _ _ (by with_reducible exact hS.out _ hc9) (fun hHeld => ?_)
                  clear hK K
                  try simp only [Act.put, List.setIfInBounds_toArray, List.set_cons_zero, List.set_cons_succ]
                  refine wpAnyH_take (i := 21) (oi := { dst := some 139, op := Op.unOp UnOp.not 4 (Operand.tmp 138), type := 4, pos := "law.go:291", after := #[{ on := 20, ground := Ground.data }, { on := 10, ground := Ground.guard }], guard := some (10, false) }) (v := ?vv21) rfl (by kernel_rfl) (by kernel_rfl) (by kernel_rfl) (fun _ _ _ h => h) (Or.inl ⟨by rfl, ?hyy21⟩) (by assumption) ?rest21
                  case hyy21 => ((intro w hSw); (try dsimp only at hSw); go_simp; (try with_reducible rfl))
                  try simp only [Act.put, List.setIfInBounds_toArray, List.set_cons_zero, List.set_cons_succ]
                  refine wpAnyH_take (i := 22) (oi := { dst := some 140, op := Op.pick (Operand.tmp 128) (Operand.const (Value.bool true)) (Operand.tmp 139), type := 4, pos := "law.go:291", after := #[{ on := 10, ground := Ground.data }, { on := 21, ground := Ground.data }], guard := none }) (v := ?vv22) rfl (by kernel_rfl) (by kernel_rfl) (by kernel_rfl) (fun _ _ _ h => h) (Or.inl ⟨by rfl, ?hyy22⟩) (by assumption) ?rest22
                  case hyy22 => ((intro w hSw); (try dsimp only at hSw); go_simp; (try with_reducible rfl))
                  try simp only [Act.put, List.setIfInBounds_toArray, List.set_cons_zero, List.set_cons_succ]
                  refine wpAnyH_take (i := 23) (oi := { dst := some 141, op := Op.move (Operand.tmp 140), type := 4, pos := "law.go:291", after := #[{ on := 22, ground := Ground.data }, { on := 20, ground := Ground.chain }], guard := none }) (v := ?vv23) rfl (by kernel_rfl) (by kernel_rfl) (by kernel_rfl) (fun _ _ _ h => h) (Or.inl ⟨by rfl, ?hyy23⟩) (by assumption) ?rest23
                  case hyy23 => ((intro w hSw); (try dsimp only at hSw); go_simp; (try with_reducible rfl))
                  try simp only [Act.put, List.setIfInBounds_toArray, List.set_cons_zero, List.set_cons_succ]
                  refine wpAnyH_take (i := 24) (oi := { dst := some 142, op := Op.move (Operand.tmp 10), type := 26, pos := "law.go:291", after := #[{ on := 23, ground := Ground.guard }], guard := some (23, false) }) (v := ?vv24) rfl (by kernel_rfl) (by kernel_rfl) (by kernel_rfl) (fun _ _ _ h => h) (Or.inl ⟨by rfl, ?hyy24⟩) (by assumption) ?rest24
                  case hyy24 => ((intro w hSw); (try dsimp only at hSw); go_simp; (try with_reducible rfl))
                  try simp only [Act.put, List.setIfInBounds_toArray, List.set_cons_zero, List.set_cons_succ]
                  refine wpAnyH_take (i := 25) (oi := { dst := some 143, op := Op.move (Operand.tmp 12), type := 26, pos := "law.go:291", after := #[{ on := 23, ground := Ground.guard }], guard := some (23, false) }) (v := ?vv25) rfl (by kernel_rfl) (by kernel_rfl) (by kernel_rfl) (fun _ _ _ h => h) (Or.inl ⟨by rfl, ?hyy25⟩) (by assumption) ?rest25
                  case hyy25 => ((intro w hSw); (try dsimp only at hSw); go_simp; (try with_reducible rfl))
                  try simp only [Act.put, List.setIfInBounds_toArray, List.set_cons_zero, List.set_cons_succ]
                  refine wpAnyH_take (i := 26) (oi := { dst := some 144, op := Op.move (Operand.tmp 13), type := 3, pos := "law.go:291", after := #[{ on := 23, ground := Ground.guard }], guard := some (23, false) }) (v := ?vv26) rfl (by kernel_rfl) (by kernel_rfl) (by kernel_rfl) (fun _ _ _ h => h) (Or.inl ⟨by rfl, ?hyy26⟩) (by assumption) ?rest26
                  case hyy26 => ((intro w hSw); (try dsimp only at hSw); go_simp; (try with_reducible rfl))
                  try simp only [Act.put, List.setIfInBounds_toArray, List.set_cons_zero, List.set_cons_succ]
                  refine wpAnyH_take (i := 27) (oi := { dst := some 145, op := Op.indexAddr 26 (Operand.tmp 143) (Operand.tmp 144), type := 0, pos := "law.go:291", after := #[{ on := 25, ground := Ground.data }, { on := 26, ground := Ground.data }, { on := 23, ground := Ground.guard }], guard := some (23, false) }) (v := ?vv27) rfl (by kernel_rfl) (by kernel_rfl) (by kernel_rfl) (fun _ _ _ h => h) (Or.inl ⟨by rfl, ?hyy27⟩) (by assumption) ?rest27
                  case hyy27 => ((intro w hSw); (try dsimp only at hSw); go_simp; (try with_reducible rfl))
                  try simp only [Act.put, List.setIfInBounds_toArray, List.set_cons_zero, List.set_cons_succ]
                  refine wpAnyH_take (i := 28) (oi := { dst := some 146, op := Op.load 34 (Operand.tmp 145), type := 34, pos := "law.go:291", after := #[{ on := 27, ground := Ground.data }, { on := 23, ground := Ground.guard }], guard := some (23, false) }) (v := ?vv28) rfl (by kernel_rfl) (by kernel_rfl) (by kernel_rfl) (fun _ _ _ h => h) (Or.inl ⟨by rfl, ?hyy28⟩) (by assumption) ?rest28
                  case hyy28 => ((intro w hSw); (try dsimp only at hSw); go_simp; (try with_reducible rfl))
                  try simp only [Act.put, List.setIfInBounds_toArray, List.set_cons_zero, List.set_cons_succ]
                  refine wpAnyH_ready (rs := [29]) (by kernel_rfl) (by simp) ?_
                  refine AllReadyH.cons (o := { dst := some 147, op := Op.call { callee := Callee.value (Operand.func 11), args := #[Operand.tmp 142, Operand.tmp 146], argTypes := #[26, 34] }, type := 4, pos := "law.go:291", after := #[{ on := 24, ground := Ground.data }, { on := 28, ground := Ground.data }, { on := 23, ground := Ground.chain }, { on := 23, ground := Ground.guard }], guard := some (23, false) }) rfl (fun K hK => ?_) ?_
                  ·
                    go_simp
                    go_at_call 11
                    refine (HHA.out _ (HBR.out.trans (hc9.mono HBR.out.size))).mono ?_
                    rintro e w10 ⟨rfl, hb_⟩
                    have hc10 : Below wr.heap.size wr w10 := hc9.trans (hb_.mono hc9.size)
                    clear hb_
                    go_wp2_with fail
                    refine hK.out _ _ (by with_reducible exact hS.out _ hc10) (fun hHeld => ?_)
                    clear hK K
                    try simp only [Act.put, List.setIfInBounds_toArray, List.set_cons_zero, List.set_cons_succ]
                    refine wpAnyH_take (i := 30) (oi := { dst := some 148, op := Op.unOp UnOp.not 4 (Operand.tmp 147), type := 4, pos := "law.go:291", after := #[{ on := 29, ground := Ground.data }, { on := 23, ground := Ground.guard }], guard := some (23, false) }) (v := ?vv29) rfl (by kernel_rfl) (by kernel_rfl) (by kernel_rfl) (fun _ _ _ h => h) (Or.inl ⟨by rfl, ?hyy29⟩) (by assumption) ?rest29
                    case hyy29 => ((intro w hSw); (try dsimp only at hSw); go_simp; (try with_reducible rfl))
                    try simp only [Act.put, List.setIfInBounds_toArray, List.set_cons_zero, List.set_cons_succ]
                    refine wpAnyH_take (i := 31) (oi := { dst := some 149, op := Op.pick (Operand.tmp 141) (Operand.const (Value.bool true)) (Operand.tmp 148), type := 4, pos := "law.go:291", after := #[{ on := 23, ground := Ground.data }, { on := 30, ground := Ground.data }], guard := none }) (v := ?vv30) rfl (by kernel_rfl) (by kernel_rfl) (by kernel_rfl) (fun _ _ _ h => h) (Or.inl ⟨by rfl, ?hyy30⟩) (by assumption) ?rest30
                    case hyy30 => ((intro w hSw); (try dsimp only at hSw); go_simp; (try with_reducible rfl))
                    try simp only [Act.put, List.setIfInBounds_toArray, List.set_cons_zero, List.set_cons_succ]
                    refine wpAnyH_done (by kernel_rfl) ?_ _
                    go_wp2
                    go_roundw
                    case rel => exact ⟨k + 1, by go_num, by omega, HBR.out.trans (hc10.mono HBR.out.size)⟩
                    case measure => simp [intOf]; omega
                  exact AllReadyH.nil
                exact AllReadyH.nil
        · have kU2 : ¬ (k : Int) < (q'.hurt.length : Int) := by omega
          go_wp2
          go_roundw
          case rel => exact ⟨kk + 1, q', m', by go_num, by omega, HX5.out.below HBR.out, HS4.out, HQ2.out, by rw [HQ2.out]; exact HQ1.out⟩
          case measure => simp [intOf]; omega
    · have hz : decide (kk < os.length) = false ∨ (decide (kk < os.length) = true ∧ decide ((kk : Int) < 100) = false) := by
        by_cases h1 : kk < os.length
        · exact .inr ⟨decide_eq_true (by omega), decide_eq_false (by omega)⟩
        · exact .inl (decide_eq_false (by omega))
      clear hgo
      have hfh := HX.out.tb.fh
      have hul := HS.out.hurt
      have HAN : Hid ((askT q ⟨key, ⟨1, 0⟩, 2⟩).held.length + (askT q ⟨key, ⟨1, 0⟩, 2⟩).wait.length ≤ 1000) := Lib.hid (by have := HS.out.ask ⟨key, ⟨1, 0⟩, 2⟩; omega)
      go_upto_region 5 with fail
      go_cut [32] (fun s wx => s = .bool false ∧ wx = wr)
      case first =>
        rcases hz with z1 | ⟨z1, z2⟩
        all_goals
          go_wp2
          go_meet
          exact ⟨rfl, rfl⟩
      case rest =>
        obtain ⟨rfl, hw⟩ := hcut
        subst hw
        go_upto_region 21 with fail
        by_cases s1 : (key.size : Int) < 1
        · go_wp2
          go_ret
          exact ⟨rfl, HX.out.bel⟩
        by_cases s2 : (32 : Int) < (key.size : Int)
        · go_wp2
          go_ret
          exact ⟨rfl, HX.out.bel⟩
        have HH := Lib.hid (held_any HX.out.tb)
        go_wp2_with fail
        refine HH.out.mono ?_
        clear HH
        rintro e w2 ⟨Ah, ch, rfl, ho, hb, hf⟩
        have HX2 := Lib.hid (HX.out.below hb)
        clear ho hb hf
        have HH := Lib.hid (waiting_any HX2.out.tb)
        go_wp2_with fail
        refine HH.out.mono ?_
        clear HH
        rintro e w3 ⟨Aw, cw, rfl, ho, hb, hf⟩
        have HX3 := Lib.hid (HX2.out.below hb)
        clear ho hb hf HX2 HX
        by_cases s3 : (59 : Int) ≤ (q.held.length : Int) + (q.wait.length : Int)
        · go_wp2
          go_ret
          exact ⟨rfl, HX3.out.bel⟩
        go_upto_region 24 with fail
        have k1 := Blk.new w3 34 #[.int .i64 1, .int .i64 0]
        have HB := Lib.hid (below_alloc w3 (.cells #[.int .i64 1, .int .i64 0] 34))
        obtain ⟨w4, hw2⟩ : ∃ w4, w4 = (w3.alloc (.cells #[.int .i64 1, .int .i64 0] 34)) := ⟨_, rfl⟩
        obtain ⟨p1, hp1⟩ : ∃ p1, p1 = w3.heap.size := ⟨_, rfl⟩
        rw [← hw2] at HB k1
        rw [← hp1] at k1
        rw [← hw2]
        rw [← hp1]
        have HP1 : Hid (w3.heap.size ≤ p1) := Lib.hid (by rw [hp1]; exact Nat.le_refl _)
        clear hw2 hp1
        have HK4 := Lib.hid k1
        have HX5 := Lib.hid ((HX3.out.fresh (T' := [p1]) HB.out (fun k hk => by rw [List.mem_singleton.1 hk]; exact ⟨HP1.out, k1.lt⟩)).less (T' := [p1]) (by simp))
        have x0 : w4.cell? ⟨p1, 0, none⟩ = some (.int .i64 1) := k1.cell 0
        have x1 : w4.cell? ⟨p1, 1, none⟩ = some (.int .i64 0) := k1.cell 1
        have HF := Lib.hid (first_ask (key := key) HS.out.inv (by omega) (by omega) (by rw [HM1.out]; omega))
        have HC : Hid (Calls Try.prog 15 #[.pointer (some ⟨d, 0, none⟩), .agg #[.int .i64 1, .int .i64 0], .string key, .int .i64 2] w4 (AskEnds d q m ⟨key, ⟨1, 0⟩, 2⟩ w4)) := Lib.hid (ask_any HX5.out.tb ⟨key, ⟨1, 0⟩, 2⟩ (by omega) HAN.out)
        clear k1 HB HX3
        go_wp2_with fail
        refine HC.out.mono ?_
        clear HC x0 x1
        rintro e w5 ⟨A5, c5, rfl, _, _, m5, ht, hmv, _⟩
        have HX6 := Lib.hid (HX5.out.step ht hmv)
        have HK6 := Lib.hid (hmv.kept.blk HK4.out (HX5.out.ap p1 (by simp)))
        obtain ⟨E, hE⟩ : ∃ E, E = askE q ⟨key, ⟨1, 0⟩, 2⟩ := ⟨_, rfl⟩
        obtain ⟨q5, hq5⟩ : ∃ q5, q5 = askT q ⟨key, ⟨1, 0⟩, 2⟩ := ⟨_, rfl⟩
        rw [← hE, ← hq5] at HF
        rw [← hE]
        rw [← hq5] at HX6
        clear hE hq5 ht hmv HX5 HK4
        rcases HF.out with ⟨hF, hE0⟩ | hE0
        rotate_left
        · rcases hE0 with hE0 | hE0
          all_goals
            subst hE0
            clear HF
            go_wp2
            go_ret
            exact ⟨rfl, HX6.out.bel⟩
        have HX7 := Lib.hid HX6.out
        have HK7 := Lib.hid HK6.out
        have HF7 := Lib.hid hF
        clear hF HX6 HK6 HF HAN HS HM1 HM2
        go_upto_region 25 with fail
        go_cut [181] (fun s wx => s = .bool false ∧ wx = w5)
        case first =>
          rcases hE0 with hE0 | hE0
          · have zE1 : decide (E = 0) = true := decide_eq_true hE0
            have zE2 : (E == 0) = true := by rw [hE0]; rfl
            have zE3 : (E != 0) = false := by rw [hE0]; rfl
            clear hE0
            go_wp2
            go_meet
            exact ⟨rfl, rfl⟩
          · have zE1 : decide (E = 0) = false := decide_eq_false (by omega)
            have zE2 : (E == 0) = false := by rw [hE0]; rfl
            have zE3 : (E != 0) = true := by rw [hE0]; rfl
            have zE4 : decide (E = 150) = true := decide_eq_true hE0
            have zE5 : (E == 150) = true := by rw [hE0]; rfl
            have zE6 : (E != 150) = false := by rw [hE0]; rfl
            clear hE0
            go_wp2
            go_meet
            exact ⟨rfl, rfl⟩
        case rest =>
          clear hE0
          obtain ⟨rfl, hw⟩ := hcut
          subst hw
          go_wp2
          go_loopw [19] (FiRel W d p1 key) (fun i _ => 100 - (intOf i).toNat)
          case atStart => exact ⟨0, q5, m5, rfl, HX7.out, HK7.out, HF7.out, .inl rfl⟩
          case round =>
            clear HX7 HK7 HF7
            obtain ⟨i, q, m, rfl, hx, hbk, hF, hcase⟩ := hrel
            have HX := Lib.hid hx
            have HF := Lib.hid hF
            have HK := Lib.hid hbk
            have x0 : wr.cell? ⟨p1, 0, none⟩ = some (.int .i64 1) := hbk.cell 0
            have x1 : wr.cell? ⟨p1, 1, none⟩ = some (.int .i64 0) := hbk.cell 1
            have iU : (i : Int) < 100 := by rcases hcase with h | ⟨h, _⟩ <;> omega
            have iL : (0 : Int) ≤ (i : Int) := by omega
            have HMD : Hid (Calls Try.prog 16 #[.pointer (some ⟨d, 0, none⟩), .agg #[.int .i64 1, .int .i64 0], .string key] wr (IntIs (modeI q ⟨1, 0⟩ key) wr)) := Lib.hid (mode_any HX.out.tb ⟨1, 0⟩ key)
            clear hx hbk hF
            by_cases hm : modeI q ⟨1, 0⟩ key = 2
            · rw [hm] at HMD
              clear hcase hm
              go_wp2_with fail
              refine HMD.out.mono ?_
              clear HMD x0 x1
              rintro e w8 ⟨rfl, hb8⟩
              have HX8 := Lib.hid (HX.out.below hb8)
              have HK8 := Lib.hid (HK.out.below hb8 HK.out.lt)
              clear hb8 HX HK
              have hS : Hid (∀ w', Below w8.heap.size w8 w' → (w'.cell? ⟨p1, 0, none⟩ = some (.int .i64 1) ∧ w'.cell? ⟨p1, 1, none⟩ = some (.int .i64 0))) := Lib.hid (fun w' hb => ⟨(HK8.out.below hb HK8.out.lt).cell 0, (HK8.out.below hb HK8.out.lt).cell 1⟩)
              have hD : Below w8.heap.size w8 w8.drew := below_drewN (Below.refl _ _) 1
              have hul := HX8.out.tb.fm.2
              have HNH := Lib.hid (hasI_no.2 HF.out.free)
              go_wp2_with fail
              refine wp_region_held_drew (S := fun w' => w'.cell? ⟨p1, 0, none⟩ = some (.int .i64 1) ∧ w'.cell? ⟨p1, 1, none⟩ = some (.int .i64 0)) (by kernel_rfl) (by with_reducible exact hS.out _ hD) (fun hHeld => ?_)
              refine wpAnyH_take (i := 0) (oi := { dst := some 197, op := Op.move (Operand.tmp 5), type := 24, pos := "law.go:306", after := #[], guard := none }) (v := ?vv131) rfl (by kernel_rfl) (by kernel_rfl) (by kernel_rfl) (fun _ _ _ h => h) (Or.inl ⟨by rfl, ?hyy131⟩) (by assumption) ?rest131
              case hyy131 => ((intro w hSw); (try dsimp only at hSw); go_simp; (try with_reducible rfl))
              try simp only [Act.put, List.setIfInBounds_toArray, List.set_cons_zero, List.set_cons_succ]
              refine wpAnyH_take (i := 2) (oi := { dst := some 199, op := Op.load 34 (Operand.tmp 16), type := 34, pos := "law.go:306", after := #[], guard := none }) (v := ?vv132) rfl (by kernel_rfl) (by kernel_rfl) (by kernel_rfl) (fun _ _ _ h => h) (Or.inl ⟨by rfl, ?hyy132⟩) (by assumption) ?rest132
              case hyy132 => ((intro w hSw); (try dsimp only at hSw); go_simp; (try with_reducible rfl))
              try simp only [Act.put, List.setIfInBounds_toArray, List.set_cons_zero, List.set_cons_succ]
              refine wpAnyH_ready (rs := [1]) (by kernel_rfl) (by simp) ?_
              refine AllReadyH.cons (o := { dst := some 198, op := Op.call { callee := Callee.value (Operand.func 8), args := #[Operand.tmp 197], argTypes := #[24] }, type := 26, pos := "law.go:306", after := #[{ on := 0, ground := Ground.data }], guard := none }) rfl (fun K hK => ?_) ?_
              ·
                go_simp
                go_at_call 8
                refine (wounded_any (HX8.out.tb.below hD)).mono ?_
                rintro e w9 ⟨Aw9, cw9, rfl, ho9, hb9, _⟩
                have hc9 : Below w8.heap.size w8 w9 := hD.trans (hb9.mono hD.size)
                have HR9 := Lib.hid (Reads.of_own ho9)
                clear ho9 hb9
                go_wp2_with fail
                refine hK.out _ _ (by with_reducible exact hS.out _ hc9) (fun hHeld => ?_)
                clear hK K
                try simp only [Act.put, List.setIfInBounds_toArray, List.set_cons_zero, List.set_cons_succ]
                refine wpAnyH_ready (rs := [3]) (by kernel_rfl) (by simp) ?_
                refine AllReadyH.cons (o := { dst := some 200, op := Op.call { callee := Callee.value (Operand.func 11), args := #[Operand.tmp 198, Operand.tmp 199], argTypes := #[26, 34] }, type := 4, pos := "law.go:306", after := #[{ on := 1, ground := Ground.data }, { on := 2, ground := Ground.data }, { on := 1, ground := Ground.chain }], guard := none }) rfl (fun K hK => ?_) ?_
                ·
                  go_simp
                  go_at_call 11
                  refine (has_any Aw9 cw9 q.hurt ⟨1, 0⟩ w9 HR9.out (by omega)).mono ?_
                  rintro e w10 ⟨he, hb10⟩
                  rw [HNH.out] at he
                  subst he
                  have hc10 : Below w8.heap.size w8 w10 := hc9.trans (hb10.mono hc9.size)
                  clear hb10
                  go_wp2_with fail
                  refine hK.out _ _ (by with_reducible exact hS.out _ hc10) (fun hHeld => ?_)
                  clear hK K
                  try simp only [Act.put, List.setIfInBounds_toArray, List.set_cons_zero, List.set_cons_succ]
                  refine wpAnyH_take (i := 4) (oi := { dst := some 201, op := Op.unOp UnOp.not 4 (Operand.tmp 200), type := 4, pos := "law.go:306", after := #[{ on := 3, ground := Ground.data }], guard := none }) (v := ?vv133) rfl (by kernel_rfl) (by kernel_rfl) (by kernel_rfl) (fun _ _ _ h => h) (Or.inl ⟨by rfl, ?hyy133⟩) (by assumption) ?rest133
                  case hyy133 => ((intro w hSw); (try dsimp only at hSw); go_simp; (try with_reducible rfl))
                  try simp only [Act.put, List.setIfInBounds_toArray, List.set_cons_zero, List.set_cons_succ]
                  refine wpAnyH_take (i := 5) (oi := { dst := some 4, op := Op.assign (Operand.tmp 201), type := 4, pos := "law.go:306", after := #[{ on := 4, ground := Ground.data }, { on := 3, ground := Ground.chain }, { on := 0, ground := Ground.phase }, { on := 1, ground := Ground.phase }, { on := 2, ground := Ground.phase }, { on := 3, ground := Ground.phase }, { on := 4, ground := Ground.phase }], guard := none }) (v := ?vv134) rfl (by kernel_rfl) (by kernel_rfl) (by kernel_rfl) (fun _ _ _ h => h) (Or.inl ⟨by rfl, ?hyy134⟩) (by assumption) ?rest134
                  case hyy134 => ((intro w hSw); (try dsimp only at hSw); go_simp; (try with_reducible rfl))
                  try simp only [Act.put, List.setIfInBounds_toArray, List.set_cons_zero, List.set_cons_succ]
                  refine wpAnyH_done (by kernel_rfl) ?_ _
                  go_wp2
                  go_ret
                  exact ⟨rfl, HX8.out.bel.trans (hc10.mono HX8.out.bel.size)⟩
                exact AllReadyH.nil
              exact AllReadyH.nil
            · have hi0 : i = 0 := by rcases hcase with h | ⟨_, h⟩
                                     · exact h
                                     · exact absurd h hm
              obtain ⟨M, hM⟩ : ∃ M, M = modeI q ⟨1, 0⟩ key := ⟨_, rfl⟩
              rw [← hM] at HMD hm
              have zd : decide (M = 2) = false := decide_eq_false hm
              have zb : (M == 2) = false := by simpa using hm
              have HI0 := Lib.hid hi0
              clear hcase hi0 hM
              go_wp2_with fail
              refine HMD.out.mono ?_
              clear HMD x0 x1
              rintro e w8 ⟨rfl, hb8⟩
              have HX8 := Lib.hid (HX.out.below hb8)
              have HK8 := Lib.hid (HK.out.below hb8 HK.out.lt)
              clear hb8 HX HK
              have HH := Lib.hid (held_any HX8.out.tb)
              go_wp2_with fail
              refine HH.out.mono ?_
              clear HH
              rintro e w9 ⟨Ah, ch, rfl, ho, hb, hf⟩
              have HX9 := Lib.hid (HX8.out.fresh (T' := ob Ah) hb (fun k hk => ⟨hf k hk, own_lt ho k hk⟩))
              have HK9 := Lib.hid (HK8.out.below hb HK8.out.lt)
              have HO9 := Lib.hid ho
              have hfh := HX8.out.tb.fh
              have HW9 := Lib.hid (way_start key q)
              obtain ⟨L, hL⟩ : ∃ L, L = q.held := ⟨_, rfl⟩
              rw [← hL] at HO9 HW9 hfh
              rw [← hL]
              clear ho hb hf HX8 HK8 hL zd zb hm
              go_wp2
              go_loopw [21] (FjRel W d p1 key L Ah ch) (fun s _ => L.length - (intOf s).toNat)
              case atStart => exact ⟨0, q, m, rfl, Nat.zero_le _, HX9.out, HK9.out, HF.out, HO9.out, HW9.out⟩
              case round =>
                clear HX9 HK9 HF HO9 HW9
                obtain ⟨k, q', m', rfl, hk, hx, hbk, hF, ho, hw⟩ := hrel
                have HXJ := Lib.hid hx
                have HKJ := Lib.hid hbk
                have HFJ := Lib.hid hF
                have HOJ := Lib.hid ho
                have HWJ := Lib.hid hw
                clear hx hbk hF ho hw
                by_cases hlt : k < L.length
                · obtain ⟨gh, oh, rfl, hch⟩ := rowL (Reads.of_own HOJ.out) (by omega)
                  have hcy := hch k hlt
                  have HGY : Hid (L[k]? = some (gr lkR L k)) := Lib.hid (gr_get hlt)
                  obtain ⟨y, hyy⟩ : ∃ y, y = gr lkR L k := ⟨_, rfl⟩
                  rw [← hyy] at hcy HGY
                  have HCY := Lib.hid hcy
                  have kL : (0 : Int) ≤ (k : Int) := by omega
                  have kU2 : (k : Int) < (L.length : Int) := by omega
                  have hS : Hid (∀ w', Below wr.heap.size wr w' → (w'.cell? ⟨gh, oh + k * 4, none⟩ = some (.string y.key) ∧ w'.cell? ⟨gh, oh + k * 4 + 1, none⟩ = some (.int .i64 y.id.n) ∧ w'.cell? ⟨gh, oh + k * 4 + 2, none⟩ = some (.int .i64 y.id.c) ∧ w'.cell? ⟨gh, oh + k * 4 + 3, none⟩ = some (.int .i64 y.mode) ∧ w'.cell? ⟨p1, 0, none⟩ = some (.int .i64 1) ∧ w'.cell? ⟨p1, 1, none⟩ = some (.int .i64 0))) := Lib.hid (fun w' hb => by
                    obtain ⟨a0, a1, a2, a3⟩ := HCY.out w' hb
                    exact ⟨a0, a1, a2, a3, (HKJ.out.below hb HKJ.out.lt).cell 0, (HKJ.out.below hb HKJ.out.lt).cell 1⟩)
                  have hD : Below wr.heap.size wr wr.drew := below_drewN (Below.refl _ _) 1
                  have he : ∀ w, (binOp .neq 34 (.agg #[.int .i64 y.id.n, .int .i64 y.id.c]) (.agg #[.int .i64 1, .int .i64 0])).run Try.prog w = .ok (.bool (!eqI y.id ⟨1, 0⟩)) w := run_neI y.id ⟨1, 0⟩
                  clear hch hcy hyy
                  cases hky : (y.key.toList == key.toList) with
                  | false =>
                    have HNO : Hid (¬ (y.key = key ∧ y.id ≠ ⟨1, 0⟩)) := Lib.hid (fun h => by rw [h.1] at hky; simp at hky)
                    clear he
                    go_wp2_with fail
                    refine wp_region_held_drew (S := fun w' => w'.cell? ⟨gh, oh + k * 4, none⟩ = some (.string y.key) ∧ w'.cell? ⟨gh, oh + k * 4 + 1, none⟩ = some (.int .i64 y.id.n) ∧ w'.cell? ⟨gh, oh + k * 4 + 2, none⟩ = some (.int .i64 y.id.c) ∧ w'.cell? ⟨gh, oh + k * 4 + 3, none⟩ = some (.int .i64 y.mode) ∧ w'.cell? ⟨p1, 0, none⟩ = some (.int .i64 1) ∧ w'.cell? ⟨p1, 1, none⟩ = some (.int .i64 0)) (by kernel_rfl) (by with_reducible exact hS.out _ hD) (fun hHeld => ?_)
                    refine wpAnyH_take (i := 0) (oi := { dst := some 210, op := Op.move (Operand.tmp 20), type := 28, pos := "law.go:310", after := #[], guard := none }) (v := ?vv135) rfl (by kernel_rfl) (by kernel_rfl) (by kernel_rfl) (fun _ _ _ h => h) (Or.inl ⟨by rfl, ?hyy135⟩) (by assumption) ?rest135
                    case hyy135 => ((intro w hSw); (try dsimp only at hSw); go_simp; (try with_reducible rfl))
                    try simp only [Act.put, List.setIfInBounds_toArray, List.set_cons_zero, List.set_cons_succ]
                    refine wpAnyH_take (i := 1) (oi := { dst := some 211, op := Op.move (Operand.tmp 21), type := 3, pos := "law.go:310", after := #[], guard := none }) (v := ?vv136) rfl (by kernel_rfl) (by kernel_rfl) (by kernel_rfl) (fun _ _ _ h => h) (Or.inl ⟨by rfl, ?hyy136⟩) (by assumption) ?rest136
                    case hyy136 => ((intro w hSw); (try dsimp only at hSw); go_simp; (try with_reducible rfl))
                    try simp only [Act.put, List.setIfInBounds_toArray, List.set_cons_zero, List.set_cons_succ]
                    refine wpAnyH_take (i := 2) (oi := { dst := some 212, op := Op.indexAddr 28 (Operand.tmp 210) (Operand.tmp 211), type := 0, pos := "law.go:310", after := #[{ on := 0, ground := Ground.data }, { on := 1, ground := Ground.data }], guard := none }) (v := ?vv137) rfl (by kernel_rfl) (by kernel_rfl) (by kernel_rfl) (fun _ _ _ h => h) (Or.inl ⟨by rfl, ?hyy137⟩) (by assumption) ?rest137
                    case hyy137 => ((intro w hSw); (try dsimp only at hSw); go_simp; (try with_reducible rfl))
                    try simp only [Act.put, List.setIfInBounds_toArray, List.set_cons_zero, List.set_cons_succ]
                    refine wpAnyH_take (i := 3) (oi := { dst := some 213, op := Op.fieldAddr 39 (Operand.tmp 212) 0, type := 0, pos := "law.go:310", after := #[{ on := 2, ground := Ground.data }], guard := none }) (v := ?vv138) rfl (by kernel_rfl) (by kernel_rfl) (by kernel_rfl) (fun _ _ _ h => h) (Or.inl ⟨by rfl, ?hyy138⟩) (by assumption) ?rest138
                    case hyy138 => ((intro w hSw); (try dsimp only at hSw); go_simp; (try with_reducible rfl))
                    try simp only [Act.put, List.setIfInBounds_toArray, List.set_cons_zero, List.set_cons_succ]
                    refine wpAnyH_take (i := 4) (oi := { dst := some 214, op := Op.load 9 (Operand.tmp 213), type := 9, pos := "law.go:310", after := #[{ on := 3, ground := Ground.data }], guard := none }) (v := ?vv139) rfl (by kernel_rfl) (by kernel_rfl) (by kernel_rfl) (fun _ _ _ h => h) (Or.inl ⟨by rfl, ?hyy139⟩) (by assumption) ?rest139
                    case hyy139 => ((intro w hSw); (try dsimp only at hSw); go_simp; (try with_reducible rfl))
                    try simp only [Act.put, List.setIfInBounds_toArray, List.set_cons_zero, List.set_cons_succ]
                    refine wpAnyH_take (i := 5) (oi := { dst := some 215, op := Op.move (Operand.tmp 1), type := 9, pos := "law.go:310", after := #[], guard := none }) (v := ?vv140) rfl (by kernel_rfl) (by kernel_rfl) (by kernel_rfl) (fun _ _ _ h => h) (Or.inl ⟨by rfl, ?hyy140⟩) (by assumption) ?rest140
                    case hyy140 => ((intro w hSw); (try dsimp only at hSw); go_simp; (try with_reducible rfl))
                    try simp only [Act.put, List.setIfInBounds_toArray, List.set_cons_zero, List.set_cons_succ]
                    refine wpAnyH_take (i := 6) (oi := { dst := some 216, op := Op.binOp BinOp.eql 9 (Operand.tmp 214) (Operand.tmp 215) 9, type := 4, pos := "law.go:310", after := #[{ on := 4, ground := Ground.data }, { on := 5, ground := Ground.data }], guard := none }) (v := ?vv141) rfl (by kernel_rfl) (by kernel_rfl) (by kernel_rfl) (fun _ _ _ h => h) (Or.inl ⟨by rfl, ?hyy141⟩) (by assumption) ?rest141
                    case hyy141 => ((intro w hSw); (try dsimp only at hSw); go_simp; (try with_reducible rfl))
                    try simp only [Act.put, List.setIfInBounds_toArray, List.set_cons_zero, List.set_cons_succ]
                    refine wpAnyH_take (i := 7) (oi := { dst := some 217, op := Op.move (Operand.tmp 216), type := 4, pos := "law.go:310", after := #[{ on := 6, ground := Ground.data }], guard := none }) (v := ?vv142) rfl (by kernel_rfl) (by kernel_rfl) (by kernel_rfl) (fun _ _ _ h => h) (Or.inl ⟨by rfl, ?hyy142⟩) (by assumption) ?rest142
                    case hyy142 => ((intro w hSw); (try dsimp only at hSw); go_simp; (try with_reducible rfl))
                    try simp only [Act.put, List.setIfInBounds_toArray, List.set_cons_zero, List.set_cons_succ]
                    refine wpAnyH_take (i := 8) (oi := { dst := some 218, op := Op.move (Operand.tmp 20), type := 28, pos := "law.go:310", after := #[{ on := 7, ground := Ground.guard }], guard := some (7, true) }) (v := undef) rfl (by kernel_rfl) (by kernel_rfl) (by kernel_rfl) (fun _ _ _ h => h) (Or.inr ⟨by rfl, rfl⟩) (by assumption) ?_
                    try simp only [Act.put, List.setIfInBounds_toArray, List.set_cons_zero, List.set_cons_succ]
                    refine wpAnyH_take (i := 9) (oi := { dst := some 219, op := Op.move (Operand.tmp 21), type := 3, pos := "law.go:310", after := #[{ on := 7, ground := Ground.guard }], guard := some (7, true) }) (v := undef) rfl (by kernel_rfl) (by kernel_rfl) (by kernel_rfl) (fun _ _ _ h => h) (Or.inr ⟨by rfl, rfl⟩) (by assumption) ?_
                    try simp only [Act.put, List.setIfInBounds_toArray, List.set_cons_zero, List.set_cons_succ]
                    refine wpAnyH_take (i := 10) (oi := { dst := some 220, op := Op.indexAddr 28 (Operand.tmp 218) (Operand.tmp 219), type := 0, pos := "law.go:310", after := #[{ on := 8, ground := Ground.data }, { on := 9, ground := Ground.data }, { on := 7, ground := Ground.guard }], guard := some (7, true) }) (v := undef) rfl (by kernel_rfl) (by kernel_rfl) (by kernel_rfl) (fun _ _ _ h => h) (Or.inr ⟨by rfl, rfl⟩) (by assumption) ?_
                    try simp only [Act.put, List.setIfInBounds_toArray, List.set_cons_zero, List.set_cons_succ]
                    refine wpAnyH_take (i := 11) (oi := { dst := some 221, op := Op.fieldAddr 39 (Operand.tmp 220) 1, type := 0, pos := "law.go:310", after := #[{ on := 10, ground := Ground.data }, { on := 7, ground := Ground.guard }], guard := some (7, true) }) (v := undef) rfl (by kernel_rfl) (by kernel_rfl) (by kernel_rfl) (fun _ _ _ h => h) (Or.inr ⟨by rfl, rfl⟩) (by assumption) ?_
                    try simp only [Act.put, List.setIfInBounds_toArray, List.set_cons_zero, List.set_cons_succ]
                    refine wpAnyH_take (i := 12) (oi := { dst := some 222, op := Op.load 34 (Operand.tmp 221), type := 34, pos := "law.go:310", after := #[{ on := 11, ground := Ground.data }, { on := 7, ground := Ground.guard }], guard := some (7, true) }) (v := undef) rfl (by kernel_rfl) (by kernel_rfl) (by kernel_rfl) (fun _ _ _ h => h) (Or.inr ⟨by rfl, rfl⟩) (by assumption) ?_
                    try simp only [Act.put, List.setIfInBounds_toArray, List.set_cons_zero, List.set_cons_succ]
                    refine wpAnyH_take (i := 13) (oi := { dst := some 223, op := Op.load 34 (Operand.tmp 16), type := 34, pos := "law.go:310", after := #[{ on := 7, ground := Ground.guard }], guard := some (7, true) }) (v := undef) rfl (by kernel_rfl) (by kernel_rfl) (by kernel_rfl) (fun _ _ _ h => h) (Or.inr ⟨by rfl, rfl⟩) (by assumption) ?_
                    try simp only [Act.put, List.setIfInBounds_toArray, List.set_cons_zero, List.set_cons_succ]
                    refine wpAnyH_take (i := 14) (oi := { dst := some 224, op := Op.binOp BinOp.neq 34 (Operand.tmp 222) (Operand.tmp 223) 34, type := 4, pos := "law.go:310", after := #[{ on := 12, ground := Ground.data }, { on := 13, ground := Ground.data }, { on := 7, ground := Ground.guard }], guard := some (7, true) }) (v := undef) rfl (by kernel_rfl) (by kernel_rfl) (by kernel_rfl) (fun _ _ _ h => h) (Or.inr ⟨by rfl, rfl⟩) (by assumption) ?_
                    try simp only [Act.put, List.setIfInBounds_toArray, List.set_cons_zero, List.set_cons_succ]
                    refine wpAnyH_take (i := 15) (oi := { dst := some 225, op := Op.pick (Operand.tmp 217) (Operand.tmp 224) (Operand.const (Value.bool false)), type := 4, pos := "law.go:310", after := #[{ on := 7, ground := Ground.data }, { on := 14, ground := Ground.data }], guard := none }) (v := ?vv143) rfl (by kernel_rfl) (by kernel_rfl) (by kernel_rfl) (fun _ _ _ h => h) (Or.inl ⟨by rfl, ?hyy143⟩) (by assumption) ?rest143
                    case hyy143 => ((intro w hSw); (try dsimp only at hSw); go_simp; (try with_reducible rfl))
                    try simp only [Act.put, List.setIfInBounds_toArray, List.set_cons_zero, List.set_cons_succ]
                    refine wpAnyH_done (by kernel_rfl) ?_ _
                    go_wp2
                    go_roundw
                    case rel => exact ⟨k + 1, q', m', by go_num, by omega, HXJ.out.below hD, HKJ.out.below hD HKJ.out.lt, HFJ.out, own_below HOJ.out hD, way_skip HGY.out HWJ.out HNO.out⟩
                    case measure => simp [intOf]; omega
                  | true =>
                    cases hq : eqI y.id ⟨1, 0⟩ with
                    | true =>
                      rw [hq] at he
                      have HNO : Hid (¬ (y.key = key ∧ y.id ≠ ⟨1, 0⟩)) := Lib.hid (fun h => h.2 (eqI_iff.1 hq))
                      clear hq
                      go_wp2_with fail
                      refine wp_region_held_drew (S := fun w' => w'.cell? ⟨gh, oh + k * 4, none⟩ = some (.string y.key) ∧ w'.cell? ⟨gh, oh + k * 4 + 1, none⟩ = some (.int .i64 y.id.n) ∧ w'.cell? ⟨gh, oh + k * 4 + 2, none⟩ = some (.int .i64 y.id.c) ∧ w'.cell? ⟨gh, oh + k * 4 + 3, none⟩ = some (.int .i64 y.mode) ∧ w'.cell? ⟨p1, 0, none⟩ = some (.int .i64 1) ∧ w'.cell? ⟨p1, 1, none⟩ = some (.int .i64 0)) (by kernel_rfl) (by with_reducible exact hS.out _ hD) (fun hHeld => ?_)
                      refine wpAnyH_take (i := 0) (oi := { dst := some 210, op := Op.move (Operand.tmp 20), type := 28, pos := "law.go:310", after := #[], guard := none }) (v := ?vv144) rfl (by kernel_rfl) (by kernel_rfl) (by kernel_rfl) (fun _ _ _ h => h) (Or.inl ⟨by rfl, ?hyy144⟩) (by assumption) ?rest144
                      case hyy144 => ((intro w hSw); (try dsimp only at hSw); go_simp; (try with_reducible rfl))
                      try simp only [Act.put, List.setIfInBounds_toArray, List.set_cons_zero, List.set_cons_succ]
                      refine wpAnyH_take (i := 1) (oi := { dst := some 211, op := Op.move (Operand.tmp 21), type := 3, pos := "law.go:310", after := #[], guard := none }) (v := ?vv145) rfl (by kernel_rfl) (by kernel_rfl) (by kernel_rfl) (fun _ _ _ h => h) (Or.inl ⟨by rfl, ?hyy145⟩) (by assumption) ?rest145
                      case hyy145 => ((intro w hSw); (try dsimp only at hSw); go_simp; (try with_reducible rfl))
                      try simp only [Act.put, List.setIfInBounds_toArray, List.set_cons_zero, List.set_cons_succ]
                      refine wpAnyH_take (i := 2) (oi := { dst := some 212, op := Op.indexAddr 28 (Operand.tmp 210) (Operand.tmp 211), type := 0, pos := "law.go:310", after := #[{ on := 0, ground := Ground.data }, { on := 1, ground := Ground.data }], guard := none }) (v := ?vv146) rfl (by kernel_rfl) (by kernel_rfl) (by kernel_rfl) (fun _ _ _ h => h) (Or.inl ⟨by rfl, ?hyy146⟩) (by assumption) ?rest146
                      case hyy146 => ((intro w hSw); (try dsimp only at hSw); go_simp; (try with_reducible rfl))
                      try simp only [Act.put, List.setIfInBounds_toArray, List.set_cons_zero, List.set_cons_succ]
                      refine wpAnyH_take (i := 3) (oi := { dst := some 213, op := Op.fieldAddr 39 (Operand.tmp 212) 0, type := 0, pos := "law.go:310", after := #[{ on := 2, ground := Ground.data }], guard := none }) (v := ?vv147) rfl (by kernel_rfl) (by kernel_rfl) (by kernel_rfl) (fun _ _ _ h => h) (Or.inl ⟨by rfl, ?hyy147⟩) (by assumption) ?rest147
                      case hyy147 => ((intro w hSw); (try dsimp only at hSw); go_simp; (try with_reducible rfl))
                      try simp only [Act.put, List.setIfInBounds_toArray, List.set_cons_zero, List.set_cons_succ]
                      refine wpAnyH_take (i := 4) (oi := { dst := some 214, op := Op.load 9 (Operand.tmp 213), type := 9, pos := "law.go:310", after := #[{ on := 3, ground := Ground.data }], guard := none }) (v := ?vv148) rfl (by kernel_rfl) (by kernel_rfl) (by kernel_rfl) (fun _ _ _ h => h) (Or.inl ⟨by rfl, ?hyy148⟩) (by assumption) ?rest148
                      case hyy148 => ((intro w hSw); (try dsimp only at hSw); go_simp; (try with_reducible rfl))
                      try simp only [Act.put, List.setIfInBounds_toArray, List.set_cons_zero, List.set_cons_succ]
                      refine wpAnyH_take (i := 5) (oi := { dst := some 215, op := Op.move (Operand.tmp 1), type := 9, pos := "law.go:310", after := #[], guard := none }) (v := ?vv149) rfl (by kernel_rfl) (by kernel_rfl) (by kernel_rfl) (fun _ _ _ h => h) (Or.inl ⟨by rfl, ?hyy149⟩) (by assumption) ?rest149
                      case hyy149 => ((intro w hSw); (try dsimp only at hSw); go_simp; (try with_reducible rfl))
                      try simp only [Act.put, List.setIfInBounds_toArray, List.set_cons_zero, List.set_cons_succ]
                      refine wpAnyH_take (i := 6) (oi := { dst := some 216, op := Op.binOp BinOp.eql 9 (Operand.tmp 214) (Operand.tmp 215) 9, type := 4, pos := "law.go:310", after := #[{ on := 4, ground := Ground.data }, { on := 5, ground := Ground.data }], guard := none }) (v := ?vv150) rfl (by kernel_rfl) (by kernel_rfl) (by kernel_rfl) (fun _ _ _ h => h) (Or.inl ⟨by rfl, ?hyy150⟩) (by assumption) ?rest150
                      case hyy150 => ((intro w hSw); (try dsimp only at hSw); go_simp; (try with_reducible rfl))
                      try simp only [Act.put, List.setIfInBounds_toArray, List.set_cons_zero, List.set_cons_succ]
                      refine wpAnyH_take (i := 7) (oi := { dst := some 217, op := Op.move (Operand.tmp 216), type := 4, pos := "law.go:310", after := #[{ on := 6, ground := Ground.data }], guard := none }) (v := ?vv151) rfl (by kernel_rfl) (by kernel_rfl) (by kernel_rfl) (fun _ _ _ h => h) (Or.inl ⟨by rfl, ?hyy151⟩) (by assumption) ?rest151
                      case hyy151 => ((intro w hSw); (try dsimp only at hSw); go_simp; (try with_reducible rfl))
                      try simp only [Act.put, List.setIfInBounds_toArray, List.set_cons_zero, List.set_cons_succ]
                      refine wpAnyH_take (i := 8) (oi := { dst := some 218, op := Op.move (Operand.tmp 20), type := 28, pos := "law.go:310", after := #[{ on := 7, ground := Ground.guard }], guard := some (7, true) }) (v := ?vv152) rfl (by kernel_rfl) (by kernel_rfl) (by kernel_rfl) (fun _ _ _ h => h) (Or.inl ⟨by rfl, ?hyy152⟩) (by assumption) ?rest152
                      case hyy152 => ((intro w hSw); (try dsimp only at hSw); go_simp; (try with_reducible rfl))
                      try simp only [Act.put, List.setIfInBounds_toArray, List.set_cons_zero, List.set_cons_succ]
                      refine wpAnyH_take (i := 9) (oi := { dst := some 219, op := Op.move (Operand.tmp 21), type := 3, pos := "law.go:310", after := #[{ on := 7, ground := Ground.guard }], guard := some (7, true) }) (v := ?vv153) rfl (by kernel_rfl) (by kernel_rfl) (by kernel_rfl) (fun _ _ _ h => h) (Or.inl ⟨by rfl, ?hyy153⟩) (by assumption) ?rest153
                      case hyy153 => ((intro w hSw); (try dsimp only at hSw); go_simp; (try with_reducible rfl))
                      try simp only [Act.put, List.setIfInBounds_toArray, List.set_cons_zero, List.set_cons_succ]
                      refine wpAnyH_take (i := 10) (oi := { dst := some 220, op := Op.indexAddr 28 (Operand.tmp 218) (Operand.tmp 219), type := 0, pos := "law.go:310", after := #[{ on := 8, ground := Ground.data }, { on := 9, ground := Ground.data }, { on := 7, ground := Ground.guard }], guard := some (7, true) }) (v := ?vv154) rfl (by kernel_rfl) (by kernel_rfl) (by kernel_rfl) (fun _ _ _ h => h) (Or.inl ⟨by rfl, ?hyy154⟩) (by assumption) ?rest154
                      case hyy154 => ((intro w hSw); (try dsimp only at hSw); go_simp; (try with_reducible rfl))
                      try simp only [Act.put, List.setIfInBounds_toArray, List.set_cons_zero, List.set_cons_succ]
                      refine wpAnyH_take (i := 11) (oi := { dst := some 221, op := Op.fieldAddr 39 (Operand.tmp 220) 1, type := 0, pos := "law.go:310", after := #[{ on := 10, ground := Ground.data }, { on := 7, ground := Ground.guard }], guard := some (7, true) }) (v := ?vv155) rfl (by kernel_rfl) (by kernel_rfl) (by kernel_rfl) (fun _ _ _ h => h) (Or.inl ⟨by rfl, ?hyy155⟩) (by assumption) ?rest155
                      case hyy155 => ((intro w hSw); (try dsimp only at hSw); go_simp; (try with_reducible rfl))
                      try simp only [Act.put, List.setIfInBounds_toArray, List.set_cons_zero, List.set_cons_succ]
                      refine wpAnyH_take (i := 12) (oi := { dst := some 222, op := Op.load 34 (Operand.tmp 221), type := 34, pos := "law.go:310", after := #[{ on := 11, ground := Ground.data }, { on := 7, ground := Ground.guard }], guard := some (7, true) }) (v := ?vv156) rfl (by kernel_rfl) (by kernel_rfl) (by kernel_rfl) (fun _ _ _ h => h) (Or.inl ⟨by rfl, ?hyy156⟩) (by assumption) ?rest156
                      case hyy156 => ((intro w hSw); (try dsimp only at hSw); go_simp; (try with_reducible rfl))
                      try simp only [Act.put, List.setIfInBounds_toArray, List.set_cons_zero, List.set_cons_succ]
                      refine wpAnyH_take (i := 13) (oi := { dst := some 223, op := Op.load 34 (Operand.tmp 16), type := 34, pos := "law.go:310", after := #[{ on := 7, ground := Ground.guard }], guard := some (7, true) }) (v := ?vv157) rfl (by kernel_rfl) (by kernel_rfl) (by kernel_rfl) (fun _ _ _ h => h) (Or.inl ⟨by rfl, ?hyy157⟩) (by assumption) ?rest157
                      case hyy157 => ((intro w hSw); (try dsimp only at hSw); go_simp; (try with_reducible rfl))
                      try simp only [Act.put, List.setIfInBounds_toArray, List.set_cons_zero, List.set_cons_succ]
                      refine wpAnyH_take (i := 14) (oi := { dst := some 224, op := Op.binOp BinOp.neq 34 (Operand.tmp 222) (Operand.tmp 223) 34, type := 4, pos := "law.go:310", after := #[{ on := 12, ground := Ground.data }, { on := 13, ground := Ground.data }, { on := 7, ground := Ground.guard }], guard := some (7, true) }) (v := ?vv158) rfl (by kernel_rfl) (by kernel_rfl) (by kernel_rfl) (fun _ _ _ h => h) (Or.inl ⟨by rfl, ?hyy158⟩) (by assumption) ?rest158
                      case hyy158 => ((intro w hSw); (try dsimp only at hSw); go_simp; (try with_reducible rfl))
                      try simp only [Act.put, List.setIfInBounds_toArray, List.set_cons_zero, List.set_cons_succ]
                      refine wpAnyH_take (i := 15) (oi := { dst := some 225, op := Op.pick (Operand.tmp 217) (Operand.tmp 224) (Operand.const (Value.bool false)), type := 4, pos := "law.go:310", after := #[{ on := 7, ground := Ground.data }, { on := 14, ground := Ground.data }], guard := none }) (v := ?vv159) rfl (by kernel_rfl) (by kernel_rfl) (by kernel_rfl) (fun _ _ _ h => h) (Or.inl ⟨by rfl, ?hyy159⟩) (by assumption) ?rest159
                      case hyy159 => ((intro w hSw); (try dsimp only at hSw); go_simp; (try with_reducible rfl))
                      try simp only [Act.put, List.setIfInBounds_toArray, List.set_cons_zero, List.set_cons_succ]
                      refine wpAnyH_done (by kernel_rfl) ?_ _
                      go_wp2
                      go_roundw
                      case rel => exact ⟨k + 1, q', m', by go_num, by omega, HXJ.out.below hD, HKJ.out.below hD HKJ.out.lt, HFJ.out, own_below HOJ.out hD, way_skip HGY.out HWJ.out HNO.out⟩
                      case measure => simp [intOf]; omega
                    | false =>
                      rw [hq] at he
                      have HNO : Hid (y.id ≠ ⟨1, 0⟩) := Lib.hid (fun h => by rw [eqI_iff.2 h] at hq; cases hq)
                      clear hq
                      go_wp2_with fail
                      refine wp_region_held_drew (S := fun w' => w'.cell? ⟨gh, oh + k * 4, none⟩ = some (.string y.key) ∧ w'.cell? ⟨gh, oh + k * 4 + 1, none⟩ = some (.int .i64 y.id.n) ∧ w'.cell? ⟨gh, oh + k * 4 + 2, none⟩ = some (.int .i64 y.id.c) ∧ w'.cell? ⟨gh, oh + k * 4 + 3, none⟩ = some (.int .i64 y.mode) ∧ w'.cell? ⟨p1, 0, none⟩ = some (.int .i64 1) ∧ w'.cell? ⟨p1, 1, none⟩ = some (.int .i64 0)) (by kernel_rfl) (by with_reducible exact hS.out _ hD) (fun hHeld => ?_)
                      refine wpAnyH_take (i := 0) (oi := { dst := some 210, op := Op.move (Operand.tmp 20), type := 28, pos := "law.go:310", after := #[], guard := none }) (v := ?vv160) rfl (by kernel_rfl) (by kernel_rfl) (by kernel_rfl) (fun _ _ _ h => h) (Or.inl ⟨by rfl, ?hyy160⟩) (by assumption) ?rest160
                      case hyy160 => ((intro w hSw); (try dsimp only at hSw); go_simp; (try with_reducible rfl))
                      try simp only [Act.put, List.setIfInBounds_toArray, List.set_cons_zero, List.set_cons_succ]
                      refine wpAnyH_take (i := 1) (oi := { dst := some 211, op := Op.move (Operand.tmp 21), type := 3, pos := "law.go:310", after := #[], guard := none }) (v := ?vv161) rfl (by kernel_rfl) (by kernel_rfl) (by kernel_rfl) (fun _ _ _ h => h) (Or.inl ⟨by rfl, ?hyy161⟩) (by assumption) ?rest161
                      case hyy161 => ((intro w hSw); (try dsimp only at hSw); go_simp; (try with_reducible rfl))
                      try simp only [Act.put, List.setIfInBounds_toArray, List.set_cons_zero, List.set_cons_succ]
                      refine wpAnyH_take (i := 2) (oi := { dst := some 212, op := Op.indexAddr 28 (Operand.tmp 210) (Operand.tmp 211), type := 0, pos := "law.go:310", after := #[{ on := 0, ground := Ground.data }, { on := 1, ground := Ground.data }], guard := none }) (v := ?vv162) rfl (by kernel_rfl) (by kernel_rfl) (by kernel_rfl) (fun _ _ _ h => h) (Or.inl ⟨by rfl, ?hyy162⟩) (by assumption) ?rest162
                      case hyy162 => ((intro w hSw); (try dsimp only at hSw); go_simp; (try with_reducible rfl))
                      try simp only [Act.put, List.setIfInBounds_toArray, List.set_cons_zero, List.set_cons_succ]
                      refine wpAnyH_take (i := 3) (oi := { dst := some 213, op := Op.fieldAddr 39 (Operand.tmp 212) 0, type := 0, pos := "law.go:310", after := #[{ on := 2, ground := Ground.data }], guard := none }) (v := ?vv163) rfl (by kernel_rfl) (by kernel_rfl) (by kernel_rfl) (fun _ _ _ h => h) (Or.inl ⟨by rfl, ?hyy163⟩) (by assumption) ?rest163
                      case hyy163 => ((intro w hSw); (try dsimp only at hSw); go_simp; (try with_reducible rfl))
                      try simp only [Act.put, List.setIfInBounds_toArray, List.set_cons_zero, List.set_cons_succ]
                      refine wpAnyH_take (i := 4) (oi := { dst := some 214, op := Op.load 9 (Operand.tmp 213), type := 9, pos := "law.go:310", after := #[{ on := 3, ground := Ground.data }], guard := none }) (v := ?vv164) rfl (by kernel_rfl) (by kernel_rfl) (by kernel_rfl) (fun _ _ _ h => h) (Or.inl ⟨by rfl, ?hyy164⟩) (by assumption) ?rest164
                      case hyy164 => ((intro w hSw); (try dsimp only at hSw); go_simp; (try with_reducible rfl))
                      try simp only [Act.put, List.setIfInBounds_toArray, List.set_cons_zero, List.set_cons_succ]
                      refine wpAnyH_take (i := 5) (oi := { dst := some 215, op := Op.move (Operand.tmp 1), type := 9, pos := "law.go:310", after := #[], guard := none }) (v := ?vv165) rfl (by kernel_rfl) (by kernel_rfl) (by kernel_rfl) (fun _ _ _ h => h) (Or.inl ⟨by rfl, ?hyy165⟩) (by assumption) ?rest165
                      case hyy165 => ((intro w hSw); (try dsimp only at hSw); go_simp; (try with_reducible rfl))
                      try simp only [Act.put, List.setIfInBounds_toArray, List.set_cons_zero, List.set_cons_succ]
                      refine wpAnyH_take (i := 6) (oi := { dst := some 216, op := Op.binOp BinOp.eql 9 (Operand.tmp 214) (Operand.tmp 215) 9, type := 4, pos := "law.go:310", after := #[{ on := 4, ground := Ground.data }, { on := 5, ground := Ground.data }], guard := none }) (v := ?vv166) rfl (by kernel_rfl) (by kernel_rfl) (by kernel_rfl) (fun _ _ _ h => h) (Or.inl ⟨by rfl, ?hyy166⟩) (by assumption) ?rest166
                      case hyy166 => ((intro w hSw); (try dsimp only at hSw); go_simp; (try with_reducible rfl))
                      try simp only [Act.put, List.setIfInBounds_toArray, List.set_cons_zero, List.set_cons_succ]
                      refine wpAnyH_take (i := 7) (oi := { dst := some 217, op := Op.move (Operand.tmp 216), type := 4, pos := "law.go:310", after := #[{ on := 6, ground := Ground.data }], guard := none }) (v := ?vv167) rfl (by kernel_rfl) (by kernel_rfl) (by kernel_rfl) (fun _ _ _ h => h) (Or.inl ⟨by rfl, ?hyy167⟩) (by assumption) ?rest167
                      case hyy167 => ((intro w hSw); (try dsimp only at hSw); go_simp; (try with_reducible rfl))
                      try simp only [Act.put, List.setIfInBounds_toArray, List.set_cons_zero, List.set_cons_succ]
                      refine wpAnyH_take (i := 8) (oi := { dst := some 218, op := Op.move (Operand.tmp 20), type := 28, pos := "law.go:310", after := #[{ on := 7, ground := Ground.guard }], guard := some (7, true) }) (v := ?vv168) rfl (by kernel_rfl) (by kernel_rfl) (by kernel_rfl) (fun _ _ _ h => h) (Or.inl ⟨by rfl, ?hyy168⟩) (by assumption) ?rest168
                      case hyy168 => ((intro w hSw); (try dsimp only at hSw); go_simp; (try with_reducible rfl))
                      try simp only [Act.put, List.setIfInBounds_toArray, List.set_cons_zero, List.set_cons_succ]
                      refine wpAnyH_take (i := 9) (oi := { dst := some 219, op := Op.move (Operand.tmp 21), type := 3, pos := "law.go:310", after := #[{ on := 7, ground := Ground.guard }], guard := some (7, true) }) (v := ?vv169) rfl (by kernel_rfl) (by kernel_rfl) (by kernel_rfl) (fun _ _ _ h => h) (Or.inl ⟨by rfl, ?hyy169⟩) (by assumption) ?rest169
                      case hyy169 => ((intro w hSw); (try dsimp only at hSw); go_simp; (try with_reducible rfl))
                      try simp only [Act.put, List.setIfInBounds_toArray, List.set_cons_zero, List.set_cons_succ]
                      refine wpAnyH_take (i := 10) (oi := { dst := some 220, op := Op.indexAddr 28 (Operand.tmp 218) (Operand.tmp 219), type := 0, pos := "law.go:310", after := #[{ on := 8, ground := Ground.data }, { on := 9, ground := Ground.data }, { on := 7, ground := Ground.guard }], guard := some (7, true) }) (v := ?vv170) rfl (by kernel_rfl) (by kernel_rfl) (by kernel_rfl) (fun _ _ _ h => h) (Or.inl ⟨by rfl, ?hyy170⟩) (by assumption) ?rest170
                      case hyy170 => ((intro w hSw); (try dsimp only at hSw); go_simp; (try with_reducible rfl))
                      try simp only [Act.put, List.setIfInBounds_toArray, List.set_cons_zero, List.set_cons_succ]
                      refine wpAnyH_take (i := 11) (oi := { dst := some 221, op := Op.fieldAddr 39 (Operand.tmp 220) 1, type := 0, pos := "law.go:310", after := #[{ on := 10, ground := Ground.data }, { on := 7, ground := Ground.guard }], guard := some (7, true) }) (v := ?vv171) rfl (by kernel_rfl) (by kernel_rfl) (by kernel_rfl) (fun _ _ _ h => h) (Or.inl ⟨by rfl, ?hyy171⟩) (by assumption) ?rest171
                      case hyy171 => ((intro w hSw); (try dsimp only at hSw); go_simp; (try with_reducible rfl))
                      try simp only [Act.put, List.setIfInBounds_toArray, List.set_cons_zero, List.set_cons_succ]
                      refine wpAnyH_take (i := 12) (oi := { dst := some 222, op := Op.load 34 (Operand.tmp 221), type := 34, pos := "law.go:310", after := #[{ on := 11, ground := Ground.data }, { on := 7, ground := Ground.guard }], guard := some (7, true) }) (v := ?vv172) rfl (by kernel_rfl) (by kernel_rfl) (by kernel_rfl) (fun _ _ _ h => h) (Or.inl ⟨by rfl, ?hyy172⟩) (by assumption) ?rest172
                      case hyy172 => ((intro w hSw); (try dsimp only at hSw); go_simp; (try with_reducible rfl))
                      try simp only [Act.put, List.setIfInBounds_toArray, List.set_cons_zero, List.set_cons_succ]
                      refine wpAnyH_take (i := 13) (oi := { dst := some 223, op := Op.load 34 (Operand.tmp 16), type := 34, pos := "law.go:310", after := #[{ on := 7, ground := Ground.guard }], guard := some (7, true) }) (v := ?vv173) rfl (by kernel_rfl) (by kernel_rfl) (by kernel_rfl) (fun _ _ _ h => h) (Or.inl ⟨by rfl, ?hyy173⟩) (by assumption) ?rest173
                      case hyy173 => ((intro w hSw); (try dsimp only at hSw); go_simp; (try with_reducible rfl))
                      try simp only [Act.put, List.setIfInBounds_toArray, List.set_cons_zero, List.set_cons_succ]
                      refine wpAnyH_take (i := 14) (oi := { dst := some 224, op := Op.binOp BinOp.neq 34 (Operand.tmp 222) (Operand.tmp 223) 34, type := 4, pos := "law.go:310", after := #[{ on := 12, ground := Ground.data }, { on := 13, ground := Ground.data }, { on := 7, ground := Ground.guard }], guard := some (7, true) }) (v := ?vv174) rfl (by kernel_rfl) (by kernel_rfl) (by kernel_rfl) (fun _ _ _ h => h) (Or.inl ⟨by rfl, ?hyy174⟩) (by assumption) ?rest174
                      case hyy174 => ((intro w hSw); (try dsimp only at hSw); go_simp; (try with_reducible rfl))
                      try simp only [Act.put, List.setIfInBounds_toArray, List.set_cons_zero, List.set_cons_succ]
                      refine wpAnyH_take (i := 15) (oi := { dst := some 225, op := Op.pick (Operand.tmp 217) (Operand.tmp 224) (Operand.const (Value.bool false)), type := 4, pos := "law.go:310", after := #[{ on := 7, ground := Ground.data }, { on := 14, ground := Ground.data }], guard := none }) (v := ?vv175) rfl (by kernel_rfl) (by kernel_rfl) (by kernel_rfl) (fun _ _ _ h => h) (Or.inl ⟨by rfl, ?hyy175⟩) (by assumption) ?rest175
                      case hyy175 => ((intro w hSw); (try dsimp only at hSw); go_simp; (try with_reducible rfl))
                      try simp only [Act.put, List.setIfInBounds_toArray, List.set_cons_zero, List.set_cons_succ]
                      refine wpAnyH_done (by kernel_rfl) ?_ _
                      have HCE : Hid (Calls Try.prog 17 #[.pointer (some ⟨d, 0, none⟩), .agg #[.int .i64 y.id.n, .int .i64 y.id.c]] wr.drew (EndEnds d q' m' y.id wr.drew)) := Lib.hid (end_any (HXJ.out.tb.below hD) y.id)
                      obtain ⟨b0, b1, b2, b3, _⟩ := hS.out wr.drew hD
                      go_wp2_with fail
                      refine HCE.out.mono ?_
                      clear HCE
                      rintro e w9 ⟨A9, c9, rfl, _, _, m9, ht, hmv, _⟩
                      have HX9 := Lib.hid ((HXJ.out.below hD).step ht hmv)
                      have HK9 := Lib.hid (hmv.kept.blk (HKJ.out.below hD HKJ.out.lt) (HXJ.out.ap p1 (by simp)))
                      have HO9 := Lib.hid (hmv.kept.own (own_below HOJ.out hD) (fun g hg => HXJ.out.ap g (List.mem_append.2 (.inl (ownBlock_mem.1 hg)))))
                      clear ht hmv b0 b1 b2 b3
                      go_wp2
                      go_roundw
                      case rel => exact ⟨k + 1, _, m9, by go_num, by omega, HX9.out, HK9.out, first_end HFJ.out HNO.out, HO9.out, way_end HFJ.out HGY.out HWJ.out HNO.out⟩
                      case measure => simp [intOf]; omega
                · have kU2 : ¬ (k : Int) < (L.length : Int) := by omega
                  have HMD := Lib.hid (way_done HFJ.out (by omega) HWJ.out)
                  go_wp2
                  go_roundw
                  case rel => exact ⟨i + 1, q', m', by go_num, HXJ.out.less (by simp), HKJ.out, HFJ.out, .inr ⟨by have := HI0.out; omega, HMD.out⟩⟩
                  case measure => simp [intOf]; omega
end Go.Proofs.Ytpidpdbjjdkhoaa
