/- Locks: the law's spoil and same. -/
import Derived.Test.YtpidpdbjjdkhoaaGreatGzI
namespace Go.Proofs.YtpidpdbjjdkhoaaGreat
open Go.RowKit
set_option linter.unusedSimpArgs false
set_option linter.unusedVariables false
attribute [local go_sem ↓] Go.wp_at_zero Go.wp_at_succ

/-- three rows of a call's own, whatever lies in them -/
structure SpAll (A : Option Addr) (a n1 : Nat) (B : Option Addr) (b n2 : Nat) (C : Option Addr) (c n3 : Nat) (w wr : World) : Prop where
  o1 : ∃ xs, wr.ownsRow 0 62 4 (.slice A n1 a) n1 xs
  o2 : ∃ xs, wr.ownsRow 0 29 2 (.slice B n2 b) n2 xs
  o3 : ∃ xs, wr.ownsRow 0 66 5 (.slice C n3 c) n3 xs
  kp : Kept (ob A ++ (ob B ++ ob C)) w wr
theorem own_row_at {w : World} {b s n c : Nat} {e : TypeId} {A : Option Addr} {xs : List Value} (h : w.ownsRow b e s (.slice A n c) n xs) (hn : 0 < n) : ∃ g, A = some ⟨g, 0, none⟩ := by
  obtain ⟨g, cap, hv, _⟩ := h.form hn
  injection hv with hA
  exact ⟨g, hA⟩
theorem own_far' {w : World} {b1 s1 n1 c1 g i : Nat} {e1 : TypeId} {A : Option Addr} {xs : List Value} {v : Value} (h : w.ownsRow b1 e1 s1 (.slice A n1 c1) n1 xs) (hg : g ∉ ob A) : (w.setCell ⟨g, i, none⟩ v).ownsRow b1 e1 s1 (.slice A n1 c1) n1 xs :=
  own_far h (fun g' hg' e => hg (by have := ownBlock_mem.1 hg'; rw [e] at this; exact this)) v
theorem own_apart' {w : World} {b1 b2 s1 s2 n1 n2 c1 c2 g i : Nat} {e1 e2 : TypeId} {A : Option Addr} {xs ys : List Value} {v : Value} (h : w.ownsRow b1 e1 s1 (.slice A n1 c1) n1 xs) (h2 : w.ownsRow b2 e2 s2 (.slice (some ⟨g, 0, none⟩) n2 c2) n2 ys) (hne : e1 ≠ e2) :
    (w.setCell ⟨g, i, none⟩ v).ownsRow b1 e1 s1 (.slice A n1 c1) n1 xs :=
  own_far' h (fun hm => own_own_ne h h2 hne g hm (by simp [ob]))
theorem own_b {w w' : World} {base size n c : Nat} {e : TypeId} {A : Option Addr} {xs : List Value} (h : w.ownsRow base e size (.slice A n c) n xs) (hb : Below w.heap.size w w') : w'.ownsRow base e size (.slice A n c) n xs :=
  (Kept.of_below (S := []) hb).own h (by simp)
def SpRel (A : Option Addr) (a n1 : Nat) (B : Option Addr) (b n2 : Nat) (C : Option Addr) (c n3 : Nat) (w : World) (n : Nat) (i : Value) (wr : World) : Prop := ∃ k : Nat, i = .int .i64 k ∧ k ≤ n ∧ SpAll A a n1 B b n2 C c n3 w wr
set_option maxHeartbeats 8000000 in
set_option maxRecDepth 100000 in
theorem spoil_any {w : World} {A B C : Option Addr} {a n1 b n2 c n3 : Nat} {xs ys zs : List Value} (h1 : w.ownsRow 0 62 4 (.slice A n1 a) n1 xs) (h2 : w.ownsRow 0 29 2 (.slice B n2 b) n2 ys) (h3 : w.ownsRow 0 66 5 (.slice C n3 c) n3 zs) (hn1 : n1 ≤ 2000000) (hn2 : n2 ≤ 2000000) (hn3 : n3 ≤ 2000000) :
    Calls Tryz.prog 13 #[.slice A n1 a, .slice B n2 b, .slice C n3 c] w fun e w' => e = .returned (.tuple #[]) ∧ Kept (ob A ++ (ob B ++ ob C)) w w' := by
  have HSP : Hid (SpAll A a n1 B b n2 C c n3 w w) := Lib.hid ⟨⟨_, h1⟩, ⟨_, h2⟩, ⟨_, h3⟩, Kept.refl _ _⟩
  clear h1 h2 h3
  go_enter Tryz.func13, Tryz.ntmps13
  go_wp2
  go_loopw [6] (SpRel A a n1 B b n2 C c n3 w n1) (fun i _ => n1 - (intOf i).toNat)
  case atStart => exact ⟨0, rfl, Nat.zero_le _, HSP.out⟩
  case round =>
    clear HSP
    obtain ⟨k, rfl, hk, hsp⟩ := hrel
    by_cases hlt : k < n1
    · obtain ⟨ho1, ho2, ho3, hkp⟩ := hsp
      obtain ⟨xs, hr⟩ := ho1
      obtain ⟨g, rfl⟩ := own_row_at hr (by omega)
      have kL : (0 : Int) ≤ (k : Int) := by omega
      have kU : (k : Int) < (n1 : Int) := by omega
      have hxl : xs.length = n1 * 4 := hr.1
      have z : wr.cell? ⟨g, k * 4 + 3, none⟩ = some (xs[k * 4 + 3]'(by omega)) := (hr.cellAt (k * 4 + 3) (by omega)).trans (List.getElem?_eq_getElem _)
      have f := hr.frozenAt (k * 4 + 3)
      have HN : Hid (SpAll (some ⟨g, 0, none⟩) a n1 B b n2 C c n3 w (wr.setCell ⟨g, k * 4 + 3, none⟩ (.int .i64 9))) := Lib.hid ⟨⟨_, (hr.stored (k * 4 + 3) (.int .i64 9)).1⟩, ⟨_, own_apart' ho2.choose_spec hr (by decide)⟩, ⟨_, own_apart' ho3.choose_spec hr (by decide)⟩, hkp.setCell _ (.inl (by simp [ob]))⟩
      generalize xs[k * 4 + 3]'(by omega) = ov at z
      clear ho2 ho3 hkp hr hxl
      go_wp2
      go_roundw
      case rel => exact ⟨k + 1, by go_num, by omega, HN.out⟩
      case measure => simp [intOf]; omega
    · have kU : ¬ (k : Int) < (n1 : Int) := by omega
      have HSP := Lib.hid hsp
      clear hsp
      obtain ⟨wo, hwo⟩ : ∃ wo : World, wo = wr := ⟨_, rfl⟩
      rw [← hwo] at HSP ⊢
      clear hwo
      go_wp2
      clear kU
      go_loopw [7] (SpRel A a n1 B b n2 C c n3 w n2) (fun i _ => n2 - (intOf i).toNat)
      case atStart => exact ⟨0, rfl, Nat.zero_le _, HSP.out⟩
      case round =>
        clear HSP
        obtain ⟨k, rfl, hk, hsp⟩ := hrel
        by_cases hlt : k < n2
        · obtain ⟨ho1, ho2, ho3, hkp⟩ := hsp
          obtain ⟨xs, hr⟩ := ho2
          obtain ⟨g, rfl⟩ := own_row_at hr (by omega)
          have kL : (0 : Int) ≤ (k : Int) := by omega
          have kU : (k : Int) < (n2 : Int) := by omega
          have hxl : xs.length = n2 * 2 := hr.1
          have z : wr.cell? ⟨g, k * 2, none⟩ = some (xs[k * 2]'(by omega)) := (hr.cellAt (k * 2) (by omega)).trans (List.getElem?_eq_getElem _)
          have f := hr.frozenAt (k * 2)
          have HN : Hid (SpAll A a n1 (some ⟨g, 0, none⟩) b n2 C c n3 w (wr.setCell ⟨g, k * 2, none⟩ (.int .i64 (-9)))) := Lib.hid ⟨⟨_, own_apart' ho1.choose_spec hr (by decide)⟩, ⟨_, (hr.stored (k * 2) (.int .i64 (-9))).1⟩, ⟨_, own_apart' ho3.choose_spec hr (by decide)⟩, hkp.setCell _ (.inl (by simp [ob]))⟩
          generalize xs[k * 2]'(by omega) = ov at z
          clear ho1 ho3 hkp hr hxl
          go_wp2
          go_roundw
          case rel => exact ⟨k + 1, by go_num, by omega, HN.out⟩
          case measure => simp [intOf]; omega
        · have kU : ¬ (k : Int) < (n2 : Int) := by omega
          have HSP := Lib.hid hsp
          clear hsp
          obtain ⟨wo, hwo⟩ : ∃ wo : World, wo = wr := ⟨_, rfl⟩
          rw [← hwo] at HSP ⊢
          clear hwo
          go_wp2
          clear kU
          go_loopw [8] (SpRel A a n1 B b n2 C c n3 w n3) (fun i _ => n3 - (intOf i).toNat)
          case atStart => exact ⟨0, rfl, Nat.zero_le _, HSP.out⟩
          case round =>
            clear HSP
            obtain ⟨k, rfl, hk, hsp⟩ := hrel
            by_cases hlt : k < n3
            · obtain ⟨ho1, ho2, ho3, hkp⟩ := hsp
              obtain ⟨xs, hr⟩ := ho3
              obtain ⟨g, rfl⟩ := own_row_at hr (by omega)
              have kL : (0 : Int) ≤ (k : Int) := by omega
              have kU : (k : Int) < (n3 : Int) := by omega
              have hxl : xs.length = n3 * 5 := hr.1
              have z : wr.cell? ⟨g, k * 5, none⟩ = some (xs[k * 5]'(by omega)) := (hr.cellAt (k * 5) (by omega)).trans (List.getElem?_eq_getElem _)
              have f := hr.frozenAt (k * 5)
              have HN : Hid (SpAll A a n1 B b n2 (some ⟨g, 0, none⟩) c n3 w (wr.setCell ⟨g, k * 5, none⟩ (.string ⟨#[115, 112, 111, 105, 108, 116]⟩))) := Lib.hid ⟨⟨_, own_apart' ho1.choose_spec hr (by decide)⟩, ⟨_, own_apart' ho2.choose_spec hr (by decide)⟩, ⟨_, (hr.stored (k * 5) (.string ⟨#[115, 112, 111, 105, 108, 116]⟩)).1⟩, hkp.setCell _ (.inl (by simp [ob]))⟩
              generalize xs[k * 5]'(by omega) = ov at z
              clear ho1 ho2 hkp hr hxl
              go_wp2
              go_roundw
              case rel => exact ⟨k + 1, by go_num, by omega, HN.out⟩
              case measure => simp [intOf]; omega
            · have kU : ¬ (k : Int) < (n3 : Int) := by omega
              have HSP := Lib.hid hsp
              clear hsp
              go_wp2
              refine bodyPost_end (results_none rfl _ _ _) rfl ?_
              exact ⟨rfl, HSP.out.kp⟩
set_option maxHeartbeats 8000000 in
set_option maxRecDepth 100000 in
theorem same_any {w : World} {d g : Nat} {q : Tb} {m n : TbM} (h : TbAt w d q m) (hr : RfAt w g q n) (hpm : q.prep.length ≤ 1000000 ∧ q.hurt.length ≤ 1000000) :
    Calls Tryz.prog 8 #[.pointer (some ⟨d, 0, none⟩), .pointer (some ⟨g, 0, none⟩)] w fun e w' => e = .returned (.bool true) ∧ Below w.heap.size w w' := by
  have HT0 := Lib.hid h
  have HR0 := Lib.hid hr
  have HB0 : Hid (Below w.heap.size w w) := Lib.hid (Below.refl _ _)
  have hfh := h.fh
  have hfm := hpm
  clear hpm
  have HGD := Lib.hid h.good
  have hel : (edges q).length ≤ 1000000 := by
    have h1 := eds_len q.held q.wait
    rw [edges_eq]
    have h3 : q.wait.length * q.held.length ≤ 1000 * 1000 := Nat.mul_le_mul (by omega) (by omega)
    omega
  clear h hr
  go_enter Tryz.func8, Tryz.ntmps8
  have HHX := Lib.hid (held_any HT0.out)
  go_wp2_with fail
  refine HHX.out.mono ?_
  clear HHX
  rintro e w1 ⟨Ah, ch, rfl, ho, hb, hf⟩
  have HT1 := Lib.hid (HT0.out.below hb)
  have HR1 := Lib.hid (HR0.out.below hb)
  have HB1 : Hid (Below w.heap.size w w1) := Lib.hid (HB0.out.trans (hb.mono HB0.out.size))
  have OH0 := Lib.hid ho
  have FH : Hid (∀ k ∈ ob Ah, w.heap.size ≤ k) := Lib.hid (fun k hk => Nat.le_trans HB0.out.size (hf k hk))
  clear ho hb hf HT0 HR0 HB0 
  have HHX := Lib.hid (waiting_any HT1.out)
  go_wp2_with fail
  refine HHX.out.mono ?_
  clear HHX
  rintro e w2 ⟨Aw, cw, rfl, ho, hb, hf⟩
  have HT2 := Lib.hid (HT1.out.below hb)
  have HR2 := Lib.hid (HR1.out.below hb)
  have HB2 : Hid (Below w.heap.size w w2) := Lib.hid (HB1.out.trans (hb.mono HB1.out.size))
  have OH1 := Lib.hid ((Kept.of_below (S := []) hb).own OH0.out (by simp))
  have OW1 := Lib.hid ho
  have FW : Hid (∀ k ∈ ob Aw, w.heap.size ≤ k) := Lib.hid (fun k hk => Nat.le_trans HB1.out.size (hf k hk))
  have DW : Hid (∀ k ∈ ob Aw, k ∉ ob Ah) := Lib.hid (fun k hk hm => by have h1 := hf k hk; have h2 := own_lt OH0.out k hm; omega)
  clear ho hb hf HT1 HR1 HB1 OH0
  have HHX := Lib.hid (prepared_any HT2.out)
  go_wp2_with fail
  refine HHX.out.mono ?_
  clear HHX
  rintro e w3 ⟨Ap, cp, rfl, ho, hb, hf⟩
  have HT3 := Lib.hid (HT2.out.below hb)
  have HR3 := Lib.hid (HR2.out.below hb)
  have HB3 : Hid (Below w.heap.size w w3) := Lib.hid (HB2.out.trans (hb.mono HB2.out.size))
  have OH2 := Lib.hid ((Kept.of_below (S := []) hb).own OH1.out (by simp))
  have OW2 := Lib.hid ((Kept.of_below (S := []) hb).own OW1.out (by simp))
  have OP2 := Lib.hid ho
  have FP : Hid (∀ k ∈ ob Ap, w.heap.size ≤ k) := Lib.hid (fun k hk => Nat.le_trans HB2.out.size (hf k hk))
  clear ho hb hf HT2 HR2 HB2 OH1 OW1
  have HHX := Lib.hid (wounded_any HT3.out)
  go_wp2_with fail
  refine HHX.out.mono ?_
  clear HHX
  rintro e w4 ⟨Au, cu, rfl, ho, hb, hf⟩
  have HT4 := Lib.hid (HT3.out.below hb)
  have HR4 := Lib.hid (HR3.out.below hb)
  have HB4 : Hid (Below w.heap.size w w4) := Lib.hid (HB3.out.trans (hb.mono HB3.out.size))
  have OH3 := Lib.hid ((Kept.of_below (S := []) hb).own OH2.out (by simp))
  have OW3 := Lib.hid ((Kept.of_below (S := []) hb).own OW2.out (by simp))
  have OP3 := Lib.hid ((Kept.of_below (S := []) hb).own OP2.out (by simp))
  have OU3 := Lib.hid ho
  have FU : Hid (∀ k ∈ ob Au, w.heap.size ≤ k) := Lib.hid (fun k hk => Nat.le_trans HB3.out.size (hf k hk))
  have DU : Hid (∀ k ∈ ob Au, k ∉ ob Ap) := Lib.hid (fun k hk hm => by have h1 := hf k hk; have h2 := own_lt OP2.out k hm; omega)
  clear ho hb hf HT3 HR3 HB3 OH2 OW2 OP2
  have HHX := Lib.hid (edges_any HT4.out)
  unfold EdgesEnds at HHX
  go_wp2_with fail
  refine HHX.out.mono ?_
  clear HHX
  rintro e w5 ⟨Ae, ce, rfl, ho, hf, hb⟩
  have HT5 := Lib.hid (HT4.out.below hb)
  have HR5 := Lib.hid (HR4.out.below hb)
  have HB5 : Hid (Below w.heap.size w w5) := Lib.hid (HB4.out.trans (hb.mono HB4.out.size))
  have OH4 := Lib.hid ((Kept.of_below (S := []) hb).own OH3.out (by simp))
  have OW4 := Lib.hid ((Kept.of_below (S := []) hb).own OW3.out (by simp))
  have OP4 := Lib.hid ((Kept.of_below (S := []) hb).own OP3.out (by simp))
  have OU4 := Lib.hid ((Kept.of_below (S := []) hb).own OU3.out (by simp))
  have OE4 := Lib.hid ho
  have FE : Hid (∀ k ∈ ob Ae, w.heap.size ≤ k) := Lib.hid (fun k hk => Nat.le_trans HB4.out.size (hf k hk))
  clear ho hb hf HT4 HR4 HB4 OH3 OW3 OP3 OU3
  have y1 : w5.cell? ⟨g, 1, none⟩ = some (.slice n.ah q.held.length n.ch) := HR5.out.c1
  have y2 : w5.cell? ⟨g, 2, none⟩ = some (.slice n.aw q.wait.length n.cw) := HR5.out.c2
  have y3 : w5.cell? ⟨g, 3, none⟩ = some (.slice n.ap q.prep.length n.cp) := HR5.out.c3
  have y4 : w5.cell? ⟨g, 4, none⟩ = some (.slice n.au q.hurt.length n.cu) := HR5.out.c4
  have HS := Lib.hid (fun k => alikeL Ah n.ah ch n.ch _ _ q.held (w5.drewN k) ((Reads.of_own OH4.out).drewN k) ((Reads.of_own HR5.out.oh).drewN k) (by omega))
  go_wp2_with fail
  refine (HS.out 0).mono ?_
  clear HS
  rintro e wq ⟨rfl, k0, rfl⟩
  have HS := Lib.hid (fun k => alikeL Aw n.aw cw n.cw _ _ q.wait (w5.drewN k) ((Reads.of_own OW4.out).drewN k) ((Reads.of_own HR5.out.ow).drewN k) (by omega))
  go_wp2_with fail
  refine (HS.out _).mono ?_
  clear HS
  rintro e wq ⟨rfl, k1, rfl⟩
  have HS := Lib.hid (fun k => alikeI Ap n.ap cp n.cp _ _ q.prep (w5.drewN k) ((Reads.of_own OP4.out).drewN k) ((Reads.of_own HR5.out.op).drewN k) (by omega))
  go_wp2_with fail
  refine (HS.out _).mono ?_
  clear HS
  rintro e wq ⟨rfl, k2, rfl⟩
  have HS := Lib.hid (fun k => alikeI Au n.au cu n.cu _ _ q.hurt (w5.drewN k) ((Reads.of_own OU4.out).drewN k) ((Reads.of_own HR5.out.ou).drewN k) (by omega))
  go_wp2_with fail
  refine (HS.out _).mono ?_
  clear HS
  rintro e wq ⟨rfl, k3, rfl⟩
  have HE := Lib.hid (fun k => redges_any (HR5.out.below (below_drewN (Below.refl w5.heap.size w5) k)) HGD.out)
  go_wp2_with fail
  refine (HE.out _).mono ?_
  clear HE
  rintro e w6 ⟨o, rfl, Ar, cr, rfl, ho, hf, hb⟩
  have HB56 : Hid (Below w5.heap.size w5 w6) := Lib.hid ((below_drewN (Below.refl w5.heap.size w5) _).trans hb)
  have HS : Hid (Calls Tryz.prog 27 #[.slice Ae (edges q).length ce, .slice Ar (edges q).length cr] w6 fun e w' => e = .returned (.bool true) ∧ ∃ q, w' = w6.drewN q) := Lib.hid (alikeE Ae Ar ce cr _ _ (edges q) w6 ((Reads.of_own OE4.out).below HB56.out) (Reads.of_own ho) (by omega))
  clear ho hf hb y1 y2 y3 y4
  go_wp2_with fail
  refine HS.out.mono ?_
  clear HS
  rintro e wq ⟨rfl, k5, rfl⟩
  have HB57 : Hid (Below w5.heap.size w5 (w6.drewN k5)) := Lib.hid (below_drewN HB56.out k5)
  obtain ⟨w7, hw7⟩ : ∃ w7, w7 = w6.drewN k5 := ⟨_, rfl⟩
  rw [← hw7] at HB57 ⊢
  clear hw7
  have HS := Lib.hid (spoil_any (own_b OH4.out HB57.out) (own_b OP4.out HB57.out) (own_b OE4.out HB57.out) (by omega) (by omega) (by omega))
  go_wp2_with fail
  refine HS.out.mono ?_
  clear HS
  rintro e w8 ⟨rfl, hk⟩
  have HK := Lib.hid hk
  have HOW := Lib.hid (hk.own (own_b OW4.out HB57.out) (fun y hy hm => by
    have hy := ownBlock_mem.1 hy
    simp only [List.mem_append] at hm
    rcases hm with hm | hm | hm
    · exact DW.out y hy hm
    · exact own_own_ne OW4.out OP4.out (by decide) y hy hm
    · exact own_own_ne OW4.out OE4.out (by decide) y hy hm))
  have HOU := Lib.hid (hk.own (own_b OU4.out HB57.out) (fun y hy hm => by
    have hy := ownBlock_mem.1 hy
    simp only [List.mem_append] at hm
    rcases hm with hm | hm | hm
    · exact own_own_ne OU4.out OH4.out (by decide) y hy hm
    · exact DU.out y hy hm
    · exact own_own_ne OU4.out OE4.out (by decide) y hy hm))
  clear hk
  have HS := Lib.hid (spoil_any HOW.out HOU.out (World.ownsRow_nil w8 0 66 5) (by omega) (by omega) (by omega))
  go_wp2_with fail
  refine HS.out.mono ?_
  clear HS
  rintro e w9 ⟨rfl, hk⟩
  have HFIN : Hid (Below w.heap.size w w9) := Lib.hid (by
    have h7 := HB5.out.trans (HB57.out.mono HB5.out.size)
    have h8 := h7.trans (HK.out.below h7.size (fun y hy => by
      simp only [List.mem_append] at hy
      rcases hy with hy | hy | hy
      · exact FH.out y hy
      · exact FP.out y hy
      · exact FE.out y hy))
    refine h8.trans (hk.below h8.size (fun y hy => ?_))
    simp only [List.mem_append] at hy
    rcases hy with hy | hy | hy
    · exact FW.out y hy
    · exact FU.out y hy
    · simp [ob] at hy)
  clear hk
  go_wp2
  go_ret
  exact ⟨rfl, HFIN.out⟩
end Go.Proofs.YtpidpdbjjdkhoaaGreat
