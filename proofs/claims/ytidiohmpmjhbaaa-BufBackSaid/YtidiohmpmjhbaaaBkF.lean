/- BufBack: the walk of the law. -/
import Derived.Test.YtidiohmpmjhbaaaBkD
import Derived.Test.YtidiohmpmjhbaaaBoB
namespace Go.Proofs.Ytidiohmpmjhbaaa
open Go.RowKit

theorem OpsAt.more {w : World} {B B' : Nat} {A : Option Addr} {n : Nat} {ops : List OpD} (h : OpsAt w B A n ops) (hB : B ≤ B') : OpsAt w B' A n ops := by
  refine ⟨h.1, fun hn => ?_⟩
  obtain ⟨b, off, e, hlt, hc⟩ := h.2 hn
  refine ⟨b, off, e, by omega, fun i o ho => ?_⟩
  obtain ⟨Ab, cb, hf, hcell⟩ := hc i o ho
  exact ⟨Ab, cb, ⟨hf.n, hf.i1, hf.i2, hf.b.more hB⟩, hcell⟩
theorem wide_le {ops : List OpD} {o : OpD} (h : o ∈ ops) : wide o ≤ (ops.map wide).sum := by
  induction ops with
  | nil => cases h
  | cons x r ih =>
    rw [List.map_cons, List.sum_cons]
    rcases List.mem_cons.1 h with rfl | h
    · omega
    · have := ih h
      omega
theorem sizes_le (ops : List OpD) : (ops.map OpD.size).sum ≤ 2 * (ops.map wide).sum := by
  induction ops with
  | nil => simp
  | cons x r ih =>
    rw [List.map_cons, List.sum_cons, List.map_cons, List.sum_cons]
    unfold OpD.size wide at *
    omega
theorem OpsAt.num {w : World} {B : Nat} {A : Option Addr} {n : Nat} {ops : List OpD} (h : OpsAt w B A n ops) (hs : (ops.map wide).sum ≤ 2097152) : ∀ o ∈ ops, o.Num := by
  intro o ho
  have h1 := wide_le ho
  have h2 : wide o = 12 + o.s.size + o.b.length := rfl
  obtain ⟨i, hi, rfl⟩ := List.mem_iff_getElem.1 ho
  obtain ⟨b, off, _, _, hc⟩ := h.2 (by have := h.1; omega)
  obtain ⟨_, _, hf, _⟩ := hc i _ (List.getElem?_eq_getElem hi)
  exact ⟨hf.n, hf.i1, hf.i2, by omega⟩

set_option maxHeartbeats 4000000 in
set_option maxRecDepth 100000 in
theorem back_law (A : Option Addr) (n c : Nat) (ops : List OpD) (w : World) (hops : OpsAt w w.heap.size A n ops) (hn : n ≤ 140737488355328) :
    Calls Try.prog 6 #[.slice A n c] w fun e w' => e = .returned (.bool true) ∧ Below w.heap.size w w' := by
  by_cases ht : total 1048576 ops = true
  · have hsum0 := total_sum ops 1048576 ht
    have hsum : (ops.map wide).sum ≤ 2097152 := by omega
    have hnum := hops.num hsum
    have hsz := sizes_le ops
    have hsm : ∀ o ∈ ops, o.s.size ≤ 9223372036854775807 ∧ o.b.length ≤ 9223372036854775807 := fun o ho => by
      have := wide_le ho
      have h2 : wide o = 12 + o.s.size + o.b.length := rfl
      omega
    have hwr := write_rows ops 2097152 [] hnum (by simp; omega)
    rw [List.nil_append] at hwr
    have hrl : (rows ops).length ≤ 2097152 := by
      have : ∀ l : List OpD, (∀ o ∈ l, o.Num) → (rows l).length ≤ (l.map wide).sum := by
        intro l
        induction l with
        | nil => intro _; simp [rows]
        | cons x r ih =>
          intro h
          have h1 := row_len (h x (by simp))
          have h2 := ih (fun y hy => h y (List.mem_cons_of_mem _ hy))
          rw [rows_cons, List.length_append, List.map_cons, List.sum_cons]
          unfold wide at h2 ⊢
          omega
      exact Nat.le_trans (this ops hnum) hsum
    have hbk := back_all ops ⟨rows ops, 0, 0⟩ [] rfl hnum (by simp [Rd.rest])
    rw [Nat.zero_add] at hbk
    have hcut := back_cut ops ⟨(rows ops).dropLast, 0, 0⟩ rfl hnum
    generalize hrows : rows ops = d at *
    have HW := Lib.hid hwr
    have HB := Lib.hid hbk
    have HC := Lib.hid hcut
    have HT := Lib.hid ht
    have HS := Lib.hid hsm
    clear hwr hbk hcut ht hsm hrows hnum hsum0
    go_enter Try.func6, Try.ntmps6
    go_wp2_with fail
    refine (works_any w).mono ?_
    rintro e w1 ⟨rfl, hb1⟩
    have HCt := total_any A n c ops w1 ((hops.below hb1).more hb1.size) hn
    rw [HT.out] at HCt
    go_wp2_with fail
    refine HCt.mono ?_
    clear HCt
    rintro e w2 ⟨rfl, nq, rfl⟩
    have hb2 : Below w.heap.size w (w1.drewN nq) := ⟨hb1.os, hb1.tape, hb1.output, hb1.size, hb1.block⟩
    generalize w1.drewN nq = w2 at *
    go_wp2_with fail
    refine (new_any 2097152 w2).mono ?_
    intro e w3 hnw
    have hW := hnw.isW (by decide)
    obtain ⟨rfl, hw3⟩ := hnw
    have hb3 : Below w.heap.size w w3 := by rw [hw3]; exact hb2.alloc hb2.size _
    have hbw : w.heap.size ≤ w2.heap.size := hb2.size
    clear hw3
    generalize w2.heap.size = bw at *
    go_wp2_with fail
    refine (write_any bw (Wr.new 2097152) none 0 A n c ops w w3 hW hops hb3 (by simp [ob]; exact hbw) hn (by simp [Wr.new]; omega)).mono ?_
    rintro e w4 ⟨rfl, A3, c3, hW4, hM4⟩
    rw [show Wr.new 2097152 = ⟨2097152, [], false⟩ from rfl, HW.out] at hW4
    have hb4 : Below w.heap.size w w4 := hb3.trans (hM4.kept.below hb3.size (by simp [ob]; exact hbw))
    have HCb : Calls Try.prog 10 #[.pointer (some ⟨bw, 0, none⟩)] w4 (Told w4 d 0) := wbytes_any bw _ A3 c3 w4 hW4 (by simp only; omega)
    clear hW hW4 hM4 hb3
    go_wp2_with fail
    refine HCb.mono ?_
    clear HCb
    rintro e w5 ⟨A5, c5, rfl, hown5, hb5, hf5⟩
    have hb5' := hb4.trans (hb5.mono hb4.size)
    have hr5 := Reads.of_own hown5
    have hcap := own_cap hown5
    have hcap2 : d.length ≤ c5 := hcap.1
    go_wp2_with fail
    refine (rnew_any A5 c5 w5.heap.size d w5 hr5 (Nat.le_refl _) (by omega)).mono ?_
    rintro e w6 ⟨b, A6, c6, rfl, hR6, hb6, hf6⟩
    have hb6' := hb5'.trans (hb6.mono hb5'.size)
    have hr6 := hr5.below hb6
    have hlo6 : w.heap.size ≤ b := Nat.le_trans hb5'.size (hf6 b (by simp))
    have HA : Calls Try.prog 31 #[.pointer (some ⟨b, 0, none⟩), .slice A n c] w6 (AgainEnds w6 b A6 c6 (⟨d, d.length, 0⟩, true)) := by
      rw [← HB.out]
      exact again_any b _ A6 c6 A n c ops w w6 hR6 hops hb6' hlo6 hn HS.out
    clear hR6 hown5
    go_wp2_with fail
    refine HA.mono ?_
    clear HA
    rintro e w7 ⟨rfl, hR7, hk7⟩
    have hb7' := hb6'.trans (hk7.below hb6'.size (by simpa using hlo6))
    have hr7 := hk7.reads hr6 hb6.size (by simpa using hf6 b (by simp))
    have HE : Calls Try.prog 16 #[.pointer (some ⟨b, 0, none⟩)] w7 (Looks w7 (.int .i64 0)) := by
      have := rend_any b _ A6 c6 w7 hR7
      rw [show Rd.fin (⟨d, d.length, 0⟩ : Rd) = 0 by unfold Rd.fin; simp] at this
      exact this
    go_wp2_with fail
    refine HE.mono ?_
    clear HE
    rintro e w8 ⟨rfl, m8, rfl⟩
    have hb8' : Below w.heap.size w (w7.drewN m8) := ⟨hb7'.os, hb7'.tape, hb7'.output, hb7'.size, hb7'.block⟩
    have hr8 := hr7.drewN m8
    have hsz8 : w5.heap.size ≤ (w7.drewN m8).heap.size := Nat.le_trans hb6.size hk7.size
    generalize w7.drewN m8 = w8 at *
    clear hR7 hk7 hr7 hr6 hr5 hb7' hb6' hb4 hb5' HW HB
    by_cases h0 : d.length = 0
    · have h00 : ((d.length : Int) == 0) = true := by rw [beq_iff_eq]; omega
      clear HC
      go_wp2
      go_ret
      exact ⟨rfl, hb8'⟩
    · have h00 : ((d.length : Int) == 0) = false := by rw [beq_eq_false_iff_ne]; omega
      have hl1 : ((d.length : Int) - 1).toNat = d.length - 1 := by omega
      have hl2 : (0 : Int) ≤ (d.length : Int) - 1 := by omega
      have hl3 : (d.length : Int) - 1 ≤ (c5 : Int) := by omega
      have hdl : d.dropLast.length = d.length - 1 := List.length_dropLast
      have hr9 : Reads w8 w5.heap.size 1 A5 d.dropLast.length (bc d.dropLast) := by
        have := hr8.take (k := d.length - 1) (by omega)
        rw [Nat.mul_one, show (bc d).take (d.length - 1) = bc d.dropLast by unfold bc; rw [← List.map_take, List.dropLast_eq_take]] at this
        rw [hdl]
        exact this
      have HN := rnew_any A5 c5 w5.heap.size d.dropLast w8 hr9 hsz8 (by omega)
      rw [hdl] at HN
      have hne : d ≠ [] := by intro e; rw [e] at h0; exact h0 rfl
      have hT := HC.out hne (by simp [Rd.rest])
      have HTT := Lib.hid hT
      clear hT HC hdl
      go_wp2_with fail
      refine HN.mono ?_
      clear HN
      rintro e w9 ⟨b9, A9, c9, rfl, hR9, hb9, hf9⟩
      have hb9' := hb8'.trans (hb9.mono hb8'.size)
      have hlo9 : w.heap.size ≤ b9 := Nat.le_trans hb8'.size (hf9 b9 (by simp))
      have HA := again_any b9 _ A9 c9 A n c ops w w9 hR9 hops hb9' hlo9 hn HS.out
      generalize ops.foldl Rd.back (⟨d.dropLast, 0, 0⟩, true) = T at *
      obtain ⟨R, t⟩ := T
      have hRe : R.e = 1 := HTT.out
      clear HTT hR9
      cases t with
      | true =>
        go_wp2_with fail
        refine HA.mono ?_
        clear HA
        rintro e w10 ⟨rfl, hR10, hk10⟩
        have HE := rerr_any b9 R A9 c9 w10 hR10
        rw [hRe] at HE
        have hend := hb9'.trans (hk10.below hb9'.size (by simpa using hlo9))
        clear hRe hR10
        go_wp2_with fail
        refine HE.mono ?_
        rintro e w11 ⟨rfl, rfl⟩
        go_wp2_with fail
        refine HE.mono ?_
        rintro e w11 ⟨rfl, rfl⟩
        go_wp2
        go_ret
        exact ⟨rfl, hend⟩
      | false =>
        go_wp2_with fail
        refine HA.mono ?_
        clear HA
        rintro e w10 ⟨rfl, hR10, hk10⟩
        have HE := rerr_any b9 R A9 c9 w10 hR10
        rw [hRe] at HE
        have hend := hb9'.trans (hk10.below hb9'.size (by simpa using hlo9))
        clear hRe hR10
        go_wp2_with fail
        refine HE.mono ?_
        rintro e w11 ⟨rfl, rfl⟩
        go_wp2
        go_ret
        exact ⟨rfl, hend⟩
  · have ht' : total 1048576 ops = false := by simpa using ht
    have HT := Lib.hid ht'
    clear ht ht'
    go_enter Try.func6, Try.ntmps6
    go_wp2_with fail
    refine (works_any w).mono ?_
    rintro e w1 ⟨rfl, hb1⟩
    have HCt := total_any A n c ops w1 ((hops.below hb1).more hb1.size) hn
    rw [HT.out] at HCt
    go_wp2_with fail
    refine HCt.mono ?_
    clear HCt
    rintro e w2 ⟨rfl, nq, rfl⟩
    go_wp2
    go_ret
    exact ⟨rfl, ⟨hb1.os, hb1.tape, hb1.output, hb1.size, hb1.block⟩⟩
end Go.Proofs.Ytidiohmpmjhbaaa
