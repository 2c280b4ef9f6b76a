/- Locks: play. -/
import Derived.Test.YtpidpdbjjdkhoaaLkX
namespace Go.Proofs.Ytpidpdbjjdkhoaa
open Go.RowKit
set_option linter.unusedSimpArgs false
set_option linter.unusedVariables false
attribute [local go_sem ↓] Go.wp_at_zero Go.wp_at_succ

structure LOp where
  kind : Int
  id : Idn
  key : ByteArray
  mode : Int
def lopV (o : LOp) : Value := .agg #[.int .i64 o.kind, .int .i64 o.id.n, .int .i64 o.id.c, .string o.key, .int .i64 o.mode]
def lopL (o : LOp) : Lk := ⟨o.key, o.id, o.mode⟩
def playT (q : Tb) (o : LOp) : Tb := if o.kind = 0 then askT q (lopL o) else if o.kind = 1 then prepT q o.id else (endS q o.id).1
def playE (q : Tb) (o : LOp) : Int := if o.kind = 0 then askE q (lopL o) else if o.kind = 1 then prepE q o.id else 0
def playI (q : Tb) (o : LOp) : List Idn := if o.kind = 0 then askH q (lopL o) else []
def playL (q : Tb) (o : LOp) : List Lk := if o.kind = 0 then [] else if o.kind = 1 then [] else (endS q o.id).2
structure PlayR (d : Nat) (q : Tb) (m : TbM) (o : LOp) (w : World) (A : Option Addr) (c : Nat) (B : Option Addr) (b : Nat) (w' : World) : Prop where
  ids : w'.ownsRow 0 34 2 (.slice A (playI q o).length c) (playI q o).length (rc idR (playI q o))
  lks : w'.ownsRow 0 39 4 (.slice B (playL q o).length b) (playL q o).length (rc lkR (playL q o))
  fa : ∀ k ∈ ob A, w.heap.size ≤ k
  fb : ∀ k ∈ ob B, w.heap.size ≤ k
  tb : ∃ m', TbAt w' d (playT q o) m' ∧ Moves (fpT d m) (fpT d m') w w' ∧ (∀ k ∈ ob A, k ∉ fpT d m') ∧ ∀ k ∈ ob B, k ∉ fpT d m'
def PlayEnds (d : Nat) (q : Tb) (m : TbM) (o : LOp) (w : World) (e : Ending) (w' : World) : Prop :=
  ∃ A c B b, e = .returned (.tuple #[.int .i64 (playE q o), .slice A (playI q o).length c, .slice B (playL q o).length b]) ∧ PlayR d q m o w A c B b w'
theorem results_tmp3 {fn : Func} {t u v : Tmp} (h : fn.results = #[.tmp t, .tmp u, .tmp v]) (tmps : Array Value) (P : Program) (w : World) :
    (results fn tmps).run P w = .ok (.tuple #[tmps.getD t undef, tmps.getD u undef, tmps.getD v undef]) w := by
  simp [results, h]
set_option maxHeartbeats 8000000 in
set_option maxRecDepth 100000 in
theorem play_any {w : World} {d : Nat} {q : Tb} {m : TbM} (h : TbAt w d q m) (o : LOp) (hu : q.hurt.length ≤ 900000) (hp : q.prep.length < 1000000) (hz : o.kind = 0 → (askT q (lopL o)).held.length + (askT q (lopL o)).wait.length ≤ 1000) :
    Calls Try.prog 10 #[.pointer (some ⟨d, 0, none⟩), lopV o] w (PlayEnds d q m o w) := by
  have HH := Lib.hid h
  have HBA := Lib.hid (below_alloc w (.cells #[.int .i64 o.kind, .int .i64 o.id.n, .int .i64 o.id.c, .string o.key, .int .i64 o.mode] 36))
  have HT2 := Lib.hid (HH.out.below HBA.out)
  have HU := Lib.hid hu
  have HP := Lib.hid hp
  have HZ := Lib.hid hz
  clear h hu hp hz
  by_cases k0 : o.kind = 0
  · have HC : Hid (Calls Try.prog 15 #[.pointer (some ⟨d, 0, none⟩), .agg #[.int .i64 o.id.n, .int .i64 o.id.c], .string o.key, .int .i64 o.mode] (w.alloc (.cells #[.int .i64 o.kind, .int .i64 o.id.n, .int .i64 o.id.c, .string o.key, .int .i64 o.mode] 36)) (AskEnds d q m (lopL o) (w.alloc (.cells #[.int .i64 o.kind, .int .i64 o.id.n, .int .i64 o.id.c, .string o.key, .int .i64 o.mode] 36)))) := Lib.hid (ask_any HT2.out (lopL o) HU.out (HZ.out k0))
    have HE := Lib.hid (show playE q o = askE q (lopL o) by unfold playE; rw [if_pos k0])
    have HI := Lib.hid (show playI q o = askH q (lopL o) by unfold playI; rw [if_pos k0])
    have HL := Lib.hid (show playL q o = [] by unfold playL; rw [if_pos k0])
    have HT := Lib.hid (show playT q o = askT q (lopL o) by unfold playT; rw [if_pos k0])
    unfold lopV
    rw [k0] at HC HBA
    rw [k0]
    clear HZ HT2 k0
    go_enter Try.func10, Try.ntmps10
    go_wp2_with fail
    refine HC.out.mono ?_
    rintro e w2 ⟨A, c, rfl, ho, hf, m', ht, hm, ha⟩
    have HF := Lib.hid (And.intro ho (And.intro hf (And.intro ht (And.intro hm ha))))
    clear ho hf ht hm ha HC
    go_wp2
    refine bodyPost_ret (results_tmp3 rfl _ _ _) rfl ?_
    refine ⟨A, c, none, 0, by rw [HE.out, HI.out, HL.out]; rfl, by rw [HI.out]; exact HF.out.1, by rw [HL.out]; exact World.ownsRow_nil _ _ _ _, fun k hk => Nat.le_trans HBA.out.size (HF.out.2.1 k hk), by simp [ob], m', by rw [HT.out]; exact HF.out.2.2.1, Moves.below_left HBA.out HF.out.2.2.2.1, HF.out.2.2.2.2, by simp [ob]⟩
  · have z0 : (o.kind == 0) = false := by simpa using k0
    have d0 : decide (o.kind = 0) = false := decide_eq_false k0
    by_cases k1 : o.kind = 1
    · have HC : Hid (Calls Try.prog 25 #[.pointer (some ⟨d, 0, none⟩), .agg #[.int .i64 o.id.n, .int .i64 o.id.c]] (w.alloc (.cells #[.int .i64 o.kind, .int .i64 o.id.n, .int .i64 o.id.c, .string o.key, .int .i64 o.mode] 36)) (PrepEnds d q m o.id (w.alloc (.cells #[.int .i64 o.kind, .int .i64 o.id.n, .int .i64 o.id.c, .string o.key, .int .i64 o.mode] 36)))) := Lib.hid (prepare_any HT2.out o.id HP.out)
      have HE := Lib.hid (show playE q o = prepE q o.id by unfold playE; rw [if_neg k0, if_pos k1])
      have HI := Lib.hid (show playI q o = [] by unfold playI; rw [if_neg k0])
      have HL := Lib.hid (show playL q o = [] by unfold playL; rw [if_neg k0, if_pos k1])
      have HT := Lib.hid (show playT q o = prepT q o.id by unfold playT; rw [if_neg k0, if_pos k1])
      unfold lopV
      rw [k1] at HC HBA
      rw [k1]
      clear HZ HT2 k0 k1 z0 d0
      go_enter Try.func10, Try.ntmps10
      go_wp2_with fail
      refine HC.out.mono ?_
      rintro e w2 ⟨rfl, m', ht, hm⟩
      have HF := Lib.hid (And.intro ht hm)
      clear ht hm HC
      go_wp2
      refine bodyPost_ret (results_tmp3 rfl _ _ _) rfl ?_
      refine ⟨none, 0, none, 0, by rw [HE.out, HI.out, HL.out]; rfl, by rw [HI.out]; exact World.ownsRow_nil _ _ _ _, by rw [HL.out]; exact World.ownsRow_nil _ _ _ _, by simp [ob], by simp [ob], m', by rw [HT.out]; exact HF.out.1, Moves.below_left HBA.out HF.out.2, by simp [ob], by simp [ob]⟩
    · have z1 : (o.kind == 1) = false := by simpa using k1
      have d1 : decide (o.kind = 1) = false := decide_eq_false k1
      have HC : Hid (Calls Try.prog 17 #[.pointer (some ⟨d, 0, none⟩), .agg #[.int .i64 o.id.n, .int .i64 o.id.c]] (w.alloc (.cells #[.int .i64 o.kind, .int .i64 o.id.n, .int .i64 o.id.c, .string o.key, .int .i64 o.mode] 36)) (EndEnds d q m o.id (w.alloc (.cells #[.int .i64 o.kind, .int .i64 o.id.n, .int .i64 o.id.c, .string o.key, .int .i64 o.mode] 36)))) := Lib.hid (end_any HT2.out o.id)
      have HE := Lib.hid (show playE q o = 0 by unfold playE; rw [if_neg k0, if_neg k1])
      have HI := Lib.hid (show playI q o = [] by unfold playI; rw [if_neg k0])
      have HL := Lib.hid (show playL q o = (endS q o.id).2 by unfold playL; rw [if_neg k0, if_neg k1])
      have HT := Lib.hid (show playT q o = (endS q o.id).1 by unfold playT; rw [if_neg k0, if_neg k1])
      unfold lopV
      clear HZ HT2 k0 k1
      go_enter Try.func10, Try.ntmps10
      go_wp2_with fail
      refine HC.out.mono ?_
      rintro e w2 ⟨A, c, rfl, ho, hf, m', ht, hm, ha⟩
      have HF := Lib.hid (And.intro ho (And.intro hf (And.intro ht (And.intro hm ha))))
      clear ho hf ht hm ha HC
      go_wp2
      refine bodyPost_ret (results_tmp3 rfl _ _ _) rfl ?_
      refine ⟨none, 0, A, c, by rw [HE.out, HI.out, HL.out]; rfl, by rw [HI.out]; exact World.ownsRow_nil _ _ _ _, by rw [HL.out]; exact HF.out.1, by simp [ob], fun k hk => Nat.le_trans HBA.out.size (HF.out.2.1 k hk), m', by rw [HT.out]; exact HF.out.2.2.1, Moves.below_left HBA.out HF.out.2.2.2.1, by simp [ob], HF.out.2.2.2.2⟩
end Go.Proofs.Ytpidpdbjjdkhoaa
