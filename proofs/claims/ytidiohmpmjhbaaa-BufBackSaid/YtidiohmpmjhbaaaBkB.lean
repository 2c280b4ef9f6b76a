/- BufBack: total. -/
import Derived.Test.YtidiohmpmjhbaaaBrI
namespace Go.Proofs.Ytidiohmpmjhbaaa
open Go.RowKit

def total (left : Int) : List OpD → Bool
  | [] => true
  | o :: r => if left - 12 < 0 ∨ left - 12 < o.s.size ∨ left - 12 < o.b.length then false else total (left - 12 - o.s.size - o.b.length) r
theorem total_no {left : Int} {o : OpD} {r : List OpD} (h : left - 12 < 0 ∨ left - 12 < o.s.size ∨ left - 12 < o.b.length) : total left (o :: r) = false := by
  show (if _ then _ else _) = _
  rw [if_pos h]
theorem total_on {left : Int} {o : OpD} {r : List OpD} (h : ¬ (left - 12 < 0 ∨ left - 12 < o.s.size ∨ left - 12 < o.b.length)) : total left (o :: r) = total (left - 12 - o.s.size - o.b.length) r := by
  show (if _ then _ else _) = _
  rw [if_neg h]
set_option maxHeartbeats 4000000 in
set_option maxRecDepth 100000 in
theorem total_any (A : Option Addr) (n c : Nat) (ops : List OpD) (w : World) (hops : OpsAt w w.heap.size A n ops) (hn : n ≤ 140737488355328) :
    Calls Try.prog 29 #[.slice A n c] w fun e w' => e = .returned (.bool (total 1048576 ops)) ∧ ∃ k, w' = w.drewN k := by
  go_enter Try.func29, Try.ntmps29
  go_wp2
  go_loopw [3, 4] (fun lf i wr => ∃ (k : Nat) (left : Int), i = .int .i64 k ∧ k ≤ n ∧ lf = .int .i64 left ∧ total left (ops.drop k) = total 1048576 ops ∧ -1048576 ≤ left ∧ left ≤ 1048576 ∧ ∃ m, wr = w.drewN m) (fun _ i _ => n - (intOf i).toNat)
  case atStart => exact ⟨0, 1048576, rfl, Nat.zero_le _, rfl, rfl, by omega, by omega, 0, rfl⟩
  case round =>
    obtain ⟨k, left, rfl, hk, rfl, ht, hl1, hl2, m, rfl⟩ := hrel
    have Hw : Hid (∀ n, ∃ m', (w.drewN m).drewN n = w.drewN m') := fun n => ⟨m + n, by simp⟩
    have Hw0 : Hid (∃ m', w.drewN m = w.drewN m') := ⟨m, rfl⟩
    by_cases hlt : k < n
    · have hkl : k < ops.length := by have := hops.1; omega
      obtain ⟨b, off, rfl, hbl, hcs⟩ := hops.2 (by omega)
      obtain ⟨o, ho⟩ : ∃ o, ops[k] = o := ⟨_, rfl⟩
      obtain ⟨Ab, cb, hf, hcell⟩ := hcs k o (by rw [List.getElem?_eq_getElem hkl, ho])
      have y3 : (w.drewN m).cell? ⟨b, off + k * 6 + 3, none⟩ = some (.string o.s) := hcell 3 _ rfl
      have y4 : (w.drewN m).cell? ⟨b, off + k * 6 + 4, none⟩ = some (.slice Ab o.b.length cb) := hcell 4 _ rfl
      rw [List.drop_eq_getElem_cons hkl, ho] at ht
      clear hcell hcs ho hops hf
      have H := Lib.hid ht
      clear ht
      generalize w.drewN m = wd at *
      by_cases h1 : left - 12 < 0
      · have hF := Lib.hid ((H.out.symm.trans (total_no (.inl h1))).symm)
        go_wp2
        go_ret
        exact ⟨ret_bool hF.out, Hw0.out⟩
      · by_cases h2 : left - 12 < (o.s.size : Int)
        · have hF := Lib.hid ((H.out.symm.trans (total_no (.inr (.inl h2)))).symm)
          go_wp2
          go_ret
          exact ⟨ret_bool hF.out, Hw0.out⟩
        · by_cases h3 : left - 12 < (o.b.length : Int)
          · have hF := Lib.hid ((H.out.symm.trans (total_no (.inr (.inr h3)))).symm)
            go_wp2
            go_ret
            exact ⟨ret_bool hF.out, Hw0.out⟩
          · have hF := Lib.hid ((total_on (r := ops.drop (k + 1)) (show ¬ (left - 12 < 0 ∨ left - 12 < o.s.size ∨ left - 12 < o.b.length) by omega)).symm.trans H.out)
            go_wp2
            go_quiet (fail)
            go_wp2
            refine ⟨?rel, ?measure⟩
            case rel => exact ⟨k + 1, _, by go_num, by omega, rfl, hF.out, by omega, by omega, Hw.out _⟩
            case measure => simp [intOf]; omega
    · have e : ops.drop k = [] := List.drop_of_length_le (by have := hops.1; omega)
      rw [e] at ht
      have hF := Lib.hid ht
      clear ht hops e
      go_wp2
      go_ret
      exact ⟨ret_bool hF.out, Hw0.out⟩
end Go.Proofs.Ytidiohmpmjhbaaa
