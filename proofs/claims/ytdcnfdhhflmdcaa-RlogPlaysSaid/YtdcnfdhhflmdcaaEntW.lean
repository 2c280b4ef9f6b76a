/- append onto a slice without room: it always grows, into new memory. rlog's Try in plain words. -/
import Derived.Test.YtdcnfdhhflmdcaaEntV
namespace Go.Proofs.Ytdcnfdhhflmdcaa
open Go.RowKit
set_option linter.unusedSimpArgs false
set_option linter.unusedVariables false

section
variable {P : Program} {w : World}
theorem run_app_full (t tx ty e : TypeId) (i : TypeInfo) (z : Value) (size bytes : Nat) (ht : P.underlying t = some (.slice e)) (hi : P.info? e = some i) (hz : i.zero = some z)
    (hsize : i.size = size) (hby : i.bytes = bytes) (hzs : z.cells.size = size) (hsz : 0 < size)
    (A : Option Addr) (B n : Nat) (xs : List Value) (hr : Reads w B size A n xs) (X : Value) (m : Nat) (news : List Value) (hs : Src P size tx X m news w) (hm : 0 < m)
    (h63 : n + m ≤ maxLen) (hbytes : (n + m) * bytes ≤ 140737488355328) :
    ∃ c1 w', (Builtin.append_ #[t, tx] ty #[.slice A n n, X]).run P w = .ok (.slice (some ⟨w.heap.size, 0, none⟩) (n + m) c1) w' ∧ w'.ownsRow 0 e size (.slice (some ⟨w.heap.size, 0, none⟩) (n + m) c1) (n + m) (xs ++ news) ∧ Below w.heap.size w w' := by
  subst hsize
  subst hby
  have hl := hs.newsLen
  have hlen : (xs ++ news).length = (n + m) * i.size := by rw [List.length_append, hr.1, hl, Nat.add_mul]
  have hge := grownCap_ge w (n + m) n e
  have hcm : grownCap w (n + m) n e ≤ maxLen := grownCap_le_maxLen w (n + m) n e h63
  have hold : (Builtin.firstCells i.size n (.slice A n n)).run P w.drew = .ok xs.toArray w.drew := by
    rcases A with _ | ad
    · have hn : n = 0 := by
        rcases Nat.eq_zero_or_pos n with h0 | h0
        · exact h0
        · obtain ⟨ad, h, _⟩ := hr.2 h0
          cases h
      subst hn
      have hx : xs = [] := List.eq_nil_of_length_eq_zero (by simpa using hr.1)
      subst hx
      exact run_firstCells_none w.drew i.size 0 0 0
    · refine run_firstCells_some w.drew i.size n ad n n xs hr.1 (fun j u hu => ?_)
      rcases Nat.eq_zero_or_pos n with h0 | h0
      · subst h0
        have hx : xs = [] := List.eq_nil_of_length_eq_zero (by simpa using hr.1)
        subst hx
        simp at hu
      · obtain ⟨ad', h, _, hc⟩ := hr.2 h0
        injection h with h
        subst h
        simpa using hc j u hu
  have hrun := run_append_grow_src (P := P) w t tx ty e i z ht hi hz A n n xs hold X m news hs (by omega) (by simp only [maxLen] at h63; omega) (growslice_fits (by omega) hbytes)
  refine ⟨_, _, hrun, ⟨hlen, .inr ⟨w.heap.size, _, _, rfl, Nat.zero_le _, heap_alloc_new w.drew _, hge, hcm, ?_, ?_⟩⟩, ?_⟩
  · simp only [Array.size_append, List.size_toArray, size_zeroCells, hzs, hlen, ← Nat.add_mul]
    congr 1
    omega
  · simp only [Array.toList_append]
    rw [← hlen]
    exact List.take_left
  · exact (Below.refl _ w).drew.alloc (Nat.le_refl _) _
theorem step_app_full {ops : Array Oper} {o : Oper} {a : Act} {K : Act → World → Prop} {Q : Exit → Act → World → Prop} {E : Prop} (hgd : o.guard = none) (s x : Operand) (t tx : TypeId)
    (ho : o.op = .call { callee := .builtin .append, args := #[s, x], argTypes := #[t, tx] })
    (e : TypeId) (i : TypeInfo) (z : Value) (size bytes : Nat) (ht : P.underlying t = some (.slice e)) (hi : P.info? e = some i) (hz : i.zero = some z)
    (hsize : i.size = size) (hby : i.bytes = bytes) (hzs : z.cells.size = size) (hsz : 0 < size)
    (A : Option Addr) (B n : Nat) (xs : List Value) (hA : a.eval s = .slice A n n) (hr : Reads w B size A n xs) (X : Value) (m : Nat) (news : List Value) (hX : a.eval x = X) (hs : Src P size tx X m news w) (hm : 0 < m)
    (h63 : n + m ≤ maxLen) (hbytes : (n + m) * bytes ≤ 140737488355328)
    (h : ∀ c1 w', w'.ownsRow 0 e size (.slice (some ⟨w.heap.size, 0, none⟩) (n + m) c1) (n + m) (xs ++ news) → Below w.heap.size w w' → K (a.put o.dst (.slice (some ⟨w.heap.size, 0, none⟩) (n + m) c1)) w') :
    if Region.wanted o (yielded ops a.tmps) = true then Oper.wp P o a w K Q else E := by
  have hw : Region.wanted o (yielded ops a.tmps) = true := by simp [Region.wanted, hgd]
  rw [if_pos hw]
  obtain ⟨c1, w', hrun, h2, h3⟩ := run_app_full (P := P) t tx o.type e i z size bytes ht hi hz hsize hby hzs hsz A B n xs hr X m news hs hm h63 hbytes
  unfold Oper.wp execOp
  simp only [ho, resolve, invoke, builtin, Sem.run_bind, Sem.run_pure, Result.andThen_ok, List.map_toArray, List.map_cons, List.map_nil, hA, hX, hrun]
  exact h c1 w' h2 h3
end

/-! ### Try in plain words -/
/-- the number of entries that are there already -/
def conf (b t : Int) (l : List Ent) : Int → List Ent → Nat
  | _, [] => 0
  | i, e :: r => if termE b l i = 0 ∧ termV b t l i = e.term then conf b t l (i + 1) r + 1 else 0
theorem conf_le (b t : Int) (l : List Ent) : ∀ (p : List Ent) (i : Int), conf b t l i p ≤ p.length
  | [], _ => Nat.le_refl _
  | e :: r, i => by
    unfold conf
    split
    · simpa using conf_le b t l r (i + 1)
    · exact Nat.zero_le _
def tailR (x b t : Int) (l : List Ent) (prev term : Int) (p : List Ent) : (Int × Int × Int) × List Ent :=
  if ¬ (termE b l prev = 0 ∧ termV b t l prev = term) then ((0, 0, 110), l)
  else if conf b t l (prev + 1) p = p.length then ((x, 0, 0), l)
  else if 512 < prev - b + p.length then ((0, 0, 131), l)
  else ((x, prev + 1 + conf b t l (prev + 1) p, 0), l.take (prev + conf b t l (prev + 1) p - b).toNat ++ p.drop (conf b t l (prev + 1) p))
def tryOk (prev term : Int) (p : List Ent) : Bool := cntB prev && cntB term && riseB term p && decide ((p.length : Int) ≤ 1099511627776 - prev)
def tryR (b t : Int) (l : List Ent) (prev term : Int) (p : List Ent) : (Int × Int × Int) × List Ent :=
  if tryOk prev term p = false then ((0, 0, 2), l)
  else if prev < b then
    if prev + p.length ≤ b then ((prev + p.length, 0, 0), l)
    else if (p.getD (b - prev).toNat ent0).term < t then ((0, 0, 2), l)
    else tailR (prev + p.length) b t l b t (p.drop (b - prev).toNat)
  else tailR (prev + p.length) b t l prev term p
def TryEnds (T : TypeId) (d : Nat) (F : List Nat) (b t : Int) (R : (Int × Int × Int) × List Ent) (w : World) (e : Ending) (w' : World) : Prop :=
  e = .returned (.tuple #[.int .i64 R.1.1, .int .i64 R.1.2.1, .int .i64 R.1.2.2]) ∧ ∃ F', IsLog T w' d F' b t R.2 ∧ Moves F F' w w'
theorem conf_at {b t : Int} {l p : List Ent} {k : Nat} {i : Int} (hk : k < p.length) : conf b t l i (p.drop k) = if termE b l i = 0 ∧ termV b t l i = (p[k]).term then conf b t l (i + 1) (p.drop (k + 1)) + 1 else 0 := by
  rw [List.drop_eq_getElem_cons hk]
  rfl
theorem Lg.far {T : TypeId} {w : World} {d : Nat} {A : Option Addr} {c : Nat} {b t : Int} {ms : List MEnt} (hT : 37 ≠ T ∧ 76 ≠ T ∧ 3 ≠ T) (h : Lg T w d A c b t ms) : d ∉ fpE A ms := by
  intro hd
  rcases List.mem_append.1 hd with h1 | h1
  · exact own_ne h.own.row h.blk hT.1 h1
  · obtain ⟨m, hm, h2 | h2⟩ := mem_rows.1 h1
    · exact own_ne (h.own.fine m hm).wr h.blk hT.2.1 h2
    · exact own_ne (h.own.fine m hm).gr h.blk hT.2.2 h2
end Go.Proofs.Ytdcnfdhhflmdcaa
