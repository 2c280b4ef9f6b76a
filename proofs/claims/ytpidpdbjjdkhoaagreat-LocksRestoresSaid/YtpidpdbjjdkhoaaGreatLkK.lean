/- Rows of identities and of locks: DeleteFunc. -/
import Derived.Test.YtpidpdbjjdkhoaaGreatLkJ
import Derived.Lib.SliceRun
namespace Go.Proofs.YtpidpdbjjdkhoaaGreat
open Go.RowKit
set_option linter.unusedSimpArgs false
set_option linter.unusedVariables false
attribute [local go_sem ↓] Go.wp_at_zero Go.wp_at_succ

def keepP {α : Type} (p : α → Bool) (l : List α) : List α := l.filter fun x => !p x
theorem keep_on {α : Type} {p : α → Bool} {l : List α} {k : Nat} {x : α} (h : l[k]? = some x) : keepP p (l.take (k + 1)) = keepP p (l.take k) ++ (if p x then [] else [x]) := by
  rw [take_on h]
  unfold keepP
  rw [List.filter_append]
  cases hp : p x <;> simp [hp]
theorem keep_take {α : Type} {R : RowT α} {p : α → Bool} {l : List α} {k : Nat} (hk : k ≤ l.length) (h : ∀ i, i < k → p (gr R l i) = false) : keepP p (l.take k) = l.take k := by
  unfold keepP
  rw [List.filter_eq_self]
  intro x hx
  obtain ⟨i, hi, rfl⟩ := List.mem_iff_getElem.1 hx
  rw [List.length_take] at hi
  have h1 := h i (by omega)
  rw [gr_at (by omega)] at h1
  rw [List.getElem_take, h1]
  rfl
theorem gr_drop {α : Type} {R : RowT α} {l M : List α} {b : Nat} (h : M.drop b = l.drop b) (hb : b < l.length) (hM : M.length = l.length) : gr R M b = gr R l b := by
  rw [gr_at hb, gr_at (by omega)]
  rw [List.drop_eq_getElem_cons hb, List.drop_eq_getElem_cons (by omega)] at h
  exact (List.cons.inj h).1
theorem own_same {w w' : World} {base size n c : Nat} {e : TypeId} {A : Option Addr} {xs : List Value} (h : w.ownsRow base e size (.slice A n c) n xs) (hs : ∀ k ∈ ob A, w'.heap[k]? = w.heap[k]?) : w'.ownsRow base e size (.slice A n c) n xs := by
  refine ⟨h.1, ?_⟩
  rcases h.2 with h1 | ⟨g, cap, cur, hv, hb, hg, r⟩
  · exact .inl h1
  · injection hv with hA hn hc
    subst hA
    exact .inr ⟨g, cap, cur, by rw [hc], hb, by rw [hs g (by simp [ob])]; exact hg, r⟩
/-- the tail of a row of one's own is cleared -/
theorem run_clear_any {P : Program} (w : World) (g c n k size : Nat) (E T : TypeId) (Z : Value) (xs : List Value) (hu : P.underlying T = some (.slice E)) (hz : (zeroValue E).run P w = .ok Z w) (hZ : Z.cells.size = size) (hZ1 : ∀ u ∈ Z.cells, u.oneCell' = true) (hk : k < n) (hown : w.ownsRow 0 E size (.slice (some ⟨g, 0, none⟩) n c) n xs) (ty : TypeId) (cc : Nat) :
    ∃ w', (Builtin.clear_ #[T] ty #[.slice (some ⟨g, k * size, none⟩) (n - k) cc]).run P w = .ok (.tuple #[]) w' ∧ w'.ownsRow 0 E size (.slice (some ⟨g, 0, none⟩) k c) k (xs.take (k * size)) ∧ Kept [g] w w' := by
  have hxl := hown.1
  rcases hown.2 with ⟨hv, _⟩ | ⟨g', cap, cur, hv, hbg, hg, hnc, hcm, hcs, htake⟩
  · simp at hv
  · simp only [Value.slice.injEq, Option.some.injEq, Addr.mk.injEq, and_true, true_and] at hv
    obtain ⟨rfl, rfl⟩ := hv
    obtain ⟨m, hm⟩ : ∃ m, n - k = m + 1 := ⟨n - k - 1, by omega⟩
    generalize hzs : (Builtin.zeroCells Z.cells (n - k)).toList = zs
    have hzl : zs.length = (n - k) * size := by
      rw [← hzs]
      simp only [Array.length_toList, size_zeroCells, hZ]
    have hz1 : ∀ u ∈ zs, u.oneCell' = true := by
      intro u hu
      rw [← hzs] at hu
      simp only [Builtin.zeroCells, Array.toList_map, List.mem_map] at hu
      obtain ⟨i, hi, rfl⟩ := hu
      by_cases hsz : size = 0
      · exfalso
        rw [Array.mem_toList_iff] at hi
        simp [hZ, hsz] at hi
      · have hlt : i % Z.cells.size < Z.cells.size := Nat.mod_lt _ (by omega)
        have hg1 : Z.cells.getD (i % Z.cells.size) undef = Z.cells[i % Z.cells.size] := by rw [Array.getD_eq_getD_getElem?, Array.getElem?_eq_getElem hlt]; rfl
        first
          | exact hZ1 _ (Array.getElem_mem hlt)
          | (rw [hg1]; exact hZ1 _ (Array.getElem_mem hlt))
          | (simp only [Array.getElem!_eq_getD, Array.getD_eq_getD_getElem?, Array.getElem?_eq_getElem hlt, Option.getD_some]; exact hZ1 _ (Array.getElem_mem hlt))
    have hsub : (n - k) * size = n * size - k * size := Nat.sub_mul _ _ _
    have hkn : k * size ≤ n * size := Nat.mul_le_mul_right _ (by omega)
    have hcl : n * size ≤ cur.size := by rw [hcs]; exact Nat.mul_le_mul_right _ hnc
    have hfit : k * size + zs.length ≤ cur.size := by rw [hzl, hsub]; omega
    have hst := run_storeCells_at P g (k * size) E zs 0 cur w hg (by simpa using hfit) hz1
    simp only [Nat.add_zero] at hst
    refine ⟨w.setRow g (cur.toList.take (k * size) ++ zs ++ cur.toList.drop (k * size + zs.length)).toArray, ?_, ?_, ⟨rfl, rfl, rfl, by simp, fun j _ hj => setRow_other w g j _ (fun e => hj (by simp [e]))⟩⟩
    · rw [hm] at hzs ⊢
      simp [Builtin.clear_, run_underlying hu, hz, hzs, hst]
    · refine ⟨by rw [List.length_take, hxl]; exact Nat.min_eq_left hkn, .inr ⟨g, c, _, rfl, Nat.zero_le _, setRow_heap w g cur _ E _ hg, by omega, hcm, ?_, ?_⟩⟩
      · simp only [List.size_toArray, List.length_append, List.length_take, List.length_drop, Array.length_toList]
        omega
      · have e1 : cur.toList.take (k * size) = xs.take (k * size) := by
          rw [← htake, List.take_take, Nat.min_eq_left hkn]
        simp only
        rw [← e1]
        rw [List.append_assoc, List.take_append_of_le_length (by simp; omega), List.take_take, Nat.min_self]
def DelRelI (p : Idn → Bool) (St : List Idn → List Nat → World → Prop) (S : List Nat) (l : List Idn) (w : World) (g c2 : Nat) (i j : Value) (wr : World) : Prop :=
  ∃ (a b : Nat) (M : List Idn) (S' : List Nat), i = .int .i64 a ∧ j = .int .i64 b ∧ a < b ∧ b ≤ l.length ∧ M.length = l.length ∧ M.take a = keepP p (l.take b) ∧ M.drop b = l.drop b ∧
    wr.ownsRow 0 29 2 (.slice (some ⟨g, 0, none⟩) l.length c2) l.length (rc idR M) ∧ St (l.take b) S' wr ∧ g ∉ S' ∧ Moves (g :: S) (g :: S') w wr
def DelEndsI (p : Idn → Bool) (St : List Idn → List Nat → World → Prop) (S : List Nat) (A : Option Addr) (c : Nat) (l : List Idn) (w : World) (e : Ending) (w' : World) : Prop :=
  e = .returned (.slice A (keepP p l).length c) ∧ w'.ownsRow 0 29 2 (.slice A (keepP p l).length c) (keepP p l).length (rc idR (keepP p l)) ∧ ∃ S', St l S' w' ∧ (∀ k ∈ ob A, k ∉ S') ∧ Moves (ob A ++ S) (ob A ++ S') w w'
theorem del_endI {p : Idn → Bool} {l M : List Idn} {a b : Nat} (h : M.take a = keepP p (l.take b)) (hb : b = l.length) (hM : M.length = l.length) (hab : a < b) : (keepP p l).length = a ∧ M.take a = keepP p l := by
  rw [hb, List.take_length] at h
  exact ⟨by rw [← h, List.length_take]; omega, h⟩
set_option maxHeartbeats 4000000 in
set_option maxRecDepth 100000 in
theorem delfI (gq : Nat) (lb : Array Value) (eg : ∀ args w, (callFunc gq args).run Tryz.prog w = .ok (.enter gq args) w) (p : Idn → Bool) (St : List Idn → List Nat → World → Prop) (S : List Nat) (hq : QuestionI gq lb p St)
    (A : Option Addr) (hst : ∀ pre S W W', St pre S W → Kept (ob A) W W' → (∀ k ∈ ob A, k ∉ S) → St pre S W') (hlt : ∀ pre S W, St pre S W → ∀ k ∈ S, k < W.heap.size)
    (c2 : Nat) (l : List Idn) (w : World) (hown : w.ownsRow 0 29 2 (.slice A l.length c2) l.length (rc idR l)) (hS : ∀ k ∈ ob A, k ∉ S) (h0 : St [] S w) (hl : l.length ≤ 8796093022208) :
    Calls Tryz.prog 91 #[.slice A l.length c2, .func (.func gq) #[] lb] w (DelEndsI p St S A c2 l w) := by
  have HI := Lib.hid (idxfI gq lb eg p St S hq A c2 w.heap.size l w (Reads.of_own hown) (Nat.le_refl _) (fun _ => hS) h0 hl)
  have HQ := Lib.hid hq
  have HST := Lib.hid hst
  have HLT := Lib.hid hlt
  have HS := Lib.hid hS
  have HOL := Lib.hid (own_lt hown)
  clear hq hst hS h0 hlt
  go_enter Tryz.func91, Tryz.ntmps91
  go_wp2_with fail
  refine HI.out.mono ?_
  clear HI
  rintro e w1 ⟨r, S1, rfl, hr, hso⟩
  have hown1 := hso.kept.own hown (fun g hg => HS.out g (ownBlock_mem.1 hg))
  have HAP := Lib.hid (hso.apart HOL.out HS.out)
  have HSO := Lib.hid hso
  clear hown hso
  rcases hr with ⟨rfl, hall, hs1⟩ | ⟨k, hkl, rfl, hpk, hno, hs1⟩
  · have hK : Hid (keepP p l = l) := Lib.hid (by
      have := keep_take (R := idR) (p := p) (l := l) (k := l.length) (Nat.le_refl _) hall
      rwa [List.take_length] at this)
    have HS1 := Lib.hid hs1
    have HO1 := Lib.hid hown1
    clear hall hs1 hown1
    go_wp2
    go_ret
    unfold DelEndsI
    rw [hK.out]
    exact ⟨rfl, HO1.out, S1, HS1.out, HAP.out, ⟨HSO.out.kept.mono (fun y hy => List.mem_append_right _ hy), fun y hy => (List.mem_append.1 hy).elim (fun h => .inl (List.mem_append_left _ h)) (fun h => (HSO.out.foot y h).imp (fun h => List.mem_append_right _ h) id)⟩⟩
  · obtain ⟨g, rfl, hgl⟩ := own_some hown1 (by omega)
    have hcap := own_cap hown1
    have hc1 : l.length ≤ c2 := hcap.1
    have hcm : (c2 : Int) ≤ 9223372036854775807 := by have := hcap.2; simp only [maxLen] at this; omega
    have hkt := Lib.hid (keep_take (R := idR) (Nat.le_of_lt hkl) hno)
    have hkon := Lib.hid (keep_on (p := p) (gr_get (R := idR) hkl))
    have hP := Lib.hid hpk
    have HS1 := Lib.hid hs1
    have HO1 := Lib.hid hown1
    have HM1 : Hid (Moves (g :: S) (g :: S1) w w1) := Lib.hid ⟨HSO.out.kept.mono (fun y hy => List.mem_cons_of_mem _ hy), fun y hy => (List.mem_cons.1 hy).elim (fun h => .inl (by rw [h]; exact List.mem_cons_self ..)) (fun h => (HSO.out.foot y h).imp (fun h => List.mem_cons_of_mem _ h) id)⟩
    have hne : ((k : Int) == -1) = false := by rw [beq_eq_false_iff_ne]; omega
    have HG1 : Hid (g ∉ S1) := Lib.hid (HAP.out g (by simp [ob]))
    clear hno hpk hown1 hcap hs1 HSO
    go_wp2
    go_loopw [5, 6] (DelRelI p St S l w g c2) (fun _ j _ => l.length - (intOf j).toNat)
    case atStart => exact ⟨k, k + 1, l, S1, rfl, by go_num, by omega, by omega, rfl, by rw [hkon.out, hP.out, hkt.out]; simp, rfl, HO1.out, HS1.out, HG1.out, HM1.out⟩
    case round =>
      obtain ⟨a, b, M, S', rfl, rfl, hab, hbl, hMl, hMt, hMd, hown, hs, hgs, hmv⟩ := hrel
      have HMT := Lib.hid hMt
      have HMD := Lib.hid hMd
      have HOW := Lib.hid hown
      have HSr := Lib.hid hs
      have HGS := Lib.hid hgs
      have HMV := Lib.hid hmv
      clear hMt hMd hkon hkt hP hs HS1 HO1 HM1 HG1 HAP hgs hmv
      by_cases hlt : b < l.length
      · have hex := own_elt (R := idR) hown (k := b) (by omega)
        rw [gr_drop HMD.out hlt hMl] at hex
        have HG : Hid (l[b]? = some (gr idR l b)) := Lib.hid (gr_get hlt)
        obtain ⟨x, hx⟩ : ∃ x, x = gr idR l b := ⟨_, rfl⟩
        rw [← hx] at hex HG
        have x0 : wr.cell? ⟨g, b * 2, none⟩ = some (.int .i64 x.n) := hex 0 _ rfl
        have x1 : wr.cell? ⟨g, b * 2 + 1, none⟩ = some (.int .i64 x.c) := hex 1 _ rfl
        have kb : (0 : Int) ≤ (b : Int) := by omega
        have kbU : (b : Int) < (l.length : Int) := by omega
        have ka : (0 : Int) ≤ (a : Int) := by omega
        have kaU : (a : Int) < (l.length : Int) := by omega
        have hba := below_alloc wr (.cells #[.int .i64 x.n, .int .i64 x.c] 29)
        have HBA := Lib.hid hba
        have HSa := Lib.hid (HST.out _ _ _ _ HSr.out (Kept.of_below hba) (by simpa [ob] using HGS.out))
        have HOWa := Lib.hid ((Kept.of_below (S := []) hba).own HOW.out (by simp))
        have HC := Lib.hid (HQ.out (l.take b) S' x (wr.alloc (.cells #[.int .i64 x.n, .int .i64 x.c] 29)) HSa.out (by rw [List.length_take]; omega))
        rw [← take_on HG.out] at HC
        unfold idV at HC
        have HBX := Lib.hid (Blk.new wr 29 #[.int .i64 x.n, .int .i64 x.c])
        have HBXn : Hid (wr.heap.size ∉ S') := Lib.hid (fun hm => by have := HLT.out _ _ _ HSr.out _ hm; omega)
        have HBXg : Hid (wr.heap.size ≠ g) := Lib.hid (fun he => by have := own_lt HOW.out g (by simp [ob]); omega)
        clear hx hex hown hba
        cases hp : p x with
        | true =>
          rw [hp] at HC
          have HP := Lib.hid hp
          clear hp
          go_wp2_with fail
          refine HC.out.mono ?_
          rintro e w2 ⟨rfl, S2, hs2, hm2⟩
          have HOW2 := Lib.hid (hm2.kept.own HOWa.out (fun k hk => by have := ownBlock_mem.1 hk; simp [ob] at this; rw [this]; exact HGS.out))
          have HS2 := Lib.hid hs2
          have HG2 : Hid (g ∉ S2) := Lib.hid (fun hm => (hm2.foot g hm).elim HGS.out (fun h => by have := own_lt HOWa.out g (by simp [ob]); omega))
          have HMV2 : Hid (Moves (g :: S) (g :: S2) w w2) := Lib.hid (HMV.out.trans (Moves.below_left HBA.out ⟨hm2.kept.mono (fun y hy => List.mem_cons_of_mem _ hy), fun y hy => (List.mem_cons.1 hy).elim (fun h => .inl (by rw [h]; exact List.mem_cons_self ..)) (fun h => (hm2.foot y h).imp (fun h => List.mem_cons_of_mem _ h) id)⟩))
          clear x0 x1 hs2 hm2
          go_wp2_with fail
          go_roundw
          case rel => exact ⟨a, b + 1, M, S2, rfl, by go_num, by omega, by omega, hMl, by rw [HMT.out, keep_on HG.out, HP.out]; simp, by rw [← List.drop_drop, ← List.drop_drop, HMD.out], HOW2.out, HS2.out, HG2.out, HMV2.out⟩
          case measure => simp [intOf]; omega
        | false =>
          rw [hp] at HC
          have HP := Lib.hid hp
          clear hp
          go_wp2_with fail
          refine HC.out.mono ?_
          rintro e w2 ⟨rfl, S2, hs2, hm2⟩
          have hown2 := hm2.kept.own HOWa.out (fun k hk => by have := ownBlock_mem.1 hk; simp [ob] at this; rw [this]; exact HGS.out)
          have HOW2 := Lib.hid hown2
          have HS2 := Lib.hid hs2
          have HG2 : Hid (g ∉ S2) := Lib.hid (fun hm => (hm2.foot g hm).elim HGS.out (fun h => by have := own_lt HOWa.out g (by simp [ob]); omega))
          have HMV2 : Hid (Moves (g :: S) (g :: S2) w w2) := Lib.hid (HMV.out.trans (Moves.below_left HBA.out ⟨hm2.kept.mono (fun y hy => List.mem_cons_of_mem _ hy), fun y hy => (List.mem_cons.1 hy).elim (fun h => .inl (by rw [h]; exact List.mem_cons_self ..)) (fun h => (hm2.foot y h).imp (fun h => List.mem_cons_of_mem _ h) id)⟩))
          have hvb := hm2.kept.blk HBX.out HBXn.out
          have hgne : wr.heap.size ≠ g := HBXg.out
          have hey := own_elt (R := idR) hown2 (k := a) (by omega)
          clear x0 x1 hs2 hm2
          have v0 : w2.cell? ⟨wr.heap.size, 0, none⟩ = some (.int .i64 x.n) := hvb.cell 0
          have v1 : w2.cell? ⟨wr.heap.size, 1, none⟩ = some (.int .i64 x.c) := hvb.cell 1
          obtain ⟨y, hy⟩ : ∃ y, y = gr idR M a := ⟨_, rfl⟩
          rw [← hy] at hey
          have y0 : w2.cell? ⟨g, a * 2, none⟩ = some (.int .i64 y.n) := hey 0 _ rfl
          have y1 : w2.cell? ⟨g, a * 2 + 1, none⟩ = some (.int .i64 y.c) := hey 1 _ rfl
          have f0 := hown2.frozenAt (a * 2)
          have f1 := hown2.frozenAt (a * 2 + 1)
          clear hvb hey hy hown2
          go_wp2
          have hset := storedAll [.int .i64 x.n, .int .i64 x.c] (p := a * 2) HOW2.out
          have hrs := rc_set (R := idR) M x a (by omega)
          rw [show [.int .i64 x.n, .int .i64 x.c] = idR.cells x from rfl] at hset
          rw [show a * idR.sz = a * 2 from rfl] at hrs
          rw [hrs] at hset
          have hk3 : Kept [g] w2 (w2.setCells g (a * 2) (idR.cells x)) := keptAll _ (Kept.refl _ _) (.inl (by simp))
          refine ⟨⟨a + 1, b + 1, M.set a x, S2, by go_num, by go_num, by omega, by omega, by rw [List.length_set]; exact hMl, ?_, ?_, hset, HST.out _ _ _ _ HS2.out hk3 (by simpa [ob] using HG2.out), HG2.out, HMV2.out.kept_right (hk3.mono (fun y hy => by rw [List.mem_singleton.1 hy]; exact List.mem_cons_self ..))⟩, by simp [intOf]; omega⟩
          · rw [take_on (x := x) (by rw [List.getElem?_set_self (by omega)]), List.take_set_of_le (Nat.le_refl _), HMT.out, keep_on HG.out, HP.out]
            simp
          · rw [List.drop_set_of_lt (by omega), ← List.drop_drop, ← List.drop_drop, HMD.out]
      · have hb : b = l.length := by omega
        have HE := Lib.hid (del_endI HMT.out hb hMl hab)
        obtain ⟨w', hcl, hown', hk'⟩ := run_clear_any (P := Tryz.prog) wr g c2 l.length a 2 29 36 (.agg #[.int .i64 0, .int .i64 0]) (rc idR M) Tryz.underlying36 (by kernel_rfl) rfl (by decide) (by omega) hown 0 (c2 - a)
        have HSF := Lib.hid (HST.out _ _ _ _ HSr.out hk' (by simpa [ob] using HGS.out))
        have HMF := Lib.hid (HMV.out.kept_right (hk'.mono (fun y hy => by rw [List.mem_singleton.1 hy]; exact List.mem_cons_self ..)))
        have hrt := rc_take (R := idR) M a
        rw [show a * idR.sz = a * 2 from rfl] at hrt
        rw [hrt] at hown'
        have hac : ¬ c2 = a := by omega
        have hac2 : (c2 == a) = false := by rw [beq_eq_false_iff_ne]; exact hac
        have ka : (0 : Int) ≤ (a : Int) := by omega
        have kaU : (a : Int) ≤ (l.length : Int) := by omega
        have kaC : (a : Int) ≤ (c2 : Int) := by omega
        have HOF := Lib.hid hown'
        have hbl2 : l.take b = l := List.take_of_length_le (by omega)
        rw [hbl2] at HSF
        clear hown hkl hgl hown' hk' hbl2 hrt
        go_wp2
        go_ret
        unfold DelEndsI
        rw [HE.out.1, ← HE.out.2]
        exact ⟨rfl, HOF.out, S', HSF.out, by simpa [ob] using HGS.out, HMF.out⟩
def DelRelL (p : Lk → Bool) (St : List Lk → List Nat → World → Prop) (S : List Nat) (l : List Lk) (w : World) (g c2 : Nat) (i j : Value) (wr : World) : Prop :=
  ∃ (a b : Nat) (M : List Lk) (S' : List Nat), i = .int .i64 a ∧ j = .int .i64 b ∧ a < b ∧ b ≤ l.length ∧ M.length = l.length ∧ M.take a = keepP p (l.take b) ∧ M.drop b = l.drop b ∧
    wr.ownsRow 0 62 4 (.slice (some ⟨g, 0, none⟩) l.length c2) l.length (rc lkR M) ∧ St (l.take b) S' wr ∧ g ∉ S' ∧ Moves (g :: S) (g :: S') w wr
def DelEndsL (p : Lk → Bool) (St : List Lk → List Nat → World → Prop) (S : List Nat) (A : Option Addr) (c : Nat) (l : List Lk) (w : World) (e : Ending) (w' : World) : Prop :=
  e = .returned (.slice A (keepP p l).length c) ∧ w'.ownsRow 0 62 4 (.slice A (keepP p l).length c) (keepP p l).length (rc lkR (keepP p l)) ∧ ∃ S', St l S' w' ∧ (∀ k ∈ ob A, k ∉ S') ∧ Moves (ob A ++ S) (ob A ++ S') w w'
theorem del_endL {p : Lk → Bool} {l M : List Lk} {a b : Nat} (h : M.take a = keepP p (l.take b)) (hb : b = l.length) (hM : M.length = l.length) (hab : a < b) : (keepP p l).length = a ∧ M.take a = keepP p l := by
  rw [hb, List.take_length] at h
  exact ⟨by rw [← h, List.length_take]; omega, h⟩
set_option maxHeartbeats 4000000 in
set_option maxRecDepth 100000 in
theorem delfL (gq : Nat) (lb : Array Value) (eg : ∀ args w, (callFunc gq args).run Tryz.prog w = .ok (.enter gq args) w) (p : Lk → Bool) (St : List Lk → List Nat → World → Prop) (S : List Nat) (hq : QuestionL gq lb p St)
    (A : Option Addr) (hst : ∀ pre S W W', St pre S W → Kept (ob A) W W' → (∀ k ∈ ob A, k ∉ S) → St pre S W') (hlt : ∀ pre S W, St pre S W → ∀ k ∈ S, k < W.heap.size)
    (c2 : Nat) (l : List Lk) (w : World) (hown : w.ownsRow 0 62 4 (.slice A l.length c2) l.length (rc lkR l)) (hS : ∀ k ∈ ob A, k ∉ S) (h0 : St [] S w) (hl : l.length ≤ 3518437208883) :
    Calls Tryz.prog 56 #[.slice A l.length c2, .func (.func gq) #[] lb] w (DelEndsL p St S A c2 l w) := by
  have HI := Lib.hid (idxfL gq lb eg p St S hq A c2 w.heap.size l w (Reads.of_own hown) (Nat.le_refl _) (fun _ => hS) h0 hl)
  have HQ := Lib.hid hq
  have HST := Lib.hid hst
  have HLT := Lib.hid hlt
  have HS := Lib.hid hS
  have HOL := Lib.hid (own_lt hown)
  clear hq hst hS h0 hlt
  go_enter Tryz.func56, Tryz.ntmps56
  go_wp2_with fail
  refine HI.out.mono ?_
  clear HI
  rintro e w1 ⟨r, S1, rfl, hr, hso⟩
  have hown1 := hso.kept.own hown (fun g hg => HS.out g (ownBlock_mem.1 hg))
  have HAP := Lib.hid (hso.apart HOL.out HS.out)
  have HSO := Lib.hid hso
  clear hown hso
  rcases hr with ⟨rfl, hall, hs1⟩ | ⟨k, hkl, rfl, hpk, hno, hs1⟩
  · have hK : Hid (keepP p l = l) := Lib.hid (by
      have := keep_take (R := lkR) (p := p) (l := l) (k := l.length) (Nat.le_refl _) hall
      rwa [List.take_length] at this)
    have HS1 := Lib.hid hs1
    have HO1 := Lib.hid hown1
    clear hall hs1 hown1
    go_wp2
    go_ret
    unfold DelEndsL
    rw [hK.out]
    exact ⟨rfl, HO1.out, S1, HS1.out, HAP.out, ⟨HSO.out.kept.mono (fun y hy => List.mem_append_right _ hy), fun y hy => (List.mem_append.1 hy).elim (fun h => .inl (List.mem_append_left _ h)) (fun h => (HSO.out.foot y h).imp (fun h => List.mem_append_right _ h) id)⟩⟩
  · obtain ⟨g, rfl, hgl⟩ := own_some hown1 (by omega)
    have hcap := own_cap hown1
    have hc1 : l.length ≤ c2 := hcap.1
    have hcm : (c2 : Int) ≤ 9223372036854775807 := by have := hcap.2; simp only [maxLen] at this; omega
    have hkt := Lib.hid (keep_take (R := lkR) (Nat.le_of_lt hkl) hno)
    have hkon := Lib.hid (keep_on (p := p) (gr_get (R := lkR) hkl))
    have hP := Lib.hid hpk
    have HS1 := Lib.hid hs1
    have HO1 := Lib.hid hown1
    have HM1 : Hid (Moves (g :: S) (g :: S1) w w1) := Lib.hid ⟨HSO.out.kept.mono (fun y hy => List.mem_cons_of_mem _ hy), fun y hy => (List.mem_cons.1 hy).elim (fun h => .inl (by rw [h]; exact List.mem_cons_self ..)) (fun h => (HSO.out.foot y h).imp (fun h => List.mem_cons_of_mem _ h) id)⟩
    have hne : ((k : Int) == -1) = false := by rw [beq_eq_false_iff_ne]; omega
    have HG1 : Hid (g ∉ S1) := Lib.hid (HAP.out g (by simp [ob]))
    clear hno hpk hown1 hcap hs1 HSO
    go_wp2
    go_loopw [5, 6] (DelRelL p St S l w g c2) (fun _ j _ => l.length - (intOf j).toNat)
    case atStart => exact ⟨k, k + 1, l, S1, rfl, by go_num, by omega, by omega, rfl, by rw [hkon.out, hP.out, hkt.out]; simp, rfl, HO1.out, HS1.out, HG1.out, HM1.out⟩
    case round =>
      obtain ⟨a, b, M, S', rfl, rfl, hab, hbl, hMl, hMt, hMd, hown, hs, hgs, hmv⟩ := hrel
      have HMT := Lib.hid hMt
      have HMD := Lib.hid hMd
      have HOW := Lib.hid hown
      have HSr := Lib.hid hs
      have HGS := Lib.hid hgs
      have HMV := Lib.hid hmv
      clear hMt hMd hkon hkt hP hs HS1 HO1 HM1 HG1 HAP hgs hmv
      by_cases hlt : b < l.length
      · have hex := own_elt (R := lkR) hown (k := b) (by omega)
        rw [gr_drop HMD.out hlt hMl] at hex
        have HG : Hid (l[b]? = some (gr lkR l b)) := Lib.hid (gr_get hlt)
        obtain ⟨x, hx⟩ : ∃ x, x = gr lkR l b := ⟨_, rfl⟩
        rw [← hx] at hex HG
        have x0 : wr.cell? ⟨g, b * 4, none⟩ = some (.string x.key) := hex 0 _ rfl
        have x1 : wr.cell? ⟨g, b * 4 + 1, none⟩ = some (.int .i64 x.id.n) := hex 1 _ rfl
        have x2 : wr.cell? ⟨g, b * 4 + 2, none⟩ = some (.int .i64 x.id.c) := hex 2 _ rfl
        have x3 : wr.cell? ⟨g, b * 4 + 3, none⟩ = some (.int .i64 x.mode) := hex 3 _ rfl
        have kb : (0 : Int) ≤ (b : Int) := by omega
        have kbU : (b : Int) < (l.length : Int) := by omega
        have ka : (0 : Int) ≤ (a : Int) := by omega
        have kaU : (a : Int) < (l.length : Int) := by omega
        have hba := below_alloc wr (.cells #[.string x.key, .int .i64 x.id.n, .int .i64 x.id.c, .int .i64 x.mode] 62)
        have HBA := Lib.hid hba
        have HSa := Lib.hid (HST.out _ _ _ _ HSr.out (Kept.of_below hba) (by simpa [ob] using HGS.out))
        have HOWa := Lib.hid ((Kept.of_below (S := []) hba).own HOW.out (by simp))
        have HC := Lib.hid (HQ.out (l.take b) S' x (wr.alloc (.cells #[.string x.key, .int .i64 x.id.n, .int .i64 x.id.c, .int .i64 x.mode] 62)) HSa.out (by rw [List.length_take]; omega))
        rw [← take_on HG.out] at HC
        unfold lkV at HC
        have HBX := Lib.hid (Blk.new wr 62 #[.string x.key, .int .i64 x.id.n, .int .i64 x.id.c, .int .i64 x.mode])
        have HBXn : Hid (wr.heap.size ∉ S') := Lib.hid (fun hm => by have := HLT.out _ _ _ HSr.out _ hm; omega)
        have HBXg : Hid (wr.heap.size ≠ g) := Lib.hid (fun he => by have := own_lt HOW.out g (by simp [ob]); omega)
        clear hx hex hown hba
        cases hp : p x with
        | true =>
          rw [hp] at HC
          have HP := Lib.hid hp
          clear hp
          go_wp2_with fail
          refine HC.out.mono ?_
          rintro e w2 ⟨rfl, S2, hs2, hm2⟩
          have HOW2 := Lib.hid (hm2.kept.own HOWa.out (fun k hk => by have := ownBlock_mem.1 hk; simp [ob] at this; rw [this]; exact HGS.out))
          have HS2 := Lib.hid hs2
          have HG2 : Hid (g ∉ S2) := Lib.hid (fun hm => (hm2.foot g hm).elim HGS.out (fun h => by have := own_lt HOWa.out g (by simp [ob]); omega))
          have HMV2 : Hid (Moves (g :: S) (g :: S2) w w2) := Lib.hid (HMV.out.trans (Moves.below_left HBA.out ⟨hm2.kept.mono (fun y hy => List.mem_cons_of_mem _ hy), fun y hy => (List.mem_cons.1 hy).elim (fun h => .inl (by rw [h]; exact List.mem_cons_self ..)) (fun h => (hm2.foot y h).imp (fun h => List.mem_cons_of_mem _ h) id)⟩))
          clear x0 x1 x2 x3 hs2 hm2
          go_wp2_with fail
          go_roundw
          case rel => exact ⟨a, b + 1, M, S2, rfl, by go_num, by omega, by omega, hMl, by rw [HMT.out, keep_on HG.out, HP.out]; simp, by rw [← List.drop_drop, ← List.drop_drop, HMD.out], HOW2.out, HS2.out, HG2.out, HMV2.out⟩
          case measure => simp [intOf]; omega
        | false =>
          rw [hp] at HC
          have HP := Lib.hid hp
          clear hp
          go_wp2_with fail
          refine HC.out.mono ?_
          rintro e w2 ⟨rfl, S2, hs2, hm2⟩
          have hown2 := hm2.kept.own HOWa.out (fun k hk => by have := ownBlock_mem.1 hk; simp [ob] at this; rw [this]; exact HGS.out)
          have HOW2 := Lib.hid hown2
          have HS2 := Lib.hid hs2
          have HG2 : Hid (g ∉ S2) := Lib.hid (fun hm => (hm2.foot g hm).elim HGS.out (fun h => by have := own_lt HOWa.out g (by simp [ob]); omega))
          have HMV2 : Hid (Moves (g :: S) (g :: S2) w w2) := Lib.hid (HMV.out.trans (Moves.below_left HBA.out ⟨hm2.kept.mono (fun y hy => List.mem_cons_of_mem _ hy), fun y hy => (List.mem_cons.1 hy).elim (fun h => .inl (by rw [h]; exact List.mem_cons_self ..)) (fun h => (hm2.foot y h).imp (fun h => List.mem_cons_of_mem _ h) id)⟩))
          have hvb := hm2.kept.blk HBX.out HBXn.out
          have hgne : wr.heap.size ≠ g := HBXg.out
          have hey := own_elt (R := lkR) hown2 (k := a) (by omega)
          clear x0 x1 x2 x3 hs2 hm2
          have v0 : w2.cell? ⟨wr.heap.size, 0, none⟩ = some (.string x.key) := hvb.cell 0
          have v1 : w2.cell? ⟨wr.heap.size, 1, none⟩ = some (.int .i64 x.id.n) := hvb.cell 1
          have v2 : w2.cell? ⟨wr.heap.size, 2, none⟩ = some (.int .i64 x.id.c) := hvb.cell 2
          have v3 : w2.cell? ⟨wr.heap.size, 3, none⟩ = some (.int .i64 x.mode) := hvb.cell 3
          obtain ⟨y, hy⟩ : ∃ y, y = gr lkR M a := ⟨_, rfl⟩
          rw [← hy] at hey
          have y0 : w2.cell? ⟨g, a * 4, none⟩ = some (.string y.key) := hey 0 _ rfl
          have y1 : w2.cell? ⟨g, a * 4 + 1, none⟩ = some (.int .i64 y.id.n) := hey 1 _ rfl
          have y2 : w2.cell? ⟨g, a * 4 + 2, none⟩ = some (.int .i64 y.id.c) := hey 2 _ rfl
          have y3 : w2.cell? ⟨g, a * 4 + 3, none⟩ = some (.int .i64 y.mode) := hey 3 _ rfl
          have f0 := hown2.frozenAt (a * 4)
          have f1 := hown2.frozenAt (a * 4 + 1)
          have f2 := hown2.frozenAt (a * 4 + 2)
          have f3 := hown2.frozenAt (a * 4 + 3)
          clear hvb hey hy hown2
          go_wp2
          have hset := storedAll [.string x.key, .int .i64 x.id.n, .int .i64 x.id.c, .int .i64 x.mode] (p := a * 4) HOW2.out
          have hrs := rc_set (R := lkR) M x a (by omega)
          rw [show [.string x.key, .int .i64 x.id.n, .int .i64 x.id.c, .int .i64 x.mode] = lkR.cells x from rfl] at hset
          rw [show a * lkR.sz = a * 4 from rfl] at hrs
          rw [hrs] at hset
          have hk3 : Kept [g] w2 (w2.setCells g (a * 4) (lkR.cells x)) := keptAll _ (Kept.refl _ _) (.inl (by simp))
          refine ⟨⟨a + 1, b + 1, M.set a x, S2, by go_num, by go_num, by omega, by omega, by rw [List.length_set]; exact hMl, ?_, ?_, hset, HST.out _ _ _ _ HS2.out hk3 (by simpa [ob] using HG2.out), HG2.out, HMV2.out.kept_right (hk3.mono (fun y hy => by rw [List.mem_singleton.1 hy]; exact List.mem_cons_self ..))⟩, by simp [intOf]; omega⟩
          · rw [take_on (x := x) (by rw [List.getElem?_set_self (by omega)]), List.take_set_of_le (Nat.le_refl _), HMT.out, keep_on HG.out, HP.out]
            simp
          · rw [List.drop_set_of_lt (by omega), ← List.drop_drop, ← List.drop_drop, HMD.out]
      · have hb : b = l.length := by omega
        have HE := Lib.hid (del_endL HMT.out hb hMl hab)
        obtain ⟨w', hcl, hown', hk'⟩ := run_clear_any (P := Tryz.prog) wr g c2 l.length a 4 62 34 (.agg #[.string ⟨#[]⟩, .int .i64 0, .int .i64 0, .int .i64 0]) (rc lkR M) Tryz.underlying34 (by kernel_rfl) rfl (by decide) (by omega) hown 0 (c2 - a)
        have HSF := Lib.hid (HST.out _ _ _ _ HSr.out hk' (by simpa [ob] using HGS.out))
        have HMF := Lib.hid (HMV.out.kept_right (hk'.mono (fun y hy => by rw [List.mem_singleton.1 hy]; exact List.mem_cons_self ..)))
        have hrt := rc_take (R := lkR) M a
        rw [show a * lkR.sz = a * 4 from rfl] at hrt
        rw [hrt] at hown'
        have hac : ¬ c2 = a := by omega
        have hac2 : (c2 == a) = false := by rw [beq_eq_false_iff_ne]; exact hac
        have ka : (0 : Int) ≤ (a : Int) := by omega
        have kaU : (a : Int) ≤ (l.length : Int) := by omega
        have kaC : (a : Int) ≤ (c2 : Int) := by omega
        have HOF := Lib.hid hown'
        have hbl2 : l.take b = l := List.take_of_length_le (by omega)
        rw [hbl2] at HSF
        clear hown hkl hgl hown' hk' hbl2 hrt
        go_wp2
        go_ret
        unfold DelEndsL
        rw [HE.out.1, ← HE.out.2]
        exact ⟨rfl, HOF.out, S', HSF.out, by simpa [ob] using HGS.out, HMF.out⟩
end Go.Proofs.YtpidpdbjjdkhoaaGreat
