/- Locks: wants. -/
import Derived.Test.YtpidpdbjjdkhoaaGreatLkO
namespace Go.Proofs.YtpidpdbjjdkhoaaGreat
open Go.RowKit
set_option linter.unusedSimpArgs false
set_option linter.unusedVariables false
attribute [local go_sem ↓] Go.wp_at_zero Go.wp_at_succ

def IxP (p : Lk → Bool) (l : List Lk) (r : Int) : Prop := (r = -1 ∧ l.find? p = none) ∨ ∃ k : Nat, k < l.length ∧ r = k ∧ l.find? p = some (gr lkR l k)
theorem find_not {p : Lk → Bool} : ∀ {l : List Lk}, (∀ i, i < l.length → p (gr lkR l i) = false) → l.find? p = none := by
  intro l h
  rw [List.find?_eq_none]
  intro x hx
  obtain ⟨i, hi, rfl⟩ := List.mem_iff_getElem.1 hx
  have := h i hi
  rw [gr_at hi] at this
  simp [this]
theorem find_at {p : Lk → Bool} {l : List Lk} {k : Nat} (hk : k < l.length) (hp : p (gr lkR l k) = true) (hn : ∀ i, i < k → p (gr lkR l i) = false) : l.find? p = some (gr lkR l k) := by
  have e : l = l.take k ++ gr lkR l k :: l.drop (k + 1) := by
    rw [gr_at hk, ← List.drop_eq_getElem_cons hk, List.take_append_drop]
  have h1 : (l.take k).find? p = none := find_not fun i hi => by
    rw [List.length_take] at hi
    have := hn i (by omega)
    rw [gr_at (by omega)] at this
    rw [gr_at (by rw [List.length_take]; omega), List.getElem_take]
    exact this
  obtain ⟨y, hy⟩ : ∃ y, y = gr lkR l k := ⟨_, rfl⟩
  rw [← hy] at e hp ⊢
  rw [e, List.find?_append, h1, List.find?_cons, hp]
  rfl
theorem idxQ (g : Nat) (lb : Array Value) (eg : ∀ args w, (callFunc g args).run Tryz.prog w = .ok (.enter g args) w) (p : Lk → Bool) (A : Option Addr) (c B : Nat) (l : List Lk) (w : World) (hr : Reads w B 4 A l.length (rc lkR l)) (hB : B ≤ w.heap.size) (hl : l.length ≤ 1000)
    (h : ∀ x W, Below w.heap.size w W → Calls Tryz.prog g (#[lkV x] ++ lb) W (BoolIs (p x) W)) :
    Calls Tryz.prog 79 #[.slice A l.length c, .func (.func g) #[] lb] w fun e w' => ∃ r, e = .returned (.int .i64 r) ∧ IxP p l r ∧ Below w.heap.size w w' :=
  (idxfL g lb eg p (PureSt [] w) [] (pure_qL (fun x W hk => h x W hk.below0)) A c B l w hr hB (by simp) ⟨rfl, Kept.refl _ _⟩ (by omega)).mono fun e w' ⟨r, S', he, hx, hm⟩ => ⟨r, he, by
    rcases hx with ⟨hr, hno, _⟩ | ⟨k, hk, hr, hp, hno, _⟩
    · exact .inl ⟨hr, find_not hno⟩
    · exact .inr ⟨k, hk, hr, find_at hk hp hno⟩, by
    rcases hx with ⟨_, _, _, hk⟩ | ⟨_, _, _, _, _, _, hk⟩
    · exact hk.below0
    · exact hk.below0⟩
def zeroL : Lk := ⟨⟨#[]⟩, ⟨0, 0⟩, 0⟩
def WantEnds (q : Tb) (id : Idn) (w : World) (e : Ending) (w' : World) : Prop := e = .returned (.tuple #[lkV ((wantsL q id).getD zeroL), .bool (wantsL q id).isSome]) ∧ Below w.heap.size w w'
theorem wants_eq (q : Tb) (id : Idn) : wantsL q id = q.wait.find? (fun x => eqI x.id id) := by
  unfold wantsL
  congr 1
  funext l
  exact (eqI_dec _ _).symm
theorem lk_eta (y : Lk) : lkV y = .agg #[.string y.key, .int .i64 y.id.n, .int .i64 y.id.c, .int .i64 y.mode] := rfl
theorem results_lock {fn : Func} {p t : Tmp} (h : fn.results = #[.cell p 62, .tmp t]) (tmps : Array Value) (w : World) (y : Lk) (g : Nat) (ha : tmps.getD p undef = .pointer (some ⟨g, 0, none⟩)) (hb : Blk w g 62 #[.string y.key, .int .i64 y.id.n, .int .i64 y.id.c, .int .i64 y.mode]) :
    (results fn tmps).run Tryz.prog w = .ok (.tuple #[lkV y, tmps.getD t undef]) w := by
  have hl := run_loadVar_mid (P := Tryz.prog) w g 0 62 [.string y.key, .int .i64 y.id.n, .int .i64 y.id.c, .int .i64 y.mode] _ hb.range Tryz.underlying62 rfl (by kernel_rfl)
  rw [Array.getD_eq_getD_getElem?] at ha
  simp [results, h, ha, asAddr, hl, lkV]
set_option maxHeartbeats 4000000 in
set_option maxRecDepth 100000 in
theorem wants_any {w : World} {d : Nat} {q : Tb} {m : TbM} (h : TbAt w d q m) (id : Idn) : Calls Tryz.prog 36 #[.pointer (some ⟨d, 0, none⟩), idV id] w (WantEnds q id w) := by
  have HH := Lib.hid h
  have HWE := Lib.hid (wants_eq q id)
  clear h
  unfold idV
  go_enter Tryz.func36, Tryz.ntmps36
  go_upto_region 1 with fail
  have k1 := (Blk.new w 29 #[.int .i64 id.n, .int .i64 id.c]).alloc (.cells #[.string ⟨#[]⟩, .int .i64 0, .int .i64 0, .int .i64 0] 62)
  have k2 := Blk.new (w.alloc (.cells #[.int .i64 id.n, .int .i64 id.c] 29)) 62 #[.string ⟨#[]⟩, .int .i64 0, .int .i64 0, .int .i64 0]
  simp only [World.size_alloc] at k2
  have HB := Lib.hid ((below_alloc w (.cells #[.int .i64 id.n, .int .i64 id.c] 29)).alloc (by simp) (.cells #[.string ⟨#[]⟩, .int .i64 0, .int .i64 0, .int .i64 0] 62))
  obtain ⟨w2, hw2⟩ : ∃ w2, w2 = ((w.alloc (.cells #[.int .i64 id.n, .int .i64 id.c] 29)).alloc (.cells #[.string ⟨#[]⟩, .int .i64 0, .int .i64 0, .int .i64 0] 62)) := ⟨_, rfl⟩
  obtain ⟨p1, hp1⟩ : ∃ p1, p1 = w.heap.size := ⟨_, rfl⟩
  obtain ⟨p2, hp2⟩ : ∃ p2, p2 = w.heap.size + 1 := ⟨_, rfl⟩
  rw [← hw2] at HB k1 k2
  rw [← hp1] at k1
  rw [← hp2] at k2
  rw [← hw2]
  rw [← hp2]
  rw [← hp1]
  have HPX : Hid (w.heap.size ≤ p2) := Lib.hid (by omega)
  clear hw2 hp1 hp2
  have HT2 := Lib.hid (HH.out.below HB.out)
  have y2 : w2.cell? ⟨d, 2, none⟩ = some (.slice m.aw q.wait.length m.cw) := HT2.out.c2
  have HK2 := Lib.hid k2
  have HP2 : Hid (w.heap.size ≤ p2) := Lib.hid HPX.out
  have HC := Lib.hid (idxQ 80 #[.pointer (some ⟨p1, 0, none⟩)] (enters_of Tryz.func80 (by kernel_rfl) rfl) (fun x => eqI x.id id) m.aw m.cw w2.heap.size q.wait w2 (Reads.of_own HT2.out.ow) (Nat.le_refl _) (by have := HH.out.fh; omega)
    (fun x W hb => wid_any x id p1 W (k1.below hb k1.lt)))
  clear k1 k2
  go_wp2_with fail
  refine HC.out.mono ?_
  rintro e w3 ⟨r, rfl, hx, hb⟩
  have HB3 := Lib.hid (HB.out.trans (hb.mono HB.out.size))
  have HT3 := Lib.hid (HT2.out.below hb)
  have k3 := HK2.out.below hb HK2.out.lt
  clear hb y2
  rcases hx with ⟨rfl, hno⟩ | ⟨k, hk, rfl, hy⟩
  · have HR : Hid (wantsL q id = none) := Lib.hid (HWE.out.trans hno)
    clear hno
    have z0 : w3.cell? ⟨p2, 0, none⟩ = some (.string ⟨#[]⟩) := k3.cell 0
    have z1 : w3.cell? ⟨p2, 1, none⟩ = some (.int .i64 0) := k3.cell 1
    have z2 : w3.cell? ⟨p2, 2, none⟩ = some (.int .i64 0) := k3.cell 2
    have z3 : w3.cell? ⟨p2, 3, none⟩ = some (.int .i64 0) := k3.cell 3
    have f0 := k3.frozen 0
    have f1 := k3.frozen 1
    have f2 := k3.frozen 2
    have f3 := k3.frozen 3
    have HK3 := Lib.hid k3
    clear k3
    have HKR := Lib.hid (Blk.setAll [.string ⟨#[]⟩, .int .i64 0, .int .i64 0, .int .i64 0] (p := 0) HK3.out)
    have HBR := Lib.hid (belowAll [.string ⟨#[]⟩, .int .i64 0, .int .i64 0, .int .i64 0] (g := p2) (p := 0) HB3.out HP2.out)
    obtain ⟨w4, hw4⟩ : ∃ w4, w4 = w3.setCells p2 0 [.string ⟨#[]⟩, .int .i64 0, .int .i64 0, .int .i64 0] := ⟨_, rfl⟩
    rw [← hw4] at HKR HBR
    go_wp2
    refine bodyPost_ret (w := w3.setCells p2 0 [.string ⟨#[]⟩, .int .i64 0, .int .i64 0, .int .i64 0]) (results_lock rfl _ _ zeroL p2 rfl (by rw [← hw4]; exact HKR.out)) rfl ?_
    unfold WantEnds
    rw [HR.out, ← hw4]
    exact ⟨rfl, HBR.out⟩
  · have HR : Hid (wantsL q id = some (gr lkR q.wait k)) := Lib.hid (HWE.out.trans hy)
    have y3 : w3.cell? ⟨d, 2, none⟩ = some (.slice m.aw q.wait.length m.cw) := HT3.out.c2
    obtain ⟨g, off, hA, _, a0, a1, a2, a3⟩ := rdL (Reads.of_own HT3.out.ow) hk
    rw [hA] at y3
    obtain ⟨y, hyy⟩ : ∃ y, y = gr lkR q.wait k := ⟨_, rfl⟩
    rw [← hyy] at a0 a1 a2 a3 HR
    have kL : (0 : Int) ≤ (k : Int) := by omega
    have kU : (k : Int) < (q.wait.length : Int) := by omega
    have kN : decide ((k : Int) < 0) = false := decide_eq_false (by omega)
    have z0 : w3.cell? ⟨p2, 0, none⟩ = some (.string ⟨#[]⟩) := k3.cell 0
    have z1 : w3.cell? ⟨p2, 1, none⟩ = some (.int .i64 0) := k3.cell 1
    have z2 : w3.cell? ⟨p2, 2, none⟩ = some (.int .i64 0) := k3.cell 2
    have z3 : w3.cell? ⟨p2, 3, none⟩ = some (.int .i64 0) := k3.cell 3
    have f0 := k3.frozen 0
    have f1 := k3.frozen 1
    have f2 := k3.frozen 2
    have f3 := k3.frozen 3
    have HK3 := Lib.hid k3
    clear k3 hy hyy
    have HKR := Lib.hid (Blk.setAll [.string y.key, .int .i64 y.id.n, .int .i64 y.id.c, .int .i64 y.mode] (p := 0) HK3.out)
    have HBR := Lib.hid (belowAll [.string y.key, .int .i64 y.id.n, .int .i64 y.id.c, .int .i64 y.mode] (g := p2) (p := 0) HB3.out HP2.out)
    obtain ⟨w4, hw4⟩ : ∃ w4, w4 = w3.setCells p2 0 [.string y.key, .int .i64 y.id.n, .int .i64 y.id.c, .int .i64 y.mode] := ⟨_, rfl⟩
    rw [← hw4] at HKR HBR
    go_wp2
    refine bodyPost_ret (w := w3.setCells p2 0 [.string y.key, .int .i64 y.id.n, .int .i64 y.id.c, .int .i64 y.mode]) (results_lock rfl _ _ y p2 rfl (by rw [← hw4]; exact HKR.out)) rfl ?_
    unfold WantEnds
    rw [HR.out, ← hw4]
    exact ⟨rfl, HBR.out⟩
end Go.Proofs.YtpidpdbjjdkhoaaGreat
