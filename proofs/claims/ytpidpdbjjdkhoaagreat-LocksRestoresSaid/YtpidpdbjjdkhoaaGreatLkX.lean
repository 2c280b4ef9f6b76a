/- Locks: End, the walk. -/
import Derived.Test.YtpidpdbjjdkhoaaGreatLkW
namespace Go.Proofs.YtpidpdbjjdkhoaaGreat
open Go.RowKit
set_option linter.unusedSimpArgs false
set_option linter.unusedVariables false
attribute [local go_sem ↓] Go.wp_at_zero Go.wp_at_succ

def EndEnds (d : Nat) (q : Tb) (m : TbM) (id : Idn) (w : World) (e : Ending) (w' : World) : Prop :=
  ∃ A c, e = .returned (.slice A (endS q id).2.length c) ∧ w'.ownsRow 0 62 4 (.slice A (endS q id).2.length c) (endS q id).2.length (rc lkR (endS q id).2) ∧ (∀ k ∈ ob A, w.heap.size ≤ k) ∧
    ∃ m', TbAt w' d (endS q id).1 m' ∧ Moves (fpT d m) (fpT d m') w w' ∧ ∀ k ∈ ob A, k ∉ fpT d m'
/-- the lists let go of, one behind the other -/
def cutH (q : Tb) (id : Idn) : Tb := ⟨q.most, q.held.filter (fun x => decide (x.id ≠ id)), q.wait, q.prep, q.hurt⟩
def cutW (q : Tb) (id : Idn) : Tb := ⟨q.most, q.held.filter (fun x => decide (x.id ≠ id)), q.wait.filter (fun x => decide (x.id ≠ id)), q.prep, q.hurt⟩
def cutP (q : Tb) (id : Idn) : Tb := ⟨q.most, q.held.filter (fun x => decide (x.id ≠ id)), q.wait.filter (fun x => decide (x.id ≠ id)), q.prep.filter (fun x => decide (x ≠ id)), q.hurt⟩
theorem Src.lck {P : Program} {w : World} {tx e' : TypeId} (hk : P.underlying tx = some (.slice e')) (x : Lk) (t : TypeId) :
    Src P 4 tx (.slice (some ⟨w.heap.size, 0, none⟩) 1 1) 1 (lkR.cells x) (w.alloc (.cells #[.string x.key, .int .i64 x.id.n, .int .i64 x.id.c, .int .i64 x.mode] t)) :=
  Src.ofSlice (P := P) _ hk _ 1 1 (lkR.cells x) rfl (fun j u hu => by
    rw [Addr.add_lit, Nat.zero_add]
    exact ((Blk.new w t (lkR.cells x).toArray).cell j).trans (by simpa using hu)) (lkR.one x)
theorem cutH_good {q : Tb} (h : Good q) (id : Idn) : Good (cutH q id) := ⟨srt_filter h.sh _, h.sw, h.sp, h.su, fun x hx => h.hs x (List.mem_filter.1 hx).1, h.ws⟩
theorem cutW_good {q : Tb} (h : Good q) (id : Idn) : Good (cutW q id) := ⟨srt_filter h.sh _, srt_filter h.sw _, h.sp, h.su, fun x hx => h.hs x (List.mem_filter.1 hx).1, fun x hx => h.ws x (List.mem_filter.1 hx).1⟩
theorem cutP_good {q : Tb} (h : Good q) (id : Idn) : Good (cutP q id) := ⟨srt_filter h.sh _, srt_filter h.sw _, srt_filter h.sp _, h.su, fun x hx => h.hs x (List.mem_filter.1 hx).1, fun x hx => h.ws x (List.mem_filter.1 hx).1⟩
/-- in the loops: the table of s.1, the row got of s.2, the row of the keys, all apart -/
structure GSt (d : Nat) (m : TbM) (w : World) (KS : List ByteArray) (Ak : Option Addr) (ck : Nat) (s : Tb × List Lk) (A : Option Addr) (c : Nat) (m' : TbM) (wr : World) : Prop where
  tb : TbAt wr d s.1 m'
  own : wr.ownsRow 0 62 4 (.slice A s.2.length c) s.2.length (rc lkR s.2)
  mv : Moves (fpT d m) (fpT d m') w wr
  fr : ∀ y ∈ ob A, w.heap.size ≤ y
  ap : ∀ y ∈ ob A, y ∉ fpT d m'
  ky : wr.ownsRow 0 9 1 (.slice Ak KS.length ck) KS.length (rc strR KS)
  kd : ∀ y ∈ ob Ak, y ∉ fpT d m'
  sum : s.2.length + s.1.wait.length ≤ 1000
section
variable {d : Nat} {m m' m'' : TbM} {w w1 w2 : World} {KS : List ByteArray} {Ak : Option Addr} {ck : Nat} {s : Tb × List Lk} {A : Option Addr} {c : Nat}
theorem GSt.more (h : GSt d m w KS Ak ck s A c m' w1) (hb : Below w1.heap.size w1 w2) : GSt d m w KS Ak ck s A c m' w2 :=
  ⟨h.tb.below hb, (Kept.of_below (S := []) hb).own h.own (by simp), h.mv.trans (Moves.of_below hb), h.fr, h.ap, (Kept.of_below (S := []) hb).own h.ky (by simp), h.kd, h.sum⟩
/-- the table alone turns -/
theorem GSt.turn {t : Tb} (h : GSt d m w KS Ak ck s A c m' w1) (hT : TbAt w2 d t m'') (hm : Moves (fpT d m') (fpT d m'') w1 w2) (hs : s.2.length + t.wait.length ≤ 1000) : GSt d m w KS Ak ck (t, s.2) A c m'' w2 :=
  ⟨hT, hm.kept.own h.own (fun g hg hf => h.ap g (ownBlock_mem.1 hg) hf), h.mv.trans hm, h.fr, fun k hk hf => (hm.foot k hf).elim (fun h1 => h.ap k hk h1) (fun h1 => by have := own_lt h.own k hk; omega),
    hm.kept.own h.ky (fun g hg hf => h.kd g (ownBlock_mem.1 hg) hf), fun k hk hf => (hm.foot k hf).elim (fun h1 => h.kd k hk h1) (fun h1 => by have := own_lt h.ky k hk; omega), hs⟩
/-- the answer's row grows -/
theorem GSt.add {L : List Lk} {A1 : Option Addr} {c1 : Nat} (h : GSt d m w KS Ak ck s A c m' w1) (hm : Moves (ob A) (ob A1) w1 w2) (ho : w2.ownsRow 0 62 4 (.slice A1 L.length c1) L.length (rc lkR L)) (hs : L.length + s.1.wait.length ≤ 1000) :
    GSt d m w KS Ak ck (s.1, L) A1 c1 m' w2 :=
  ⟨h.tb.kept hm.kept (fun k hk hA => h.ap k hA hk), ho, ⟨h.mv.kept.trans hm.kept (fun y hy => .inr (h.fr y hy)), h.mv.foot⟩, fun y hy => (hm.foot y hy).elim (h.fr y) (fun h1 => Nat.le_trans h.mv.kept.size h1),
    fun y hy hf => (hm.foot y hy).elim (fun h1 => h.ap y h1 hf) (fun h1 => by have := h.tb.lt y hf; omega), hm.kept.own h.ky (fun g hg hA => own_own_ne h.own h.ky (by decide) g hA (ownBlock_mem.1 hg)), h.kd, hs⟩
end
def kS (q : Tb) (id : Idn) (i : Nat) : Tb × List Lk := ((keysOf q id).take i).foldl grantK (strip q id, [])
theorem kS_on {q : Tb} {id : Idn} {i : Nat} {k : ByteArray} (h : (keysOf q id)[i]? = some k) : kS q id (i + 1) = grantK (kS q id i) k := by
  unfold kS
  rw [take_on h, List.foldl_append]
  rfl
theorem kS_all (q : Tb) (id : Idn) : kS q id (keysOf q id).length = endS q id := by unfold kS endS; rw [List.take_length]
def GRel (d : Nat) (q : Tb) (m : TbM) (id : Idn) (w : World) (Ak : Option Addr) (ck : Nat) (o iv : Value) (wr : World) : Prop :=
  ∃ (i : Nat) (A : Option Addr) (c : Nat) (m' : TbM), iv = .int .i64 i ∧ i ≤ (keysOf q id).length ∧ o = .slice A (kS q id i).2.length c ∧ GSt d m w (keysOf q id) Ak ck (kS q id i) A c m' wr
def jS (s : Tb × List Lk) (k : ByteArray) (j : Nat) : Tb × List Lk := (s.1.wait.take j).foldl (grant1 k) s
theorem jS_on {s : Tb × List Lk} {k : ByteArray} {j : Nat} {l : Lk} (h : s.1.wait[j]? = some l) : jS s k (j + 1) = grant1 k (jS s k j) l := by
  unfold jS
  rw [take_on h, List.foldl_append]
  rfl
theorem jS_all (s : Tb × List Lk) (k : ByteArray) : jS s k s.1.wait.length = grantK s k := by unfold jS grantK; rw [List.take_length]
def HRel (d : Nat) (m : TbM) (w : World) (KS : List ByteArray) (Ak : Option Addr) (ck : Nat) (s : Tb × List Lk) (k : ByteArray) (Ac : Option Addr) (cc : Nat) (o jv : Value) (wr : World) : Prop :=
  ∃ (j : Nat) (A : Option Addr) (c : Nat) (m' : TbM), jv = .int .i64 j ∧ j ≤ s.1.wait.length ∧ o = .slice A (jS s k j).2.length c ∧ GSt d m w KS Ak ck (jS s k j) A c m' wr ∧
    wr.ownsRow 0 62 4 (.slice Ac s.1.wait.length cc) s.1.wait.length (rc lkR s.1.wait) ∧ (∀ y ∈ ob Ac, y ∉ fpT d m' ∧ y ∉ ob A) ∧ ∀ x ∈ s.1.wait.drop j, x ∈ (jS s k j).1.wait
set_option maxHeartbeats 16000000 in
set_option maxRecDepth 100000 in
theorem end_any {w : World} {d : Nat} {q : Tb} {m : TbM} (h : TbAt w d q m) (id : Idn) (hpm : q.prep.length ≤ 1000000 ∧ q.hurt.length ≤ 1000000) : Calls Tryz.prog 18 #[.pointer (some ⟨d, 0, none⟩), idV id] w (EndEnds d q m id w) := by
  have HH := Lib.hid h
  have HPM := Lib.hid hpm
  clear h hpm
  unfold idV
  go_enter Tryz.func18, Tryz.ntmps18
  go_upto_region 3 with fail
  have k1 := (Blk.new w 29 #[.int .i64 id.n, .int .i64 id.c]).alloc (.cells #[.slice none 0 0] 80)
  have k2 := Blk.new (w.alloc (.cells #[.int .i64 id.n, .int .i64 id.c] 29)) 80 #[.slice none 0 0]
  simp only [World.size_alloc] at k2
  have HB := Lib.hid ((below_alloc w (.cells #[.int .i64 id.n, .int .i64 id.c] 29)).alloc (by simp) (.cells #[.slice none 0 0] 80))
  obtain ⟨w2, hw2⟩ : ∃ w2, w2 = ((w.alloc (.cells #[.int .i64 id.n, .int .i64 id.c] 29)).alloc (.cells #[.slice none 0 0] 80)) := ⟨_, rfl⟩
  obtain ⟨p1, hp1⟩ : ∃ p1, p1 = w.heap.size := ⟨_, rfl⟩
  obtain ⟨p2, hp2⟩ : ∃ p2, p2 = w.heap.size + 1 := ⟨_, rfl⟩
  rw [← hw2] at HB k1 k2
  rw [← hp1] at k1
  rw [← hp2] at k2
  rw [← hw2]
  rw [← hp2]
  rw [← hp1]
  have HPX : Hid (w.heap.size ≤ p1 ∧ w.heap.size ≤ p2) := Lib.hid (by omega)
  clear hw2 hp1 hp2
  have HT2 := Lib.hid (HH.out.below HB.out)
  have HLT := Lib.hid (fun k (hk : k ∈ fpT d m) => show k < w.heap.size from HH.out.lt k hk)
  have n1 : p1 ∉ fpT d m := fun hk => by have := HLT.out _ hk; have := HPX.out.1; omega
  have n2 : p2 ∉ fpT d m := fun hk => by have := HLT.out _ hk; have := HPX.out.2; omega
  have HN1 := Lib.hid n1
  have HN2 := Lib.hid n2
  have hE0 : EndSt id [] p1 p2 [] [p2] w2 := ⟨⟨none, 0, rfl, by rw [kk_0]; exact k2, by rw [kk_0]; exact World.ownsRow_nil _ _ _ _⟩, k1, by simp⟩
  have hin : ∀ k, k ∈ ob m.ah → k ∈ fpT d m := fun k hk => by simp only [fpT, List.mem_cons, List.mem_append]; simp [hk]
  have hiw : ∀ k, k ∈ ob m.aw → k ∈ fpT d m := fun k hk => by simp only [fpT, List.mem_cons, List.mem_append]; simp [hk]
  have HIN := Lib.hid hin
  have HIW := Lib.hid hiw
  have HD1 := Lib.hid (delfL 55 #[.pointer (some ⟨p1, 0, none⟩), .pointer (some ⟨p2, 0, none⟩)] (enters_of Tryz.func55 (by kernel_rfl) rfl) (fun x => eqI x.id id) (EndSt id [] p1 p2) [p2] (endQ id [] p1 p2) m.ah (fun pre S W W' h hk hd => endSt_kept h hk hd (fun hm => n1 (hin _ hm))) endSt_lt m.ch q.held w2 HT2.out.oh (fun k hk hm => n2 (by rw [List.mem_singleton] at hm; exact hm ▸ hin _ hk)) hE0 (by have := HH.out.fh; omega))
  have y1 : w2.cell? ⟨d, 1, none⟩ = some (.slice m.ah q.held.length m.ch) := HT2.out.c1
  clear k1 k2 hE0 n1 n2 hin hiw
  go_wp2_with fail
  refine HD1.out.mono ?_
  clear HD1
  rintro e w3 ⟨he, ho, S1, hs1, hd1, hm1⟩
  rw [keep_id] at he ho
  subst he
  have HM1 := Lib.hid hm1
  have HO1 := Lib.hid ho
  have HS1 := Lib.hid hs1
  have HD1 := Lib.hid hd1
  clear ho hs1 hd1 hm1 y1
  have HF1 := Lib.hid (show ∀ k ∈ fpT d m, k ∉ S1 from end_foot HM1.out HD1.out (fun k hk => ⟨HT2.out.lt k hk, fun hm => HN2.out (by rw [List.mem_singleton] at hm; exact hm ▸ hk)⟩))
  have hT : ∀ k ∈ ob m.ah ++ [p2], k ∈ ob m.ah ∨ k ∉ fpT d m := fun k hk => (List.mem_append.1 hk).imp (fun h => h) (fun h => by rw [List.mem_singleton.1 h]; exact HN2.out)
  have HT4 := Lib.hid (show TbAt _ d (cutH q id) m from HT2.out.delH HM1.out.kept hT HO1.out (cutH_good HH.out.good id) (by have := HH.out.fh; have := List.length_filter_le (fun x : Lk => decide (x.id ≠ id)) q.held; omega))
  have hbd3 := HM1.out.kept.blk HT2.out.blk (fun hm => (hT d hm).elim HH.out.dh (fun h => h (by simp [fpT])))
  have c1 : w3.cell? ⟨d, 1, none⟩ = some (.slice m.ah q.held.length m.ch) := hbd3.cell 1
  have f1 := hbd3.frozen 1
  clear hT hbd3
  obtain ⟨h1, hh1⟩ : ∃ h1, h1 = (q.held.filter fun x => decide (x.id ≠ id)).length := ⟨_, rfl⟩
  have HH1 := Lib.hid hh1
  rw [← hh1]
  rw [← hh1] at HT4
  clear hh1
  go_upto_region 4 with fail
  obtain ⟨w4, hw4⟩ : ∃ w4, w4 = w3.setCells d 1 [.slice m.ah h1 m.ch] := ⟨_, rfl⟩
  rw [← hw4] at HT4
  have HK34 : Hid (Kept [d] w3 w4) := Lib.hid (by rw [hw4]; exact keptAll _ (Kept.refl _ _) (.inl (by simp)))
  have hw4b : w3.setCell ⟨d, 1, none⟩ (.slice m.ah h1 m.ch) = w4 := hw4.symm
  rw [hw4b]
  clear hw4 hw4b c1 f1
  have HDF : Hid (d ∈ fpT d m) := Lib.hid (by simp [fpT])
  have HP1D : Hid (p1 ∉ [d]) := Lib.hid (fun hm => HN1.out (by rw [List.mem_singleton.1 hm]; exact HDF.out))
  have HS4 := Lib.hid (endSt_kept HS1.out HK34.out (fun k hk hm => HF1.out d HDF.out (by rw [← List.mem_singleton.1 hk]; exact hm)) HP1D.out)
  have HG1 : Hid (∀ x ∈ S1, x ∈ fpT d m ∨ w.heap.size ≤ x) := Lib.hid (fun x hx => by
    rcases HM1.out.foot x (List.mem_append.2 (.inr hx)) with h1 | h1
    · exact (List.mem_append.1 h1).elim (fun h => .inl (HIN.out _ h)) (fun h => .inr (by rw [List.mem_singleton.1 h]; exact HPX.out.2))
    · exact .inr (Nat.le_trans HB.out.size h1))
  have HW3 : Hid (Kept (fpT d m) w w3) := Lib.hid ((Kept.of_below HB.out).trans HM1.out.kept (fun x hx => (List.mem_append.1 hx).elim (fun h => .inl (HIN.out _ h)) (fun h => .inr (by rw [List.mem_singleton.1 h]; exact HPX.out.2))))
  have HW4 : Hid (Kept (fpT d m) w w4) := Lib.hid (HW3.out.trans HK34.out (fun x hx => .inl (by rw [List.mem_singleton.1 hx]; exact HDF.out)))
  have hsz4 := HW4.out.size
  have HLT4 : Hid (∀ k ∈ fpT d m, k < w4.heap.size) := Lib.hid (fun k hk => Nat.lt_of_lt_of_le (HLT.out k hk) HW4.out.size)
  obtain ⟨K1, hK1⟩ : ∃ K1, K1 = kk id [] q.held := ⟨_, rfl⟩
  have hE1 : EndSt id K1 p1 p2 [] S1 w4 := by
    have h4 := HS4.out
    unfold EndSt at h4 ⊢
    rw [kk_0, hK1]
    exact ⟨h4.1, h4.2.1, by have := kk_len id [] q.held; have := HH.out.fh; simp only [List.length_nil] at *; omega⟩
  have HK1 := Lib.hid hK1
  clear hK1 HS4
  have HD2 := Lib.hid (delfL 55 #[.pointer (some ⟨p1, 0, none⟩), .pointer (some ⟨p2, 0, none⟩)] (enters_of Tryz.func55 (by kernel_rfl) rfl) (fun x => eqI x.id id) (EndSt id K1 p1 p2) S1 (endQ id K1 p1 p2) m.aw (fun pre S W W' h hk hd => endSt_kept h hk hd (fun hm => HN1.out (HIW.out _ hm))) endSt_lt m.cw q.wait w4 HT4.out.ow (fun k hk hm => HF1.out k (HIW.out _ hk) hm) hE1 (by have := HH.out.fh; omega))
  have y2 : w4.cell? ⟨d, 2, none⟩ = some (.slice m.aw q.wait.length m.cw) := HT4.out.c2
  clear hE1 hsz4
  go_wp2_with fail
  refine HD2.out.mono ?_
  clear HD2
  rintro e w5 ⟨he, ho, S2, hs2, hd2, hm2⟩
  rw [keep_id] at he ho
  subst he
  have HM2 := Lib.hid hm2
  have HO2 := Lib.hid ho
  have HS2 := Lib.hid hs2
  have HD2 := Lib.hid hd2
  clear ho hs2 hd2 hm2 y2
  have HF2 := Lib.hid (show ∀ k ∈ fpT d m, k ∉ S2 from end_foot HM2.out HD2.out (fun k hk => ⟨HLT4.out k hk, HF1.out k hk⟩))
  have hT : ∀ k ∈ ob m.aw ++ S1, k ∈ ob m.aw ∨ k ∉ fpT d m := fun k hk => (List.mem_append.1 hk).imp (fun h => h) (fun h hf => HF1.out k hf h)
  have HT6 := Lib.hid (show TbAt _ d (cutW q id) m from HT4.out.delW HM2.out.kept hT HO2.out (cutW_good HH.out.good id) (by have := HT4.out.fh; have := List.length_filter_le (fun x : Lk => decide (x.id ≠ id)) q.wait; simp only [cutH] at *; omega))
  have hbd3 := HM2.out.kept.blk HT4.out.blk (fun hm => (hT d hm).elim HH.out.dw (fun h => h (by simp [fpT])))
  have c2 : w5.cell? ⟨d, 2, none⟩ = some (.slice m.aw q.wait.length m.cw) := hbd3.cell 2
  have f2 := hbd3.frozen 2
  have HW5 : Hid (Kept (fpT d m) w w5) := Lib.hid (HW4.out.trans HM2.out.kept (fun x hx => (List.mem_append.1 hx).elim (fun h => .inl (HIW.out _ h)) (fun h => HG1.out x h)))
  have HG2 : Hid (∀ x ∈ S2, x ∈ fpT d m ∨ w.heap.size ≤ x) := Lib.hid (fun x hx => by
    rcases HM2.out.foot x (List.mem_append.2 (.inr hx)) with h1 | h1
    · exact (List.mem_append.1 h1).elim (fun h => .inl (HIW.out _ h)) (fun h => HG1.out x h)
    · exact .inr (Nat.le_trans HW4.out.size h1))
  clear hT hbd3
  obtain ⟨h2, hh2⟩ : ∃ h2, h2 = (q.wait.filter fun x => decide (x.id ≠ id)).length := ⟨_, rfl⟩
  have HH2 := Lib.hid hh2
  rw [← hh2]
  rw [← hh2] at HT6
  clear hh2
  go_upto_region 5 with fail
  obtain ⟨w6, hw6⟩ : ∃ w6, w6 = w5.setCells d 2 [.slice m.aw h2 m.cw] := ⟨_, rfl⟩
  rw [← hw6] at HT6
  have HK56 : Hid (Kept [d] w5 w6) := Lib.hid (by rw [hw6]; exact keptAll _ (Kept.refl _ _) (.inl (by simp)))
  have hw6b : w5.setCell ⟨d, 2, none⟩ (.slice m.aw h2 m.cw) = w6 := hw6.symm
  rw [hw6b]
  clear hw6 hw6b c2 f2
  have HS6 := Lib.hid (endSt_kept HS2.out HK56.out (fun k hk hm => HF2.out d HDF.out (by rw [← List.mem_singleton.1 hk]; exact hm)) HP1D.out)
  have HW6 : Hid (Kept (fpT d m) w w6) := Lib.hid (HW5.out.trans HK56.out (fun x hx => .inl (by rw [List.mem_singleton.1 hx]; exact HDF.out)))
  clear HM1 HM2 HO1 HO2 HS1 HS2 HD1 HD2 HT4 HW3 HW4 HW5 HK34 HK56 HLT4 HT2 HB HG1 HF1
  have HTD := Lib.hid (HT6.out.below (below_drewN (Below.refl _ _) 1 : Below w6.heap.size w6 w6.drew))
  have HSD := Lib.hid (endSt_kept HS6.out (Kept.of_below (S := []) (below_drewN (Below.refl _ _) 1 : Below w6.heap.size w6 w6.drew)) (by simp) (by simp))
  have hS : w6.drew.cell? ⟨p1, 0, none⟩ = some (.int .i64 id.n) ∧ w6.drew.cell? ⟨p1, 1, none⟩ = some (.int .i64 id.c) ∧ w6.drew.cell? ⟨d, 3, none⟩ = some (.slice m.ap q.prep.length m.cp) := ⟨HSD.out.2.1.cell 0, HSD.out.2.1.cell 1, HTD.out.c3⟩
  have HWO := Lib.hid (withoutI m.ap m.cp q.prep id w6.drew HTD.out.op (by have := HPM.out; omega))
  unfold WithoutEndsI idV at HWO
  have hia : ∀ k, k ∈ ob m.ap → k ∈ fpT d m := fun k hk => by simp only [fpT, List.mem_cons, List.mem_append]; simp [hk]
  have HIA := Lib.hid hia
  clear hia
  refine wp_region_last_held (S := fun w' => w'.cell? ⟨p1, 0, none⟩ = some (.int .i64 id.n) ∧ w'.cell? ⟨p1, 1, none⟩ = some (.int .i64 id.c) ∧ w'.cell? ⟨d, 3, none⟩ = some (.slice m.ap q.prep.length m.cp)) (ops := #[{ dst := some 31, op := Op.move (Operand.tmp 0), type := 23, pos := "locks.go:156", after := #[], guard := none }, { dst := some 32, op := Op.move (Operand.tmp 0), type := 23, pos := "locks.go:156", after := #[], guard := none }, { dst := some 33, op := Op.nilCheck (Operand.tmp 32), type := 0, pos := "locks.go:156", after := #[{ on := 1, ground := Ground.data }], guard := none }, { dst := some 34, op := Op.fieldAddr 47 (Operand.tmp 33) 3, type := 0, pos := "locks.go:156", after := #[{ on := 2, ground := Ground.data }], guard := none }, { dst := some 35, op := Op.load 36 (Operand.tmp 34), type := 36, pos := "locks.go:156", after := #[{ on := 3, ground := Ground.data }], guard := none }, { dst := some 36, op := Op.load 29 (Operand.tmp 3), type := 29, pos := "locks.go:156", after := #[], guard := none }, { dst := some 37, op := Op.call { callee := Callee.value (Operand.func 57), args := #[Operand.tmp 35, Operand.tmp 36], argTypes := #[36, 29] }, type := 36, pos := "locks.go:156", after := #[{ on := 4, ground := Ground.data }, { on := 5, ground := Ground.data }], guard := none }, { dst := some 38, op := Op.nilCheck (Operand.tmp 31), type := 0, pos := "locks.go:156", after := #[{ on := 0, ground := Ground.data }, { on := 0, ground := Ground.phase }, { on := 1, ground := Ground.phase }, { on := 2, ground := Ground.phase }, { on := 3, ground := Ground.phase }, { on := 4, ground := Ground.phase }, { on := 5, ground := Ground.phase }, { on := 6, ground := Ground.phase }], guard := none }, { dst := some 39, op := Op.fieldAddr 47 (Operand.tmp 38) 3, type := 0, pos := "locks.go:156", after := #[{ on := 7, ground := Ground.data }, { on := 0, ground := Ground.phase }, { on := 1, ground := Ground.phase }, { on := 2, ground := Ground.phase }, { on := 3, ground := Ground.phase }, { on := 4, ground := Ground.phase }, { on := 5, ground := Ground.phase }, { on := 6, ground := Ground.phase }], guard := none }]) (o := { dst := none, op := Op.store 36 (Operand.tmp 39) (Operand.tmp 37), type := 0, pos := "locks.go:156", after := #[{ on := 8, ground := Ground.data }, { on := 6, ground := Ground.data }, { on := 6, ground := Ground.chain }, { on := 0, ground := Ground.phase }, { on := 1, ground := Ground.phase }, { on := 2, ground := Ground.phase }, { on := 3, ground := Ground.phase }, { on := 4, ground := Ground.phase }, { on := 5, ground := Ground.phase }, { on := 6, ground := Ground.phase }], guard := none }) rfl (by kernel_rfl) (by kernel_rfl) (by kernel_rfl) hS (fun hHeld => ?_)
  refine takes [0, 1, 2, 3, 4, 5] 3 (by kernel_rfl) (by assumption) ?_
  iterate 6 (refine tkY rfl (fun _ _ _ h => h) rfl (by ((intro w hSw); (try dsimp only at hSw); go_simp; (try with_reducible rfl))) ?_; try simp only [Act.put, List.setIfInBounds_toArray, List.set_cons_zero, List.set_cons_succ])
  refine tkE ?_
  refine wpAnyH_ready (rs := [6]) (by kernel_rfl) (by simp) ?_
  refine readyC rfl (fun K hK => ?_) ?_
  ·
    go_simp
    go_at_call 57
    refine HWO.out.mono ?_
    rintro e u7 ⟨he, ho, hk⟩
    obtain ⟨FX, hFX⟩ : ∃ FX, FX = (q.prep.filter fun y => decide (y ≠ id)) := ⟨_, rfl⟩
    rw [← hFX] at he ho
    subst he
    have HFX := Lib.hid hFX
    clear hFX
    have HOX := Lib.hid ho
    have HKX := Lib.hid hk
    clear ho hk
    have HSX := Lib.hid (endSt_kept HSD.out HKX.out (fun k hk hm => HF2.out k (HIA.out k hk) hm) (fun hm => HN1.out (HIA.out _ hm)))
    have HDX := Lib.hid (HKX.out.blk HTD.out.blk HTD.out.dp)
    have hc8 : u7.cell? ⟨p1, 0, none⟩ = some (.int .i64 id.n) ∧ u7.cell? ⟨p1, 1, none⟩ = some (.int .i64 id.c) ∧ u7.cell? ⟨d, 3, none⟩ = some (.slice m.ap q.prep.length m.cp) := ⟨HSX.out.2.1.cell 0, HSX.out.2.1.cell 1, HDX.out.cell 3⟩
    go_wp2_with fail
    refine hK.out _ _ (hc8) (fun hHeld => ?_)
    clear hK K
    try simp only [Act.put, List.setIfInBounds_toArray, List.set_cons_zero, List.set_cons_succ]
    refine takes [7, 8] 0 (by kernel_rfl) (by assumption) ?_
    iterate 2 (refine tkY rfl (fun _ _ _ h => h) rfl (by ((intro w hSw); (try dsimp only at hSw); go_simp; (try with_reducible rfl))) ?_; try simp only [Act.put, List.setIfInBounds_toArray, List.set_cons_zero, List.set_cons_succ])
    refine tkE ?_
    refine wpAnyH_done (by kernel_rfl) ?_ _
    have f4 := HDX.out.frozen 3
    have z4 := hHeld.2.2
    have HTT := Lib.hid (HTD.out.setP HOX.out ⟨HKX.out, fun y hy => .inl hy⟩ (by rw [HFX.out]; exact cutP_good HH.out.good id) (by rw [HFX.out]; exact ⟨by have := HH.out.fm; have := List.length_filter_le (fun y : Idn => decide (y ≠ id)) q.prep; omega, HH.out.fm.2⟩)).1
    have HMX := Lib.hid (keptAll [.slice m.ap FX.length m.cp] (g := d) (p := 3) (Kept.refl [d] u7) (.inl (by simp)))
    have HW7 := Lib.hid (((HW6.out.trans (Kept.of_below (S := []) (below_drewN (Below.refl _ _) 1 : Below w6.heap.size w6 w6.drew)) (by simp)).trans HKX.out (fun x hx => .inl (HIA.out x hx))).trans HMX.out (fun x hx => .inl (by rw [List.mem_singleton.1 hx]; exact HDF.out)))
    have HS7 := Lib.hid (endSt_kept HSX.out HMX.out (fun k hk hm => HF2.out d HDF.out (by rw [← List.mem_singleton.1 hk]; exact hm)) HP1D.out)
    refine withLast_go (fun K hK => ?_)
    clear hHeld
    go_simp
    refine hK _ _ ?_
    clear hK K f4 z4 HMX HSX HDX HKX HOX HIA HWO HTD HSD hS HT6 HS6 HW6
    obtain ⟨w7, hwo⟩ : ∃ w7, w7 = u7.setCells d 3 [.slice m.ap FX.length m.cp] := ⟨_, rfl⟩
    rw [← hwo] at HTT HW7 HS7
    have hwob : u7.setCell ⟨d, 3, none⟩ (.slice m.ap FX.length m.cp) = w7 := hwo.symm
    rw [hwob]
    clear hwo hwob
    have hTT := HTT.out
    rw [HFX.out] at hTT
    have HT7 := Lib.hid (show TbAt w7 d (cutP q id) m from hTT)
    clear hTT HTT HFX
    go_upto_region 6 with fail
    have HTD := Lib.hid (HT7.out.below (below_drewN (Below.refl _ _) 1 : Below w7.heap.size w7 w7.drew))
    have HSD := Lib.hid (endSt_kept HS7.out (Kept.of_below (S := []) (below_drewN (Below.refl _ _) 1 : Below w7.heap.size w7 w7.drew)) (by simp) (by simp))
    have hS : w7.drew.cell? ⟨p1, 0, none⟩ = some (.int .i64 id.n) ∧ w7.drew.cell? ⟨p1, 1, none⟩ = some (.int .i64 id.c) ∧ w7.drew.cell? ⟨d, 4, none⟩ = some (.slice m.au q.hurt.length m.cu) := ⟨HSD.out.2.1.cell 0, HSD.out.2.1.cell 1, HTD.out.c4⟩
    have HWO := Lib.hid (withoutI m.au m.cu q.hurt id w7.drew HTD.out.ou (by have := HPM.out; omega))
    unfold WithoutEndsI idV at HWO
    have hia : ∀ k, k ∈ ob m.au → k ∈ fpT d m := fun k hk => by simp only [fpT, List.mem_cons, List.mem_append]; simp [hk]
    have HIA := Lib.hid hia
    clear hia
    refine wp_region_last_held (S := fun w' => w'.cell? ⟨p1, 0, none⟩ = some (.int .i64 id.n) ∧ w'.cell? ⟨p1, 1, none⟩ = some (.int .i64 id.c) ∧ w'.cell? ⟨d, 4, none⟩ = some (.slice m.au q.hurt.length m.cu)) (ops := #[{ dst := some 40, op := Op.move (Operand.tmp 0), type := 23, pos := "locks.go:157", after := #[], guard := none }, { dst := some 41, op := Op.move (Operand.tmp 0), type := 23, pos := "locks.go:157", after := #[], guard := none }, { dst := some 42, op := Op.nilCheck (Operand.tmp 41), type := 0, pos := "locks.go:157", after := #[{ on := 1, ground := Ground.data }], guard := none }, { dst := some 43, op := Op.fieldAddr 47 (Operand.tmp 42) 4, type := 0, pos := "locks.go:157", after := #[{ on := 2, ground := Ground.data }], guard := none }, { dst := some 44, op := Op.load 36 (Operand.tmp 43), type := 36, pos := "locks.go:157", after := #[{ on := 3, ground := Ground.data }], guard := none }, { dst := some 45, op := Op.load 29 (Operand.tmp 3), type := 29, pos := "locks.go:157", after := #[], guard := none }, { dst := some 46, op := Op.call { callee := Callee.value (Operand.func 57), args := #[Operand.tmp 44, Operand.tmp 45], argTypes := #[36, 29] }, type := 36, pos := "locks.go:157", after := #[{ on := 4, ground := Ground.data }, { on := 5, ground := Ground.data }], guard := none }, { dst := some 47, op := Op.nilCheck (Operand.tmp 40), type := 0, pos := "locks.go:157", after := #[{ on := 0, ground := Ground.data }, { on := 0, ground := Ground.phase }, { on := 1, ground := Ground.phase }, { on := 2, ground := Ground.phase }, { on := 3, ground := Ground.phase }, { on := 4, ground := Ground.phase }, { on := 5, ground := Ground.phase }, { on := 6, ground := Ground.phase }], guard := none }, { dst := some 48, op := Op.fieldAddr 47 (Operand.tmp 47) 4, type := 0, pos := "locks.go:157", after := #[{ on := 7, ground := Ground.data }, { on := 0, ground := Ground.phase }, { on := 1, ground := Ground.phase }, { on := 2, ground := Ground.phase }, { on := 3, ground := Ground.phase }, { on := 4, ground := Ground.phase }, { on := 5, ground := Ground.phase }, { on := 6, ground := Ground.phase }], guard := none }]) (o := { dst := none, op := Op.store 36 (Operand.tmp 48) (Operand.tmp 46), type := 0, pos := "locks.go:157", after := #[{ on := 8, ground := Ground.data }, { on := 6, ground := Ground.data }, { on := 6, ground := Ground.chain }, { on := 0, ground := Ground.phase }, { on := 1, ground := Ground.phase }, { on := 2, ground := Ground.phase }, { on := 3, ground := Ground.phase }, { on := 4, ground := Ground.phase }, { on := 5, ground := Ground.phase }, { on := 6, ground := Ground.phase }], guard := none }) rfl (by kernel_rfl) (by kernel_rfl) (by kernel_rfl) hS (fun hHeld => ?_)
    refine takes [0, 1, 2, 3, 4, 5] 3 (by kernel_rfl) (by assumption) ?_
    iterate 6 (refine tkY rfl (fun _ _ _ h => h) rfl (by ((intro w hSw); (try dsimp only at hSw); go_simp; (try with_reducible rfl))) ?_; try simp only [Act.put, List.setIfInBounds_toArray, List.set_cons_zero, List.set_cons_succ])
    refine tkE ?_
    refine wpAnyH_ready (rs := [6]) (by kernel_rfl) (by simp) ?_
    refine readyC rfl (fun K hK => ?_) ?_
    ·
      go_simp
      go_at_call 57
      refine HWO.out.mono ?_
      rintro e u8 ⟨he, ho, hk⟩
      obtain ⟨FX, hFX⟩ : ∃ FX, FX = (q.hurt.filter fun y => decide (y ≠ id)) := ⟨_, rfl⟩
      rw [← hFX] at he ho
      subst he
      have HFX := Lib.hid hFX
      clear hFX
      have HOX := Lib.hid ho
      have HKX := Lib.hid hk
      clear ho hk
      have HSX := Lib.hid (endSt_kept HSD.out HKX.out (fun k hk hm => HF2.out k (HIA.out k hk) hm) (fun hm => HN1.out (HIA.out _ hm)))
      have HDX := Lib.hid (HKX.out.blk HTD.out.blk HTD.out.du)
      have hc8 : u8.cell? ⟨p1, 0, none⟩ = some (.int .i64 id.n) ∧ u8.cell? ⟨p1, 1, none⟩ = some (.int .i64 id.c) ∧ u8.cell? ⟨d, 4, none⟩ = some (.slice m.au q.hurt.length m.cu) := ⟨HSX.out.2.1.cell 0, HSX.out.2.1.cell 1, HDX.out.cell 4⟩
      go_wp2_with fail
      refine hK.out _ _ (hc8) (fun hHeld => ?_)
      clear hK K
      try simp only [Act.put, List.setIfInBounds_toArray, List.set_cons_zero, List.set_cons_succ]
      refine takes [7, 8] 0 (by kernel_rfl) (by assumption) ?_
      iterate 2 (refine tkY rfl (fun _ _ _ h => h) rfl (by ((intro w hSw); (try dsimp only at hSw); go_simp; (try with_reducible rfl))) ?_; try simp only [Act.put, List.setIfInBounds_toArray, List.set_cons_zero, List.set_cons_succ])
      refine tkE ?_
      refine wpAnyH_done (by kernel_rfl) ?_ _
      have f4 := HDX.out.frozen 4
      have z4 := hHeld.2.2
      have HTT := Lib.hid (HTD.out.setU HOX.out ⟨HKX.out, fun y hy => .inl hy⟩ (by rw [HFX.out]; exact strip_good HH.out.good id) (by rw [HFX.out]; exact ⟨HT7.out.fm.1, by have := HH.out.fm; have := List.length_filter_le (fun y : Idn => decide (y ≠ id)) q.hurt; omega⟩)).1
      have HMX := Lib.hid (keptAll [.slice m.au FX.length m.cu] (g := d) (p := 4) (Kept.refl [d] u8) (.inl (by simp)))
      have HW8 := Lib.hid (((HW7.out.trans (Kept.of_below (S := []) (below_drewN (Below.refl _ _) 1 : Below w7.heap.size w7 w7.drew)) (by simp)).trans HKX.out (fun x hx => .inl (HIA.out x hx))).trans HMX.out (fun x hx => .inl (by rw [List.mem_singleton.1 hx]; exact HDF.out)))
      have HS8 := Lib.hid (endSt_kept HSX.out HMX.out (fun k hk hm => HF2.out d HDF.out (by rw [← List.mem_singleton.1 hk]; exact hm)) HP1D.out)
      refine withLast_go (fun K hK => ?_)
      clear hHeld
      go_simp
      refine hK _ _ ?_
      clear hK K f4 z4 HMX HSX HDX HKX HOX HIA HWO HTD HSD hS HT7 HS7 HW7
      obtain ⟨w8, hwo⟩ : ∃ w8, w8 = u8.setCells d 4 [.slice m.au FX.length m.cu] := ⟨_, rfl⟩
      rw [← hwo] at HTT HW8 HS8
      have hwob : u8.setCell ⟨d, 4, none⟩ (.slice m.au FX.length m.cu) = w8 := hwo.symm
      rw [hwob]
      clear hwo hwob
      have hTT := HTT.out
      rw [HFX.out] at hTT
      have HT8 := Lib.hid (show TbAt w8 d (strip q id) m from hTT)
      clear hTT HTT HFX
      go_upto_region 7 with fail
      obtain ⟨⟨Ak, ck, hS2, hbk, hok⟩, _, hK1l⟩ := HS8.out
      have hkl := kk_len id K1 q.wait
      have hkw := HH.out.fh
      have HKA := Lib.hid (keys_are q id)
      rw [← HK1.out] at HKA
      obtain ⟨KK, hKK⟩ : ∃ KK, KK = kk id K1 q.wait := ⟨_, rfl⟩
      rw [← hKK] at hbk hok hkl HKA
      clear hKK
      have hAk : ∀ k ∈ ob Ak, k ∉ fpT d m := fun k hk hf => HF2.out k hf (by rw [hS2]; exact List.mem_cons_of_mem _ hk)
      have HAK := Lib.hid hAk
      have HGA : Hid (∀ k ∈ ob Ak, w.heap.size ≤ k) := Lib.hid (fun k hk => (HG2.out k (by rw [hS2]; exact List.mem_cons_of_mem _ hk)).resolve_left (hAk k hk))
      have hp2 : p2 ∉ ob Ak := fun hm => own_blk_ne hok hbk (by decide) (ownBlock_mem.2 hm)
      have y5 : w8.cell? ⟨p2, 0, none⟩ = some (.slice Ak KK.length ck) := hbk.cell 0
      have HSO := Lib.hid (sortS_any Ak ck KK w8 hok (by omega))
      have HBK := Lib.hid hbk
      have HP2 := Lib.hid hp2
      have HKL : Hid ((keysOf q id).length ≤ 2000) := Lib.hid (by rw [← HKA.out]; have := cmpctS_len (srtS KK); rw [srtS_len] at this; omega)
      have hkn : KK.length ≤ 2000 := by omega
      clear hS2 hbk hok hkl hAk hp2 hK1l hkw
      go_wp2_with fail
      refine HSO.out.mono ?_
      clear HSO
      rintro e w9 ⟨rfl, ho9, hk9⟩
      have HO9 := Lib.hid ho9
      have HK9 := Lib.hid hk9
      clear ho9 hk9 y5
      have y5 : w9.cell? ⟨p2, 0, none⟩ = some (.slice Ak KK.length ck) := (HK9.out.blk HBK.out HP2.out).cell 0
      have HCO := Lib.hid (compactS_any Ak ck (srtS KK) w9 HO9.out (by rw [srtS_len]; omega))
      rw [srtS_len, HKA.out] at HCO
      have HT9 := Lib.hid (HT8.out.kept HK9.out (fun k hk hA => HAK.out k hA hk))
      have HW9 := Lib.hid (HW8.out.trans HK9.out (fun x hx => .inr (HGA.out x hx)))
      go_wp2_with fail
      refine HCO.out.mono ?_
      clear HCO
      rintro e w10 ⟨rfl, ho, hk⟩
      have HO10 := Lib.hid ho
      have HT10 := Lib.hid (HT9.out.kept hk (fun k hk hA => HAK.out k hA hk))
      have HW10 := Lib.hid (HW9.out.trans hk (fun x hx => .inr (HGA.out x hx)))
      clear ho hk y5 HO9 HK9 HT9 HW9 HT8 HW8 HS8 HBK HP2 HKA hkn HF2 HG2 HP1D HN1 HN2 HIN HIW HH1 HH2 HK1
      obtain ⟨KS, hKS⟩ : ∃ KS, KS = keysOf q id := ⟨_, rfl⟩
      have HST0 : Hid (GSt d m w (keysOf q id) Ak ck (kS q id 0) none 0 m w10) := Lib.hid ⟨HT10.out, World.ownsRow_nil _ _ _ _, ⟨HW10.out, fun _ h => .inl h⟩, by simp [ob], by simp [ob], HO10.out, HAK.out, by have := HT10.out.fh; show 0 + (strip q id).wait.length ≤ 1000; omega⟩
      rw [← hKS] at HST0 HO10
      have HKS := Lib.hid hKS
      rw [← hKS]
      clear hKS HT10 HW10
      have hksl : KS.length ≤ 2000 := by rw [HKS.out]; exact HKL.out
      clear HKL
      go_wp2
      go_loopw [7, 54] (GRel d q m id w Ak ck) (fun _ i _ => KS.length - (intOf i).toNat)
      case atStart =>
        have h0 := HST0.out
        rw [HKS.out] at h0
        exact ⟨0, none, 0, m, rfl, Nat.zero_le _, rfl, h0⟩
      case round =>
        obtain ⟨i, A, c, m', rfl, hi, rfl, hg⟩ := hrel
        have HG := Lib.hid hg
        clear hg
        rw [← HKS.out] at HG hi
        by_cases hlt : i < KS.length
        · obtain ⟨bk, offk, hAk, _, hck⟩ := Reads.elt (R := strR) (Reads.of_own HG.out.ky) hlt
          have kc : wr.cell? ⟨bk, offk + i, none⟩ = some (.string (gr strR KS i)) := by have := hck 0 _ rfl; rwa [show i * strR.sz = i from Nat.mul_one i, Nat.add_zero] at this
          have HKG : Hid (KS[i]? = some (gr strR KS i)) := Lib.hid (gr_get hlt)
          obtain ⟨key, hkey⟩ : ∃ key, key = gr strR KS i := ⟨_, rfl⟩
          rw [← hkey] at kc HKG
          clear hck hkey
          have HSN : Hid (kS q id (i + 1) = grantK (kS q id i) key) := Lib.hid (kS_on (by rw [← HKS.out]; exact HKG.out))
          obtain ⟨s, hs⟩ : ∃ s, s = kS q id i := ⟨_, rfl⟩
          rw [← hs] at HG HSN
          rw [← hs]
          clear hs
          have HAKE := Lib.hid hAk
          rw [hAk]
          have HSW := Lib.hid HG.out.tb.good.sw
          have kL : (0 : Int) ≤ (i : Int) := by omega
          have kU : (i : Int) < (KS.length : Int) := by omega
          have y2 : wr.cell? ⟨d, 2, none⟩ = some (.slice m'.aw s.1.wait.length m'.cw) := HG.out.tb.c2
          have HCL := Lib.hid (cloneL m'.aw m'.cw wr.heap.size s.1.wait wr (Reads.of_own HG.out.tb.ow) (Nat.le_refl _) (by have := HG.out.tb.fh; omega))
          clear hAk
          go_wp2_with fail
          refine HCL.out.mono ?_
          clear HCL
          rintro e w11 ⟨Ac, cc, rfl, hoc, hb, hf⟩
          have HC0 := Lib.hid hoc
          have HG0 := Lib.hid (HG.out.more hb)
          have HCD : Hid (∀ y ∈ ob Ac, y ∉ fpT d m' ∧ y ∉ ob A) := Lib.hid (fun y hy => ⟨fun h => by have := HG.out.tb.lt y h; have := hf y hy; omega, fun h => by have := own_lt HG.out.own y h; have := hf y hy; omega⟩)
          have hswl : s.1.wait.length ≤ 1000 := by have := HG.out.tb.fh; omega
          clear hoc hb hf y2 kc HG kL
          go_wp2
          go_loopw [7, 64] (HRel d m w KS Ak ck s key Ac cc) (fun _ j _ => s.1.wait.length - (intOf j).toNat)
          case atStart => exact ⟨0, A, c, m', rfl, Nat.zero_le _, rfl, HG0.out, HC0.out, HCD.out, fun x hx => hx⟩
          case round =>
            clear HG0 HC0 HCD HKG
            obtain ⟨j, A, c, m', rfl, hj, rfl, hg, hc, hcd, hsub⟩ := hrel
            have HG := Lib.hid hg
            have HC := Lib.hid hc
            have HCD := Lib.hid hcd
            have HSUB := Lib.hid hsub
            clear hg hc hcd hsub
            by_cases hlj : j < s.1.wait.length
            · obtain ⟨g, off, hA, _, a0, a1, a2, a3⟩ := rdL (l := s.1.wait) (Reads.of_own HC.out) hlj
              have HAC := Lib.hid hA
              have HGL : Hid (s.1.wait[j]? = some (gr lkR s.1.wait j)) := Lib.hid (gr_get hlj)
              have hdc := List.drop_eq_getElem_cons hlj
              rw [← gr_at (R := lkR) hlj] at hdc
              obtain ⟨l, hl⟩ : ∃ l, l = gr lkR s.1.wait j := ⟨_, rfl⟩
              rw [← hl] at a0 a1 a2 a3 HGL hdc
              have HON := Lib.hid (jS_on (k := key) HGL.out)
              have HMEM := Lib.hid (HSUB.out l (by rw [hdc]; exact List.mem_cons_self ..))
              have HDR : Hid (∀ x ∈ s.1.wait.drop (j + 1), x ∈ s.1.wait.drop j ∧ x ≠ l) := Lib.hid (fun x hx => ⟨by rw [hdc]; exact List.mem_cons_of_mem _ hx, by
                rintro rfl
                have h1 : List.Pairwise (fun a b => ah a b = true) (s.1.wait.drop j) := List.Pairwise.sublist (List.drop_sublist _ _) HSW.out
                rw [hdc] at h1
                have h2 := (List.pairwise_cons.1 h1).1 _ hx
                rw [ah_ord.irr] at h2; cases h2⟩)
              rw [hA]
              have jL : (0 : Int) ≤ (j : Int) := by omega
              have jU : (j : Int) < (s.1.wait.length : Int) := by omega
              obtain ⟨u, hu⟩ : ∃ u, u = jS s key j := ⟨_, rfl⟩
              rw [← hu] at HG HON HMEM HSUB
              rw [← hu]
              clear hu hl hdc hA
              have HBA := Lib.hid (below_alloc wr (.cells #[.string l.key, .int .i64 l.id.n, .int .i64 l.id.c, .int .i64 l.mode] 62))
              have HKA := Lib.hid (Blk.new wr 62 #[.string l.key, .int .i64 l.id.n, .int .i64 l.id.c, .int .i64 l.mode])
              go_upto_region 15 with fail
              obtain ⟨w12, hw12⟩ : ∃ w12, w12 = wr.alloc (.cells #[.string l.key, .int .i64 l.id.n, .int .i64 l.id.c, .int .i64 l.mode] 62) := ⟨_, rfl⟩
              obtain ⟨p11, hp11⟩ : ∃ p11, p11 = wr.heap.size := ⟨_, rfl⟩
              have HP11 : Hid (p11 ∉ fpT d m' ∧ p11 ∉ ob A ∧ p11 ∉ ob Ac) := Lib.hid ⟨fun h => by have := HG.out.tb.lt _ h; omega, fun h => by have := own_lt HG.out.own _ h; omega, fun h => by have := own_lt HC.out _ h; omega⟩
              rw [← hw12] at HBA HKA
              rw [← hp11] at HKA
              rw [← hw12]
              rw [← hp11]
              clear hw12 hp11 a0 a1 a2 a3
              have HG12 := Lib.hid (HG.out.more HBA.out)
              have HC12 := Lib.hid ((Kept.of_below (S := []) HBA.out).own HC.out (by simp))
              clear HG HC HBA
              have x0 : w12.cell? ⟨p11, 0, none⟩ = some (.string l.key) := HKA.out.cell 0
              have x1 : w12.cell? ⟨p11, 1, none⟩ = some (.int .i64 l.id.n) := HKA.out.cell 1
              have x2 : w12.cell? ⟨p11, 2, none⟩ = some (.int .i64 l.id.c) := HKA.out.cell 2
              have x3 : w12.cell? ⟨p11, 3, none⟩ = some (.int .i64 l.mode) := HKA.out.cell 3
              cases hk : (l.key.toList == key.toList) with
              | false =>
                have HN : Hid (jS s key (j + 1) = u) := Lib.hid (by rw [HON.out]; unfold grant1; rw [if_neg (fun h => by rw [h.1] at hk; simp at hk)])
                go_wp2
                go_roundw
                case rel =>
                  rw [← HAC.out]
                  exact ⟨j + 1, A, c, m', by go_num, by omega, by rw [HN.out], by rw [HN.out]; exact HG12.out, HC12.out, HCD.out, fun x hx => by rw [HN.out]; exact HSUB.out x (HDR.out x hx).1⟩
                case measure => simp [intOf]; omega
              | true =>
                have HKE : Hid (l.key = key) := Lib.hid (toList_inj (by simpa using hk))
                have HFR := Lib.hid (free_any HG12.out.tb l)
                unfold BoolIs lkV at HFR
                go_wp2_with fail
                refine HFR.out.mono ?_
                clear HFR
                rintro e w13 ⟨he, hb⟩
                have HG13 := Lib.hid (HG12.out.more hb)
                have HC13 := Lib.hid ((Kept.of_below (S := []) hb).own HC12.out (by simp))
                have HK13 := Lib.hid (HKA.out.below hb HKA.out.lt)
                clear hb x0 x1 x2 x3 hk HG12 HC12 HKA
                cases cf : freeB u.1 l with
                | false =>
                  rw [cf] at he
                  subst he
                  have HN : Hid (jS s key (j + 1) = u) := Lib.hid (by rw [HON.out]; unfold grant1; rw [if_neg (fun h => by rw [cf] at h; cases h.2)])
                  clear cf
                  go_wp2
                  go_roundw
                  case rel =>
                    rw [← HAC.out]
                    exact ⟨j + 1, A, c, m', by go_num, by omega, by rw [HN.out], by rw [HN.out]; exact HG13.out, HC13.out, HCD.out, fun x hx => by rw [HN.out]; exact HSUB.out x (HDR.out x hx).1⟩
                  case measure => simp [intOf]; omega
                | true =>
                  rw [cf] at he
                  subst he
                  have HN : Hid (jS s key (j + 1) = (grant u.1 l, u.2 ++ [l])) := Lib.hid (by rw [HON.out]; unfold grant1; rw [if_pos ⟨HKE.out, cf⟩])
                  clear cf
                  have HSM := Lib.hid HG13.out.sum
                  have HG0G := Lib.hid HG13.out.tb.good
                  have HTF := Lib.hid HG13.out.tb.fh
                  go_upto_region 16 with fail
                  have HGD := Lib.hid (HG13.out.more (below_drewN (Below.refl _ _) 1 : Below w13.heap.size w13 w13.drew))
                  have HCD2 := Lib.hid ((Kept.of_below (S := []) (below_drewN (Below.refl _ _) 1 : Below w13.heap.size w13 w13.drew)).own HC13.out (by simp))
                  have HKD := Lib.hid (HK13.out.below (below_drewN (Below.refl _ _) 1 : Below w13.heap.size w13 w13.drew) HK13.out.lt)
                  clear HG13 HC13 HK13
                  have hS : w13.drew.cell? ⟨p11, 0, none⟩ = some (.string l.key) ∧ w13.drew.cell? ⟨p11, 1, none⟩ = some (.int .i64 l.id.n) ∧ w13.drew.cell? ⟨p11, 2, none⟩ = some (.int .i64 l.id.c) ∧ w13.drew.cell? ⟨p11, 3, none⟩ = some (.int .i64 l.mode) ∧ w13.drew.cell? ⟨d, 2, none⟩ = some (.slice m'.aw u.1.wait.length m'.cw) := ⟨HKD.out.cell 0, HKD.out.cell 1, HKD.out.cell 2, HKD.out.cell 3, HGD.out.tb.c2⟩
                  have HWO := Lib.hid (withoutL m'.aw m'.cw u.1.wait l w13.drew HGD.out.tb.ow (by have := HGD.out.tb.fh; omega))
                  unfold WithoutEndsL lkV at HWO
                  have HIA : Hid (∀ k, k ∈ ob m'.aw → k ∈ fpT d m') := Lib.hid (fun k hk => by simp only [fpT, List.mem_cons, List.mem_append]; simp [hk])
                  have HDF : Hid (d ∈ fpT d m') := Lib.hid (by simp [fpT])
                  refine wp_region_last_held (S := fun w' => w'.cell? ⟨p11, 0, none⟩ = some (.string l.key) ∧ w'.cell? ⟨p11, 1, none⟩ = some (.int .i64 l.id.n) ∧ w'.cell? ⟨p11, 2, none⟩ = some (.int .i64 l.id.c) ∧ w'.cell? ⟨p11, 3, none⟩ = some (.int .i64 l.mode) ∧ w'.cell? ⟨d, 2, none⟩ = some (.slice m'.aw u.1.wait.length m'.cw)) (ops := #[{ dst := some 77, op := Op.move (Operand.tmp 0), type := 23, pos := "locks.go:163", after := #[], guard := none }, { dst := some 78, op := Op.move (Operand.tmp 0), type := 23, pos := "locks.go:163", after := #[], guard := none }, { dst := some 79, op := Op.nilCheck (Operand.tmp 78), type := 0, pos := "locks.go:163", after := #[{ on := 1, ground := Ground.data }], guard := none }, { dst := some 80, op := Op.fieldAddr 47 (Operand.tmp 79) 2, type := 0, pos := "locks.go:163", after := #[{ on := 2, ground := Ground.data }], guard := none }, { dst := some 81, op := Op.load 34 (Operand.tmp 80), type := 34, pos := "locks.go:163", after := #[{ on := 3, ground := Ground.data }], guard := none }, { dst := some 82, op := Op.load 62 (Operand.tmp 11), type := 62, pos := "locks.go:163", after := #[], guard := none }, { dst := some 83, op := Op.call { callee := Callee.value (Operand.func 60), args := #[Operand.tmp 81, Operand.tmp 82], argTypes := #[34, 62] }, type := 34, pos := "locks.go:163", after := #[{ on := 4, ground := Ground.data }, { on := 5, ground := Ground.data }], guard := none }, { dst := some 84, op := Op.nilCheck (Operand.tmp 77), type := 0, pos := "locks.go:163", after := #[{ on := 0, ground := Ground.data }, { on := 0, ground := Ground.phase }, { on := 1, ground := Ground.phase }, { on := 2, ground := Ground.phase }, { on := 3, ground := Ground.phase }, { on := 4, ground := Ground.phase }, { on := 5, ground := Ground.phase }, { on := 6, ground := Ground.phase }], guard := none }, { dst := some 85, op := Op.fieldAddr 47 (Operand.tmp 84) 2, type := 0, pos := "locks.go:163", after := #[{ on := 7, ground := Ground.data }, { on := 0, ground := Ground.phase }, { on := 1, ground := Ground.phase }, { on := 2, ground := Ground.phase }, { on := 3, ground := Ground.phase }, { on := 4, ground := Ground.phase }, { on := 5, ground := Ground.phase }, { on := 6, ground := Ground.phase }], guard := none }]) (o := { dst := none, op := Op.store 34 (Operand.tmp 85) (Operand.tmp 83), type := 0, pos := "locks.go:163", after := #[{ on := 8, ground := Ground.data }, { on := 6, ground := Ground.data }, { on := 6, ground := Ground.chain }, { on := 0, ground := Ground.phase }, { on := 1, ground := Ground.phase }, { on := 2, ground := Ground.phase }, { on := 3, ground := Ground.phase }, { on := 4, ground := Ground.phase }, { on := 5, ground := Ground.phase }, { on := 6, ground := Ground.phase }], guard := none }) rfl (by kernel_rfl) (by kernel_rfl) (by kernel_rfl) hS (fun hHeld => ?_)
                  refine takes [0, 1, 2, 3, 4, 5] 3 (by kernel_rfl) (by assumption) ?_
                  iterate 6 (refine tkY rfl (fun _ _ _ h => h) rfl (by ((intro w hSw); (try dsimp only at hSw); go_simp; (try with_reducible rfl))) ?_; try simp only [Act.put, List.setIfInBounds_toArray, List.set_cons_zero, List.set_cons_succ])
                  refine tkE ?_
                  refine wpAnyH_ready (rs := [6]) (by kernel_rfl) (by simp) ?_
                  refine readyC rfl (fun K hK => ?_) ?_
                  ·
                    go_simp
                    go_at_call 60
                    refine HWO.out.mono ?_
                    rintro e w14 ⟨he, ho, hk⟩
                    obtain ⟨FX, hFX⟩ : ∃ FX, FX = u.1.wait.filter (fun y => decide (y ≠ l)) := ⟨_, rfl⟩
                    rw [← hFX] at he ho
                    subst he
                    have HFX := Lib.hid hFX
                    clear hFX
                    have HOX := Lib.hid ho
                    have HKX := Lib.hid hk
                    clear ho hk
                    have HK14 := Lib.hid (HKX.out.blk HKD.out (fun h => HP11.out.1 (HIA.out _ h)))
                    have HDX := Lib.hid (HKX.out.blk HGD.out.tb.blk HGD.out.tb.dw)
                    have hc8 : w14.cell? ⟨p11, 0, none⟩ = some (.string l.key) ∧ w14.cell? ⟨p11, 1, none⟩ = some (.int .i64 l.id.n) ∧ w14.cell? ⟨p11, 2, none⟩ = some (.int .i64 l.id.c) ∧ w14.cell? ⟨p11, 3, none⟩ = some (.int .i64 l.mode) ∧ w14.cell? ⟨d, 2, none⟩ = some (.slice m'.aw u.1.wait.length m'.cw) := ⟨HK14.out.cell 0, HK14.out.cell 1, HK14.out.cell 2, HK14.out.cell 3, HDX.out.cell 2⟩
                    go_wp2_with fail
                    refine hK.out _ _ (hc8) (fun hHeld => ?_)
                    clear hK K
                    try simp only [Act.put, List.setIfInBounds_toArray, List.set_cons_zero, List.set_cons_succ]
                    refine takes [7, 8] 0 (by kernel_rfl) (by assumption) ?_
                    iterate 2 (refine tkY rfl (fun _ _ _ h => h) rfl (by ((intro w hSw); (try dsimp only at hSw); go_simp; (try with_reducible rfl))) ?_; try simp only [Act.put, List.setIfInBounds_toArray, List.set_cons_zero, List.set_cons_succ])
                    refine tkE ?_
                    refine wpAnyH_done (by kernel_rfl) ?_ _
                    have f4 := HDX.out.frozen 2
                    have z4 := hHeld.2.2.2.2
                    have HLF : Hid (FX.length < u.1.wait.length) := Lib.hid (by rw [HFX.out]; exact List.length_filter_lt_length_iff_exists.2 ⟨l, HMEM.out, by simp⟩)
                    have HTT := Lib.hid (HGD.out.tb.setW HOX.out ⟨HKX.out, fun y hy => .inl hy⟩ (by have := HGD.out.tb.good; rw [HFX.out]; exact ⟨this.sh, srt_filter this.sw _, this.sp, this.su, this.hs, fun x hx => this.ws x (List.mem_filter.1 hx).1⟩) (by have := HGD.out.tb.fh; have := HLF.out; omega))
                    have HG15 := Lib.hid (HGD.out.turn HTT.out.1 HTT.out.2 (by have := HGD.out.sum; have := HLF.out; show u.2.length + FX.length ≤ 1000; omega))
                    have HC15 := Lib.hid (HTT.out.2.kept.own HCD2.out (fun g hg hf => (HCD.out g (ownBlock_mem.1 hg)).1 hf))
                    have HK15 := Lib.hid (HTT.out.2.kept.blk HKD.out HP11.out.1)
                    refine withLast_go (fun K hK => ?_)
                    clear hHeld
                    go_simp
                    refine hK _ _ ?_
                    clear hK K f4 z4 HTT HDX HK14 HKX HOX HGD HCD2 HKD hS HWO
                    obtain ⟨w15, hw15⟩ : ∃ w15, w15 = w14.setCells d 2 [.slice m'.aw FX.length m'.cw] := ⟨_, rfl⟩
                    rw [← hw15] at HG15 HC15 HK15
                    have hw15b : w14.setCell ⟨d, 2, none⟩ (.slice m'.aw FX.length m'.cw) = w15 := hw15.symm
                    rw [hw15b]
                    clear hw15 hw15b
                    go_upto_region 17 with fail
                    have HGD := Lib.hid (HG15.out.more (below_drewN (Below.refl _ _) 1 : Below w15.heap.size w15 w15.drew))
                    have HCD2 := Lib.hid ((Kept.of_below (S := []) (below_drewN (Below.refl _ _) 1 : Below w15.heap.size w15 w15.drew)).own HC15.out (by simp))
                    have HKD := Lib.hid (HK15.out.below (below_drewN (Below.refl _ _) 1 : Below w15.heap.size w15 w15.drew) HK15.out.lt)
                    have HTD := Lib.hid (show TbAt w15.drew d ⟨u.1.most, u.1.held, FX, u.1.prep, u.1.hurt⟩ m' from HGD.out.tb)
                    clear HG15 HC15 HK15
                    have hS : w15.drew.cell? ⟨p11, 0, none⟩ = some (.string l.key) ∧ w15.drew.cell? ⟨p11, 1, none⟩ = some (.int .i64 l.id.n) ∧ w15.drew.cell? ⟨p11, 2, none⟩ = some (.int .i64 l.id.c) ∧ w15.drew.cell? ⟨p11, 3, none⟩ = some (.int .i64 l.mode) ∧ w15.drew.cell? ⟨d, 1, none⟩ = some (.slice m'.ah u.1.held.length m'.ch) := ⟨HKD.out.cell 0, HKD.out.cell 1, HKD.out.cell 2, HKD.out.cell 3, HTD.out.c1⟩
                    have HPT := Lib.hid (put_any m'.ah m'.ch u.1.held l w15.drew HTD.out.oh HTD.out.good.sh (by have := HTD.out.fh; simp only at this; omega))
                    unfold InsAtL lkV at HPT
                    refine wp_region_last_held (S := fun w' => w'.cell? ⟨p11, 0, none⟩ = some (.string l.key) ∧ w'.cell? ⟨p11, 1, none⟩ = some (.int .i64 l.id.n) ∧ w'.cell? ⟨p11, 2, none⟩ = some (.int .i64 l.id.c) ∧ w'.cell? ⟨p11, 3, none⟩ = some (.int .i64 l.mode) ∧ w'.cell? ⟨d, 1, none⟩ = some (.slice m'.ah u.1.held.length m'.ch)) (ops := #[{ dst := some 86, op := Op.move (Operand.tmp 0), type := 23, pos := "locks.go:164", after := #[], guard := none }, { dst := some 87, op := Op.move (Operand.tmp 0), type := 23, pos := "locks.go:164", after := #[], guard := none }, { dst := some 88, op := Op.nilCheck (Operand.tmp 87), type := 0, pos := "locks.go:164", after := #[{ on := 1, ground := Ground.data }], guard := none }, { dst := some 89, op := Op.fieldAddr 47 (Operand.tmp 88) 1, type := 0, pos := "locks.go:164", after := #[{ on := 2, ground := Ground.data }], guard := none }, { dst := some 90, op := Op.load 34 (Operand.tmp 89), type := 34, pos := "locks.go:164", after := #[{ on := 3, ground := Ground.data }], guard := none }, { dst := some 91, op := Op.load 62 (Operand.tmp 11), type := 62, pos := "locks.go:164", after := #[], guard := none }, { dst := some 92, op := Op.call { callee := Callee.value (Operand.func 45), args := #[Operand.tmp 90, Operand.tmp 91], argTypes := #[34, 62] }, type := 34, pos := "locks.go:164", after := #[{ on := 4, ground := Ground.data }, { on := 5, ground := Ground.data }], guard := none }, { dst := some 93, op := Op.nilCheck (Operand.tmp 86), type := 0, pos := "locks.go:164", after := #[{ on := 0, ground := Ground.data }, { on := 0, ground := Ground.phase }, { on := 1, ground := Ground.phase }, { on := 2, ground := Ground.phase }, { on := 3, ground := Ground.phase }, { on := 4, ground := Ground.phase }, { on := 5, ground := Ground.phase }, { on := 6, ground := Ground.phase }], guard := none }, { dst := some 94, op := Op.fieldAddr 47 (Operand.tmp 93) 1, type := 0, pos := "locks.go:164", after := #[{ on := 7, ground := Ground.data }, { on := 0, ground := Ground.phase }, { on := 1, ground := Ground.phase }, { on := 2, ground := Ground.phase }, { on := 3, ground := Ground.phase }, { on := 4, ground := Ground.phase }, { on := 5, ground := Ground.phase }, { on := 6, ground := Ground.phase }], guard := none }]) (o := { dst := none, op := Op.store 34 (Operand.tmp 94) (Operand.tmp 92), type := 0, pos := "locks.go:164", after := #[{ on := 8, ground := Ground.data }, { on := 6, ground := Ground.data }, { on := 6, ground := Ground.chain }, { on := 0, ground := Ground.phase }, { on := 1, ground := Ground.phase }, { on := 2, ground := Ground.phase }, { on := 3, ground := Ground.phase }, { on := 4, ground := Ground.phase }, { on := 5, ground := Ground.phase }, { on := 6, ground := Ground.phase }], guard := none }) rfl (by kernel_rfl) (by kernel_rfl) (by kernel_rfl) hS (fun hHeld => ?_)
                    refine takes [0, 1, 2, 3, 4, 5] 3 (by kernel_rfl) (by assumption) ?_
                    iterate 6 (refine tkY rfl (fun _ _ _ h => h) rfl (by ((intro w hSw); (try dsimp only at hSw); go_simp; (try with_reducible rfl))) ?_; try simp only [Act.put, List.setIfInBounds_toArray, List.set_cons_zero, List.set_cons_succ])
                    refine tkE ?_
                    refine wpAnyH_ready (rs := [6]) (by kernel_rfl) (by simp) ?_
                    refine readyC rfl (fun K hK => ?_) ?_
                    ·
                      go_simp
                      go_at_call 45
                      refine HPT.out.mono ?_
                      rintro e w16 ⟨A2, c2, rfl, ho, hm⟩
                      have HO16 := Lib.hid ho
                      have HM16 := Lib.hid hm
                      clear ho hm
                      have HK16 := Lib.hid (HM16.out.kept.blk HKD.out (fun h => HP11.out.1 (by simp only [fpT, List.mem_cons, List.mem_append]; simp [h])))
                      have HDX := Lib.hid (HM16.out.kept.blk HTD.out.blk HTD.out.dh)
                      have hc8 : w16.cell? ⟨p11, 0, none⟩ = some (.string l.key) ∧ w16.cell? ⟨p11, 1, none⟩ = some (.int .i64 l.id.n) ∧ w16.cell? ⟨p11, 2, none⟩ = some (.int .i64 l.id.c) ∧ w16.cell? ⟨p11, 3, none⟩ = some (.int .i64 l.mode) ∧ w16.cell? ⟨d, 1, none⟩ = some (.slice m'.ah u.1.held.length m'.ch) := ⟨HK16.out.cell 0, HK16.out.cell 1, HK16.out.cell 2, HK16.out.cell 3, HDX.out.cell 1⟩
                      go_wp2_with fail
                      refine hK.out _ _ (hc8) (fun hHeld => ?_)
                      clear hK K
                      try simp only [Act.put, List.setIfInBounds_toArray, List.set_cons_zero, List.set_cons_succ]
                      refine takes [7, 8] 0 (by kernel_rfl) (by assumption) ?_
                      iterate 2 (refine tkY rfl (fun _ _ _ h => h) rfl (by ((intro w hSw); (try dsimp only at hSw); go_simp; (try with_reducible rfl))) ?_; try simp only [Act.put, List.setIfInBounds_toArray, List.set_cons_zero, List.set_cons_succ])
                      refine tkE ?_
                      refine wpAnyH_done (by kernel_rfl) ?_ _
                      have f4 := HDX.out.frozen 1
                      have z4 := hHeld.2.2.2.2
                      have HTT := Lib.hid (HTD.out.setH HO16.out HM16.out (by have := grant_good HG0G.out HMEM.out; unfold grant at this; rw [← HFX.out] at this; exact this) (by have h1 := ins_len (lt := ah) (x := l) u.1.held; have := HTF.out; have := HLF.out; show (ins ah l u.1.held).length + FX.length ≤ 1000; omega))
                      have HG17 := Lib.hid (HGD.out.turn HTT.out.1 HTT.out.2 HGD.out.sum)
                      have HC17 := Lib.hid (HTT.out.2.kept.own HCD2.out (fun g hg hf => (HCD.out g (ownBlock_mem.1 hg)).1 hf))
                      have HK17 := Lib.hid (HTT.out.2.kept.blk HKD.out HP11.out.1)
                      have HCDX := Lib.hid (fun y (hy : y ∈ ob Ac) => And.intro (fun hf => (HTT.out.2.foot y hf).elim (fun h1 => (HCD.out y hy).1 h1) (fun h1 => by have h2 : y < w15.drew.heap.size := own_lt HCD2.out y hy; omega)) (HCD.out y hy).2)
                      obtain ⟨i0, hi0, hz0, hy0, hx0⟩ := info_parts Tryz.infoLk
                      refine withLast_go (fun K hK => ?_)
                      clear hHeld
                      go_simp
                      refine hK _ _ ?_
                      clear hK K f4 z4 HTT HDX HK16 HM16 HO16 HGD HCD2 HKD hS HPT HTD
                      obtain ⟨w17, hw17⟩ : ∃ w17, w17 = w16.setCells d 1 [.slice A2 (ins ah l u.1.held).length c2] := ⟨_, rfl⟩
                      rw [← hw17] at HG17 HC17 HK17
                      have hw17b : w16.setCell ⟨d, 1, none⟩ (.slice A2 (ins ah l u.1.held).length c2) = w17 := hw17.symm
                      rw [hw17b]
                      clear hw17 hw17b
                      have x0 : w17.cell? ⟨p11, 0, none⟩ = some (.string l.key) := HK17.out.cell 0
                      have x1 : w17.cell? ⟨p11, 1, none⟩ = some (.int .i64 l.id.n) := HK17.out.cell 1
                      have x2 : w17.cell? ⟨p11, 2, none⟩ = some (.int .i64 l.id.c) := HK17.out.cell 2
                      have x3 : w17.cell? ⟨p11, 3, none⟩ = some (.int .i64 l.mode) := HK17.out.cell 3
                      have hsum : u.2.length + FX.length < 1000 := by have := HSM.out; have := HLF.out; omega
                      go_wp2_with (at_builtin; refine wpList_app rfl (.tmp 95) (.tmp 97) 34 34 rfl 62 i0 _ 4 40 Tryz.underlying34 hi0 hz0 hy0 hx0 rfl (by omega) A u.2.length c (rc lkR u.2) rfl (HG17.out.own.alloc _) _ 1 (lkR.cells l) rfl (Src.lck Tryz.underlying34 l 62) (by simp only [maxLen]; omega) (by omega) ?_; intro A3 k3 w18 hown3 hk3 hf3; rw [rc_snoc] at hown3)
                      have hol : u.2.length + 1 = (u.2 ++ [l]).length := by simp
                      rw [hol] at hown3
                      have HM18 : Hid (Moves (ob A) (ob A3) w17 w18) := Lib.hid ⟨hk3.of_alloc, fun y hy => (hf3 y hy).imp (fun h => h) (fun h => by simp at h; omega)⟩
                      have HG18 := Lib.hid (HG17.out.add HM18.out hown3 (by show (u.2 ++ [l]).length + FX.length ≤ 1000; rw [← hol]; omega))
                      have hgf := HG18.out
                      rw [show (⟨u.1.most, ins ah l u.1.held, FX, u.1.prep, u.1.hurt⟩ : Tb) = grant u.1 l from by rw [HFX.out]; rfl, ← HN.out] at hgf
                      have HGF := Lib.hid hgf
                      have HC18 := Lib.hid (HM18.out.kept.own HC17.out (fun g hg hf => (HCD.out g (ownBlock_mem.1 hg)).2 hf))
                      have HCDY := Lib.hid (fun y (hy : y ∈ ob Ac) => And.intro (HCDX.out y hy).1 (fun hf => (HM18.out.foot y hf).elim (fun h1 => (HCD.out y hy).2 h1) (fun h1 => by have := own_lt HC17.out y hy; omega)))
                      clear hown3 hk3 hf3 hgf x0 x1 x2 x3 HG17 HC17 HK17 HCDX HM18 HG18
                      go_roundw
                      case rel =>
                        rw [← HAC.out]
                        exact ⟨j + 1, A3, k3, _, by go_num, by omega, by rw [HN.out, hol], HGF.out, HC18.out, HCDY.out, fun x hx => by rw [HN.out]; exact mem_ne.2 ⟨HSUB.out x (HDR.out x hx).1, (HDR.out x hx).2⟩⟩
                      case measure => simp [intOf]; omega
                    exact AllReadyH.nil
                  exact AllReadyH.nil
            · have HE : Hid (jS s key j = kS q id (i + 1)) := Lib.hid (by rw [show j = s.1.wait.length by omega, jS_all, HSN.out])
              rw [HE.out] at HG
              rw [HE.out]
              rw [HKS.out] at HG
              have hi1 : i + 1 ≤ (keysOf q id).length := by rw [← HKS.out]; omega
              have HI1 := Lib.hid hi1
              clear hi1
              go_wp2
              go_roundw
              case rel => exact ⟨i + 1, A, c, m', by go_num, HI1.out, rfl, by rw [← HAKE.out]; exact HG.out⟩
              case measure => simp [intOf]; omega
        · have HE : Hid (kS q id i = endS q id) := Lib.hid (by rw [show i = (keysOf q id).length by rw [← HKS.out]; omega, kS_all])
          rw [HE.out] at HG
          rw [HE.out]
          go_wp2
          go_ret
          exact ⟨A, c, rfl, HG.out.own, HG.out.fr, m', HG.out.tb, HG.out.mv, HG.out.ap⟩
    exact AllReadyH.nil
  exact AllReadyH.nil
end Go.Proofs.YtpidpdbjjdkhoaaGreat
