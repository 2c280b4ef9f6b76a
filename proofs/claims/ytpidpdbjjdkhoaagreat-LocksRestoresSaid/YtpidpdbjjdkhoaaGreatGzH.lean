/- Locks, the reference: End, its first half. -/
import Derived.Test.YtpidpdbjjdkhoaaGreatGzG
namespace Go.Proofs.YtpidpdbjjdkhoaaGreat
open Go.RowKit
set_option linter.unusedSimpArgs false
set_option linter.unusedVariables false
attribute [local go_sem ↓] Go.wp_at_zero Go.wp_at_succ

theorem RfAt.layH {w0 w w4 : World} {S0 : List Nat} {d : Nat} {q : Tb} {m : TbM} (h : RfAt w d q m) (hm : Moves S0 (fpT d m) w0 w) {l : List Lk} {A1 : Option Addr} {c1 : Nat} (hb : Below w.heap.size w w4) (ho : w4.ownsRow 0 62 4 (.slice A1 l.length c1) l.length (rc lkR l)) (hd : d ∉ ob A1) (hf : ∀ k ∈ ob A1, w0.heap.size ≤ k) (hn : l.length + q.wait.length ≤ 1000) :
    RfAt (w4.setCells d 1 [.slice A1 l.length c1]) d ⟨q.most, l, q.wait, q.prep, q.hurt⟩ ⟨A1, c1, m.aw, m.cw, m.ap, m.cp, m.au, m.cu⟩ ∧ Moves S0 (fpT d ⟨A1, c1, m.aw, m.cw, m.ap, m.cp, m.au, m.cu⟩) w0 (w4.setCells d 1 [.slice A1 l.length c1]) := by
  have hk2 : Kept [d] w4 (w4.setCells d 1 [.slice A1 l.length c1]) := keptAll _ (Kept.refl _ _) (.inl (by simp))
  refine ⟨⟨Blk.setAll [.slice A1 l.length c1] (p := 1) (h.blk.below hb h.blk.lt), hk2.own ho (fun g hg => by simp only [List.mem_singleton]; rintro rfl; exact hd (ownBlock_mem.1 hg)), hk2.own ((Kept.of_below (S := []) hb).own h.ow (by simp)) (fun g hg => by simp only [List.mem_singleton]; rintro rfl; exact own_blk_ne h.ow h.blk (by decide) hg), hk2.own ((Kept.of_below (S := []) hb).own h.op (by simp)) (fun g hg => by simp only [List.mem_singleton]; rintro rfl; exact own_blk_ne h.op h.blk (by decide) hg), hk2.own ((Kept.of_below (S := []) hb).own h.ou (by simp)) (fun g hg => by simp only [List.mem_singleton]; rintro rfl; exact own_blk_ne h.ou h.blk (by decide) hg), hn, h.fm⟩, ⟨(hm.kept.trans (Kept.of_below (S := []) hb) (by simp)).trans hk2 (fun y hy => by
    simp only [List.mem_singleton] at hy; subst hy; exact hm.foot _ (by simp [fpT])), fun y hy => ?_⟩⟩
  simp only [fpT, List.mem_cons, List.mem_append] at hy
  have hfo := hm.foot y
  simp only [fpT, List.mem_cons, List.mem_append] at hfo
  rcases hy with hy | hy | hy | hy | hy <;> first | (exact .inr (hf y hy)) | (exact hfo (by simp [hy]))
theorem RfAt.layW {w0 w w4 : World} {S0 : List Nat} {d : Nat} {q : Tb} {m : TbM} (h : RfAt w d q m) (hm : Moves S0 (fpT d m) w0 w) {l : List Lk} {A1 : Option Addr} {c1 : Nat} (hb : Below w.heap.size w w4) (ho : w4.ownsRow 0 62 4 (.slice A1 l.length c1) l.length (rc lkR l)) (hd : d ∉ ob A1) (hf : ∀ k ∈ ob A1, w0.heap.size ≤ k) (hn : q.held.length + l.length ≤ 1000) :
    RfAt (w4.setCells d 2 [.slice A1 l.length c1]) d ⟨q.most, q.held, l, q.prep, q.hurt⟩ ⟨m.ah, m.ch, A1, c1, m.ap, m.cp, m.au, m.cu⟩ ∧ Moves S0 (fpT d ⟨m.ah, m.ch, A1, c1, m.ap, m.cp, m.au, m.cu⟩) w0 (w4.setCells d 2 [.slice A1 l.length c1]) := by
  have hk2 : Kept [d] w4 (w4.setCells d 2 [.slice A1 l.length c1]) := keptAll _ (Kept.refl _ _) (.inl (by simp))
  refine ⟨⟨Blk.setAll [.slice A1 l.length c1] (p := 2) (h.blk.below hb h.blk.lt), hk2.own ((Kept.of_below (S := []) hb).own h.oh (by simp)) (fun g hg => by simp only [List.mem_singleton]; rintro rfl; exact own_blk_ne h.oh h.blk (by decide) hg), hk2.own ho (fun g hg => by simp only [List.mem_singleton]; rintro rfl; exact hd (ownBlock_mem.1 hg)), hk2.own ((Kept.of_below (S := []) hb).own h.op (by simp)) (fun g hg => by simp only [List.mem_singleton]; rintro rfl; exact own_blk_ne h.op h.blk (by decide) hg), hk2.own ((Kept.of_below (S := []) hb).own h.ou (by simp)) (fun g hg => by simp only [List.mem_singleton]; rintro rfl; exact own_blk_ne h.ou h.blk (by decide) hg), hn, h.fm⟩, ⟨(hm.kept.trans (Kept.of_below (S := []) hb) (by simp)).trans hk2 (fun y hy => by
    simp only [List.mem_singleton] at hy; subst hy; exact hm.foot _ (by simp [fpT])), fun y hy => ?_⟩⟩
  simp only [fpT, List.mem_cons, List.mem_append] at hy
  have hfo := hm.foot y
  simp only [fpT, List.mem_cons, List.mem_append] at hfo
  rcases hy with hy | hy | hy | hy | hy <;> first | (exact .inr (hf y hy)) | (exact hfo (by simp [hy]))
theorem RfAt.layP {w0 w w4 : World} {S0 : List Nat} {d : Nat} {q : Tb} {m : TbM} (h : RfAt w d q m) (hm : Moves S0 (fpT d m) w0 w) {l : List Idn} {A1 : Option Addr} {c1 : Nat} (hb : Below w.heap.size w w4) (ho : w4.ownsRow 0 29 2 (.slice A1 l.length c1) l.length (rc idR l)) (hd : d ∉ ob A1) (hf : ∀ k ∈ ob A1, w0.heap.size ≤ k) (hn : l.length ≤ 8796093022208) :
    RfAt (w4.setCells d 3 [.slice A1 l.length c1]) d ⟨q.most, q.held, q.wait, l, q.hurt⟩ ⟨m.ah, m.ch, m.aw, m.cw, A1, c1, m.au, m.cu⟩ ∧ Moves S0 (fpT d ⟨m.ah, m.ch, m.aw, m.cw, A1, c1, m.au, m.cu⟩) w0 (w4.setCells d 3 [.slice A1 l.length c1]) := by
  have hk2 : Kept [d] w4 (w4.setCells d 3 [.slice A1 l.length c1]) := keptAll _ (Kept.refl _ _) (.inl (by simp))
  refine ⟨⟨Blk.setAll [.slice A1 l.length c1] (p := 3) (h.blk.below hb h.blk.lt), hk2.own ((Kept.of_below (S := []) hb).own h.oh (by simp)) (fun g hg => by simp only [List.mem_singleton]; rintro rfl; exact own_blk_ne h.oh h.blk (by decide) hg), hk2.own ((Kept.of_below (S := []) hb).own h.ow (by simp)) (fun g hg => by simp only [List.mem_singleton]; rintro rfl; exact own_blk_ne h.ow h.blk (by decide) hg), hk2.own ho (fun g hg => by simp only [List.mem_singleton]; rintro rfl; exact hd (ownBlock_mem.1 hg)), hk2.own ((Kept.of_below (S := []) hb).own h.ou (by simp)) (fun g hg => by simp only [List.mem_singleton]; rintro rfl; exact own_blk_ne h.ou h.blk (by decide) hg), h.fh, ⟨hn, h.fm.2⟩⟩, ⟨(hm.kept.trans (Kept.of_below (S := []) hb) (by simp)).trans hk2 (fun y hy => by
    simp only [List.mem_singleton] at hy; subst hy; exact hm.foot _ (by simp [fpT])), fun y hy => ?_⟩⟩
  simp only [fpT, List.mem_cons, List.mem_append] at hy
  have hfo := hm.foot y
  simp only [fpT, List.mem_cons, List.mem_append] at hfo
  rcases hy with hy | hy | hy | hy | hy <;> first | (exact .inr (hf y hy)) | (exact hfo (by simp [hy]))
theorem RfAt.layU {w0 w w4 : World} {S0 : List Nat} {d : Nat} {q : Tb} {m : TbM} (h : RfAt w d q m) (hm : Moves S0 (fpT d m) w0 w) {l : List Idn} {A1 : Option Addr} {c1 : Nat} (hb : Below w.heap.size w w4) (ho : w4.ownsRow 0 29 2 (.slice A1 l.length c1) l.length (rc idR l)) (hd : d ∉ ob A1) (hf : ∀ k ∈ ob A1, w0.heap.size ≤ k) (hn : l.length ≤ 8796093022208) :
    RfAt (w4.setCells d 4 [.slice A1 l.length c1]) d ⟨q.most, q.held, q.wait, q.prep, l⟩ ⟨m.ah, m.ch, m.aw, m.cw, m.ap, m.cp, A1, c1⟩ ∧ Moves S0 (fpT d ⟨m.ah, m.ch, m.aw, m.cw, m.ap, m.cp, A1, c1⟩) w0 (w4.setCells d 4 [.slice A1 l.length c1]) := by
  have hk2 : Kept [d] w4 (w4.setCells d 4 [.slice A1 l.length c1]) := keptAll _ (Kept.refl _ _) (.inl (by simp))
  refine ⟨⟨Blk.setAll [.slice A1 l.length c1] (p := 4) (h.blk.below hb h.blk.lt), hk2.own ((Kept.of_below (S := []) hb).own h.oh (by simp)) (fun g hg => by simp only [List.mem_singleton]; rintro rfl; exact own_blk_ne h.oh h.blk (by decide) hg), hk2.own ((Kept.of_below (S := []) hb).own h.ow (by simp)) (fun g hg => by simp only [List.mem_singleton]; rintro rfl; exact own_blk_ne h.ow h.blk (by decide) hg), hk2.own ((Kept.of_below (S := []) hb).own h.op (by simp)) (fun g hg => by simp only [List.mem_singleton]; rintro rfl; exact own_blk_ne h.op h.blk (by decide) hg), hk2.own ho (fun g hg => by simp only [List.mem_singleton]; rintro rfl; exact hd (ownBlock_mem.1 hg)), h.fh, ⟨h.fm.1, hn⟩⟩, ⟨(hm.kept.trans (Kept.of_below (S := []) hb) (by simp)).trans hk2 (fun y hy => by
    simp only [List.mem_singleton] at hy; subst hy; exact hm.foot _ (by simp [fpT])), fun y hy => ?_⟩⟩
  simp only [fpT, List.mem_cons, List.mem_append] at hy
  have hfo := hm.foot y
  simp only [fpT, List.mem_cons, List.mem_append] at hfo
  rcases hy with hy | hy | hy | hy | hy <;> first | (exact .inr (hf y hy)) | (exact hfo (by simp [hy]))
theorem own_set {w : World} {g c n cap e sz : Nat} {A : Option Addr} {xs : List Value} {v : Value} (h : w.ownsRow 0 e sz (.slice A n cap) n xs) (hg : g ∉ ob A) : (w.setCells g c [v]).ownsRow 0 e sz (.slice A n cap) n xs :=
  (keptAll [v] (Kept.refl [g] w) (.inl (by simp)) : Kept [g] w (w.setCells g c [v])).own h (fun k hk => by simp only [List.mem_singleton]; rintro rfl; exact hg (ownBlock_mem.1 hk))
theorem blk_set {w : World} {g c p t : Nat} {cs : Array Value} {v : Value} (h : Blk w p t cs) (hg : p ≠ g) : Blk (w.setCells g c [v]) p t cs :=
  (keptAll [v] (Kept.refl [g] w) (.inl (by simp)) : Kept [g] w (w.setCells g c [v])).blk h (by simpa using hg)
theorem size_set (w : World) (g c : Nat) (v : Value) : w.heap.size ≤ (w.setCells g c [v]).heap.size := (keptAll [v] (Kept.refl [g] w) (.inl (by simp)) : Kept [g] w (w.setCells g c [v])).size
def kz (k : ByteArray) : Lk := ⟨k, ⟨0, 0⟩, 0⟩
def kL (id : Idn) (pre : List Lk) : List ByteArray := ((pre.filter fun l => decide (l.id = id)).map (·.key)).foldl (fun l k => ins bl k l) []
def noId (id : Idn) (l : List Lk) : List Lk := l.filter fun x => decide (x.id ≠ id)
theorem kL_all (q : Tb) (id : Idn) : kL id (q.held ++ q.wait) = keysOf q id := rfl
theorem kL_on (id : Idn) (pre : List Lk) (y : Lk) : kL id (pre ++ [y]) = if y.id = id then ins bl y.key (kL id pre) else kL id pre := by
  unfold kL
  rw [List.filter_append]
  by_cases h : y.id = id
  · simp [h]
  · simp [h]
theorem noId_on {id : Idn} {l : List Lk} {y : Lk} {k : Nat} (h : l[k]? = some y) : noId id (l.take (k + 1)) = noId id (l.take k) ++ if y.id = id then [] else [y] := by
  unfold noId
  rw [take_on h, List.filter_append]
  by_cases e : y.id = id
  · simp [e]
  · simp [e]
theorem noId_len (id : Idn) (l : List Lk) (k : Nat) : (noId id (l.take k)).length ≤ l.length := by
  unfold noId
  refine Nat.le_trans (List.length_filter_le _ _) ?_
  rw [List.length_take]; omega
theorem kL_len (id : Idn) (pre : List Lk) : (kL id pre).length ≤ pre.length := by
  unfold kL
  have h : ∀ (v l : List ByteArray), (v.foldl (fun l k => ins bl k l) l).length ≤ l.length + v.length := by
    intro v
    induction v with
    | nil => intro l; simp
    | cons a v ih =>
      intro l
      rw [List.foldl_cons, List.length_cons]
      have h1 := ih (ins bl a l)
      have h2 := ins_len (lt := bl) (x := a) l
      omega
  refine Nat.le_trans (h _ _) ?_
  rw [List.length_map, List.length_nil, Nat.zero_add]
  exact List.length_filter_le _ _
theorem ah_kz (a b : ByteArray) : ah (kz a) (kz b) = bl a b := by unfold ah kz; simp [ol_ord.irr]
theorem ins_kz (k : ByteArray) : ∀ K : List ByteArray, ins ah (kz k) (K.map kz) = (ins bl k K).map kz
  | [] => rfl
  | y :: K => by
    rw [List.map_cons]
    cases h1 : bl y k with
    | true => rw [ins_lt h1, ins_lt ((ah_kz _ _).trans h1), ins_kz k K]; rfl
    | false => cases h2 : bl k y with
      | true => rw [ins_gt h1 h2, ins_gt ((ah_kz _ _).trans h1) ((ah_kz _ _).trans h2)]; rfl
      | false => rw [ins_eq h1 h2, ins_eq ((ah_kz _ _).trans h1) ((ah_kz _ _).trans h2)]; rfl
theorem srt_kz {K : List ByteArray} (h : Srt bl K) : Srt ah (K.map kz) := by
  unfold Srt
  rw [List.pairwise_map]
  exact List.Pairwise.imp (fun {a b} hab => (ah_kz a b).trans hab) h
theorem srt_kL (id : Idn) (pre : List Lk) : Srt bl (kL id pre) := srt_foldk List.Pairwise.nil
/-- the keys' row and a list's row, both new -/
structure Two (w2 w5 : World) (T : List Nat) (K : List ByteArray) (H : List Lk) (Ak : Option Addr) (ck : Nat) (Ah : Option Addr) (ch : Nat) (wr : World) : Prop where
  ok : wr.ownsRow 0 62 4 (.slice Ak K.length ck) K.length (rc lkR (K.map kz))
  oh : wr.ownsRow 0 62 4 (.slice Ah H.length ch) H.length (rc lkR H)
  fk : ∀ x ∈ ob Ak, w2.heap.size ≤ x
  fh : ∀ x ∈ ob Ah, w5.heap.size ≤ x
  dj : ∀ x ∈ ob Ak, x ∉ ob Ah ∧ x ∉ T
  tl : ∀ x ∈ T, x < w5.heap.size
  bel : Below w5.heap.size w5 wr
  ord : w2.heap.size ≤ w5.heap.size
section
variable {w2 w5 wr w' : World} {T : List Nat} {K K' : List ByteArray} {H : List Lk} {Ak Ah A3 : Option Addr} {ck ch c3 : Nat} {o : Value} {x : Lk} {ob_ : Obj}
theorem Two.below (h : Two w2 w5 T K H Ak ck Ah ch wr) (hb : Below wr.heap.size wr w') : Two w2 w5 T K H Ak ck Ah ch w' :=
  ⟨(Kept.of_below (S := []) hb).own h.ok (by simp), (Kept.of_below (S := []) hb).own h.oh (by simp), h.fk, h.fh, h.dj, h.tl, h.bel.trans (hb.mono h.bel.size), h.ord⟩
theorem Two.keys (h : Two w2 w5 T K H Ak ck Ah ch wr) (hb : Below wr.heap.size wr w') (ho : w'.ownsRow 0 62 4 (.slice A3 K'.length c3) K'.length (rc lkR (K'.map kz))) (hf : ∀ x ∈ ob A3, wr.heap.size ≤ x) : Two w2 w5 T K' H A3 c3 Ah ch w' :=
  ⟨ho, (Kept.of_below (S := []) hb).own h.oh (by simp), fun x hx => Nat.le_trans h.ord (Nat.le_trans h.bel.size (hf x hx)), h.fh, fun x hx => ⟨fun hm => by have h1 := own_lt h.oh x hm; have h2 := hf x hx; omega, fun hm => by have h1 := h.tl x hm; have h2 := hf x hx; have := h.bel.size; omega⟩, h.tl, h.bel.trans (hb.mono h.bel.size), h.ord⟩
theorem Two.app (h : Two w2 w5 T K H Ak ck Ah ch wr) (hown : w'.ownsRow 0 62 4 (.slice A3 (H.length + 1) c3) (H.length + 1) (rc lkR (H ++ [x]))) (hk : Kept (ob Ah) (wr.alloc ob_) w') (hf3 : ∀ k ∈ ob A3, k ∈ ob Ah ∨ (wr.alloc ob_).heap.size ≤ k) : Two w2 w5 T K (H ++ [x]) Ak ck A3 c3 w' := by
  have hl : H.length + 1 = (H ++ [x]).length := by simp
  rw [hl] at hown
  refine ⟨hk.of_alloc.own h.ok (fun g hg => (h.dj g (ownBlock_mem.1 hg)).1), hown, h.fk, fun k hm => ?_, fun y hy => ⟨fun hm => ?_, (h.dj y hy).2⟩, h.tl, h.bel.trans (hk.of_alloc.below h.bel.size h.fh), h.ord⟩
  · rcases hf3 k hm with h1 | h1
    · exact h.fh k h1
    · simp at h1; have := h.bel.size; omega
  · rcases hf3 y hm with h1 | h1
    · exact (h.dj y hy).1 h1
    · simp at h1; have := own_lt h.ok y hy; omega
end
def E1Rel (l pre : List Lk) (id : Idn) (w2 w5 : World) (T : List Nat) (a b i : Value) (wr : World) : Prop := ∃ (k : Nat) (Ak : Option Addr) (ck : Nat) (Ah : Option Addr) (ch : Nat), i = .int .i64 k ∧ k ≤ l.length ∧ a = .slice Ak (kL id (pre ++ l.take k)).length ck ∧ b = .slice Ah (noId id (l.take k)).length ch ∧
  Two w2 w5 T (kL id (pre ++ l.take k)) (noId id (l.take k)) Ak ck Ah ch wr
def REndEnds (g : Nat) (q : Tb) (n : TbM) (id : Idn) (w : World) (e : Ending) (w' : World) : Prop :=
  ∃ A c, e = .returned (.slice A (endS q id).2.length c) ∧ w'.ownsRow 0 62 4 (.slice A (endS q id).2.length c) (endS q id).2.length (rc lkR (endS q id).2) ∧ (∀ k ∈ ob A, w.heap.size ≤ k) ∧
    ∃ n', RfAt w' g (endS q id).1 n' ∧ Moves (fpT g n) (fpT g n') w w' ∧ ∀ k ∈ ob A, k ∉ fpT g n'
/-- behind the two first loops -/
structure EndMid (g : Nat) (q : Tb) (n : TbM) (id : Idn) (p1 : Nat) (w : World) (Ak : Option Addr) (ck : Nat) (Ah : Option Addr) (ch : Nat) (Aw : Option Addr) (cw : Nat) (wr : World) : Prop where
  ok : wr.ownsRow 0 62 4 (.slice Ak (keysOf q id).length ck) (keysOf q id).length (rc lkR ((keysOf q id).map kz))
  oh : wr.ownsRow 0 62 4 (.slice Ah (noId id q.held).length ch) (noId id q.held).length (rc lkR (noId id q.held))
  ow : wr.ownsRow 0 62 4 (.slice Aw (noId id q.wait).length cw) (noId id q.wait).length (rc lkR (noId id q.wait))
  fk : ∀ x ∈ ob Ak, w.heap.size ≤ x
  fh : ∀ x ∈ ob Ah, w.heap.size ≤ x
  fw : ∀ x ∈ ob Aw, w.heap.size ≤ x
  dk : ∀ x ∈ ob Ak, x ∉ ob Ah ∧ x ∉ ob Aw
  dh : ∀ x ∈ ob Ah, x ∉ ob Aw
  bel : Below w.heap.size w wr
  box : Blk wr p1 29 #[.int .i64 id.n, .int .i64 id.c]
  bp : w.heap.size ≤ p1
/-- in the third loop: the table of s.1, the row got of s.2, the keys' row, all apart -/
structure EnSt (g : Nat) (n0 : TbM) (w0 : World) (KS : List ByteArray) (Ak : Option Addr) (ck : Nat) (s : Tb × List Lk) (A : Option Addr) (c : Nat) (n : TbM) (wr : World) : Prop where
  rf : RfAt wr g s.1 n
  mv : Moves (fpT g n0) (fpT g n) w0 wr
  own : wr.ownsRow 0 62 4 (.slice A s.2.length c) s.2.length (rc lkR s.2)
  fr : ∀ y ∈ ob A, w0.heap.size ≤ y
  ap : ∀ y ∈ ob A, y ∉ fpT g n
  ko : wr.ownsRow 0 62 4 (.slice Ak KS.length ck) KS.length (rc lkR (KS.map kz))
  kp : ∀ y ∈ ob Ak, y ∉ fpT g n ∧ y ∉ ob A
  good : Good s.1
  tot : s.1.held.length + s.1.wait.length ≤ 900
  few : s.2.length + s.1.wait.length ≤ 1000
section
variable {g : Nat} {n0 n n2 : TbM} {w0 wr w2 : World} {KS : List ByteArray} {Ak A A3 : Option Addr} {ck c c3 : Nat} {s : Tb × List Lk} {t : Tb} {x : Lk} {ob_ : Obj}
theorem EnSt.below (h : EnSt g n0 w0 KS Ak ck s A c n wr) (hb : Below wr.heap.size wr w2) : EnSt g n0 w0 KS Ak ck s A c n w2 :=
  ⟨h.rf.below hb, h.mv.trans (Moves.of_below hb), (Kept.of_below (S := []) hb).own h.own (by simp), h.fr, h.ap, (Kept.of_below (S := []) hb).own h.ko (by simp), h.kp, h.good, h.tot, h.few⟩
theorem EnSt.turn (h : EnSt g n0 w0 KS Ak ck s A c n wr) (hr : RfAt w2 g t n2) (hm : Moves (fpT g n) (fpT g n2) wr w2) (hg : Good t) (h1 : t.held.length + t.wait.length ≤ 900) (h2 : s.2.length + t.wait.length ≤ 1000) : EnSt g n0 w0 KS Ak ck (t, s.2) A c n2 w2 :=
  ⟨hr, h.mv.trans hm, hm.kept.own h.own (fun y hy hf => h.ap y (ownBlock_mem.1 hy) hf), h.fr, hm.apart (own_lt h.own) h.ap, hm.kept.own h.ko (fun y hy hf => (h.kp y (ownBlock_mem.1 hy)).1 hf), fun y hy => ⟨hm.apart (own_lt h.ko) (fun k hk => (h.kp k hk).1) y hy, (h.kp y hy).2⟩, hg, h1, h2⟩
theorem EnSt.add (h : EnSt g n0 w0 KS Ak ck s A c n wr) (hown : w2.ownsRow 0 62 4 (.slice A3 (s.2.length + 1) c3) (s.2.length + 1) (rc lkR (s.2 ++ [x]))) (hk : Kept (ob A) (wr.alloc ob_) w2) (hf3 : ∀ k ∈ ob A3, k ∈ ob A ∨ (wr.alloc ob_).heap.size ≤ k) (h2 : s.2.length + 1 + s.1.wait.length ≤ 1000) :
    EnSt g n0 w0 KS Ak ck (s.1, s.2 ++ [x]) A3 c3 n w2 := by
  have hl : s.2.length + 1 = (s.2 ++ [x]).length := by simp
  rw [hl] at hown
  have hk' := hk.of_alloc
  have hlt : ∀ k ∈ ob A3, k ∈ ob A ∨ wr.heap.size ≤ k := fun k hm => (hf3 k hm).imp id (fun h1 => by simp at h1; omega)
  refine ⟨h.rf.kept hk' (fun k hf hm => h.ap k hm hf), ⟨h.mv.kept.trans hk' (fun y hy => .inr (h.fr y hy)), h.mv.foot⟩, hown, fun k hm => ?_, fun k hm hf => ?_, hk'.own h.ko (fun y hy => (h.kp y (ownBlock_mem.1 hy)).2), fun y hy => ⟨(h.kp y hy).1, fun hm => ?_⟩, h.good, h.tot, by simp; omega⟩
  · rcases hlt k hm with h1 | h1
    · exact h.fr k h1
    · have := h.mv.kept.size; omega
  · rcases hlt k hm with h1 | h1
    · exact h.ap k h1 hf
    · have := h.rf.lt k hf; omega
  · rcases hlt y hm with h1 | h1
    · exact (h.kp y hy).2 h1
    · have := own_lt h.ko y hy; omega
end
/-- in the inner loop: a copy of the waiting ones, apart from all -/
structure InSt (g : Nat) (n0 : TbM) (w0 : World) (KS : List ByteArray) (Ak : Option Addr) (ck : Nat) (L : List Lk) (Al : Option Addr) (cl : Nat) (s : Tb × List Lk) (A : Option Addr) (c : Nat) (n : TbM) (wr : World) : Prop where
  st : EnSt g n0 w0 KS Ak ck s A c n wr
  lo : wr.ownsRow 0 62 4 (.slice Al L.length cl) L.length (rc lkR L)
  lp : ∀ y ∈ ob Al, y ∉ fpT g n ∧ y ∉ ob A
section
variable {g : Nat} {n0 n n2 : TbM} {w0 wr w2 : World} {KS : List ByteArray} {Ak A A3 Al : Option Addr} {ck c c3 cl : Nat} {L : List Lk} {s : Tb × List Lk} {t : Tb} {x : Lk} {ob_ : Obj}
theorem InSt.below (h : InSt g n0 w0 KS Ak ck L Al cl s A c n wr) (hb : Below wr.heap.size wr w2) : InSt g n0 w0 KS Ak ck L Al cl s A c n w2 := ⟨h.st.below hb, (Kept.of_below (S := []) hb).own h.lo (by simp), h.lp⟩
theorem InSt.turn (h : InSt g n0 w0 KS Ak ck L Al cl s A c n wr) (hr : RfAt w2 g t n2) (hm : Moves (fpT g n) (fpT g n2) wr w2) (hg : Good t) (h1 : t.held.length + t.wait.length ≤ 900) (h2 : s.2.length + t.wait.length ≤ 1000) : InSt g n0 w0 KS Ak ck L Al cl (t, s.2) A c n2 w2 :=
  ⟨h.st.turn hr hm hg h1 h2, hm.kept.own h.lo (fun y hy hf => (h.lp y (ownBlock_mem.1 hy)).1 hf), fun y hy => ⟨hm.apart (own_lt h.lo) (fun k hk => (h.lp k hk).1) y hy, (h.lp y hy).2⟩⟩
theorem InSt.add (h : InSt g n0 w0 KS Ak ck L Al cl s A c n wr) (hown : w2.ownsRow 0 62 4 (.slice A3 (s.2.length + 1) c3) (s.2.length + 1) (rc lkR (s.2 ++ [x]))) (hk : Kept (ob A) (wr.alloc ob_) w2) (hf3 : ∀ k ∈ ob A3, k ∈ ob A ∨ (wr.alloc ob_).heap.size ≤ k) (h2 : s.2.length + 1 + s.1.wait.length ≤ 1000) :
    InSt g n0 w0 KS Ak ck L Al cl (s.1, s.2 ++ [x]) A3 c3 n w2 :=
  ⟨h.st.add hown hk hf3 h2, hk.of_alloc.own h.lo (fun y hy => (h.lp y (ownBlock_mem.1 hy)).2), fun y hy => ⟨(h.lp y hy).1, fun hm => by
    rcases hf3 y hm with h1 | h1
    · exact (h.lp y hy).2 h1
    · simp at h1; have := own_lt h.lo y hy; omega⟩⟩
end
theorem sub_on {L : List Lk} (hs : Srt ah L) {j : Nat} {y : Lk} (h : L[j]? = some y) : ∀ x ∈ L.drop (j + 1), x ∈ L.drop j ∧ x ≠ y := by
  obtain ⟨hj, hy⟩ := List.getElem?_eq_some_iff.1 h
  intro x hx
  have e : L.drop j = y :: L.drop (j + 1) := by rw [List.drop_eq_getElem_cons hj, hy]
  refine ⟨by rw [e]; exact List.mem_cons_of_mem _ hx, ?_⟩
  have hp : Srt ah (L.drop j) := List.Pairwise.sublist (List.drop_sublist _ _) hs
  rw [e] at hp
  rintro rfl
  have := (List.pairwise_cons.1 hp).1 x hx
  rw [ah_ord.irr] at this; cases this
theorem sub_at {L : List Lk} {j : Nat} {y : Lk} (h : L[j]? = some y) : y ∈ L.drop j := by
  obtain ⟨hj, hy⟩ := List.getElem?_eq_some_iff.1 h
  rw [List.drop_eq_getElem_cons hj, hy]; exact List.mem_cons_self ..
def GoR (g : Nat) (n0 : TbM) (w0 : World) (q : Tb) (id : Idn) (Ak : Option Addr) (ck : Nat) (o i : Value) (wr : World) : Prop :=
  ∃ (k : Nat) (A : Option Addr) (c : Nat) (n : TbM), i = .int .i64 k ∧ k ≤ (keysOf q id).length ∧ o = .slice A (kS q id k).2.length c ∧ EnSt g n0 w0 (keysOf q id) Ak ck (kS q id k) A c n wr
def InR (g : Nat) (n0 : TbM) (w0 : World) (KS : List ByteArray) (Ak : Option Addr) (ck : Nat) (s : Tb × List Lk) (key : ByteArray) (Al : Option Addr) (cl : Nat) (o i : Value) (wr : World) : Prop :=
  ∃ (j : Nat) (A : Option Addr) (c : Nat) (n : TbM), i = .int .i64 j ∧ j ≤ s.1.wait.length ∧ o = .slice A (jS s key j).2.length c ∧ InSt g n0 w0 KS Ak ck s.1.wait Al cl (jS s key j) A c n wr ∧ ∀ x ∈ s.1.wait.drop j, x ∈ (jS s key j).1.wait
set_option maxHeartbeats 16000000 in
set_option maxRecDepth 100000 in
theorem rend_any {w : World} {g : Nat} {q : Tb} {n : TbM} (h : RfAt w g q n) (id : Idn) (hgd : Good q) (hq9 : q.held.length + q.wait.length ≤ 900) (hpm : q.prep.length ≤ 1000000 ∧ q.hurt.length ≤ 1000000) : Calls Tryz.prog 19 #[.pointer (some ⟨g, 0, none⟩), idV id] w (REndEnds g q n id w) := by
  obtain ⟨i0, hi0, hz0, hy0, hx0⟩ := info_parts Tryz.infoLk
  have HH := Lib.hid h
  have HE := Lib.hid (fun y => run_eqI y id)
  have HGD := Lib.hid hgd
  have HQ9 := Lib.hid hq9
  have HPM := Lib.hid hpm
  clear h hgd hq9 hpm
  unfold idV
  go_enter Tryz.func19, Tryz.ntmps19
  go_upto_region 1 with fail
  have k1 := Blk.new w 29 #[.int .i64 id.n, .int .i64 id.c]
  have HB := Lib.hid (below_alloc w (.cells #[.int .i64 id.n, .int .i64 id.c] 29))
  obtain ⟨w2, hw2⟩ : ∃ w2, w2 = (w.alloc (.cells #[.int .i64 id.n, .int .i64 id.c] 29)) := ⟨_, rfl⟩
  obtain ⟨p1, hp1⟩ : ∃ p1, p1 = w.heap.size := ⟨_, rfl⟩
  rw [← hw2] at HB k1
  rw [← hp1] at k1
  rw [← hw2]
  rw [← hp1]
  have HP1 : Hid (w.heap.size ≤ p1) := Lib.hid (by omega)
  clear hw2 hp1
  have HT2 := Lib.hid (HH.out.below HB.out)
  have HK2 := Lib.hid k1
  have H0 : Hid (E1Rel q.held [] id w2 w2 [] (.slice none 0 0) (.slice none 0 0) (.int .i64 0) w2) := Lib.hid ⟨0, none, 0, none, 0, rfl, Nat.zero_le _, by simp [kL], by simp [noId], ⟨by simpa [kL, rc] using World.ownsRow_nil _ _ _ _, by simpa [noId, rc] using World.ownsRow_nil _ _ _ _, by simp [ob], by simp [ob], by simp [ob], by simp, Below.refl _ _, Nat.le_refl _⟩⟩
  clear k1
  go_wp2
  go_loopw [5, 6, 8] (E1Rel q.held [] id w2 w2 []) (fun _ _ i _ => q.held.length - (intOf i).toNat)
  case atStart => exact H0.out
  case round =>
    clear H0
    obtain ⟨k, Ak, ck, Ah, ch, rfl, hk, rfl, rfl, hx⟩ := hrel
    have hkl := kL_len id ([] ++ q.held.take k)
    have hhl := noId_len id q.held k
    have HX2 := Lib.hid hx
    have hfh := HH.out.fh
    have HTR := Lib.hid (HT2.out.below hx.bel)
    have HKR := Lib.hid (HK2.out.below hx.bel HK2.out.lt)
    have y1 : wr.cell? ⟨g, 1, none⟩ = some (.slice n.ah q.held.length n.ch) := HTR.out.c1
    obtain ⟨K, hK⟩ : ∃ K, K = kL id ([] ++ q.held.take k) := ⟨_, rfl⟩
    obtain ⟨H, hH⟩ : ∃ H, H = noId id (q.held.take k) := ⟨_, rfl⟩
    rw [← hK] at HX2 hkl
    rw [← hH] at HX2 hhl
    rw [← hK, ← hH]
    have HKE := Lib.hid hK.symm
    have HHE := Lib.hid hH.symm
    rw [List.nil_append, List.length_take] at hkl
    clear hx hK hH
    by_cases hlt : k < q.held.length
    · obtain ⟨b, off, hA, hcell⟩ := rowL (Reads.of_own HTR.out.oh) (by omega)
      have hcy := hcell k hlt
      rw [hA] at y1
      have HGY : Hid (q.held[k]? = some (gr lkR q.held k)) := Lib.hid (gr_get hlt)
      obtain ⟨y, hy⟩ : ∃ y, y = gr lkR q.held k := ⟨_, rfl⟩
      rw [← hy] at hcy HGY
      have HCY := Lib.hid hcy
      have kL0 : (0 : Int) ≤ (k : Int) := by omega
      have kU : (k : Int) < (q.held.length : Int) := by omega
      have HBD : Hid (Below wr.heap.size wr wr.drew) := Lib.hid (below_drewN (Below.refl wr.heap.size wr) 1)
      have hS : Hid (∀ w', Below wr.heap.size wr w' → (w'.cell? ⟨g, 1, none⟩ = some (.slice (some ⟨b, off, none⟩) q.held.length n.ch) ∧ w'.cell? ⟨b, off + k * 4, none⟩ = some (.string y.key) ∧ w'.cell? ⟨b, off + k * 4 + 1, none⟩ = some (.int .i64 y.id.n) ∧ w'.cell? ⟨b, off + k * 4 + 2, none⟩ = some (.int .i64 y.id.c) ∧ w'.cell? ⟨b, off + k * 4 + 3, none⟩ = some (.int .i64 y.mode) ∧ w'.cell? ⟨p1, 0, none⟩ = some (.int .i64 id.n) ∧ w'.cell? ⟨p1, 1, none⟩ = some (.int .i64 id.c))) := Lib.hid (fun w' hb => by
        have h1 := (HTR.out.below hb).c1
        rw [hA] at h1
        obtain ⟨a0, a1, a2, a3⟩ := HCY.out w' hb
        exact ⟨h1, a0, a1, a2, a3, (HKR.out.below hb HKR.out.lt).cell 0, (HKR.out.below hb HKR.out.lt).cell 1⟩)
      have he := HE.out y.id
      clear hy hcy hcell
      cases hq : eqI y.id id with
      | true =>
        rw [hq] at he
        have HX : Hid (kL id ([] ++ q.held.take (k + 1)) = ins bl y.key K ∧ noId id (q.held.take (k + 1)) = H) := Lib.hid ⟨by rw [take_on HGY.out, ← List.append_assoc, kL_on, if_pos (eqI_iff.1 hq), HKE.out], by rw [noId_on HGY.out, if_pos (eqI_iff.1 hq), HHE.out]; simp⟩
        have HSK : Hid (Srt bl K) := Lib.hid (by rw [← HKE.out]; exact srt_kL _ _)
        clear hq HKE HHE
        have HSD := Lib.hid (hS.out _ HBD.out)
        have HXD := Lib.hid (HX2.out.below HBD.out)
        go_wp2_with fail
        refine wp_region_heldH (by kernel_rfl) hS (HBD.out) (fun hHeld => ?_)
        refine takes [0, 1, 2, 3, 4, 5, 6, 7, 8, 9] 0 (by kernel_rfl) (by assumption) ?_
        iterate 10 (refine tkY rfl (fun _ _ _ h => h) rfl (by ((intro w hSw); (try dsimp only at hSw); go_simp; (try with_reducible rfl))) ?_; try simp only [Act.put, List.setIfInBounds_toArray, List.set_cons_zero, List.set_cons_succ])
        refine tkE ?_
        refine wpAnyH_done (by kernel_rfl) ?_ _
        obtain ⟨wd, hnm⟩ : ∃ wd : World, wd = wr.drew := ⟨_, rfl⟩
        rw [← hnm] at HSD HXD HBD ⊢
        clear hnm
        obtain ⟨z0, z1, z2, z3, z4, _⟩ := HSD.out
        have HPT : Hid (Calls Tryz.prog 52 #[.slice Ak K.length ck, .agg #[.string y.key, .int .i64 0, .int .i64 0, .int .i64 0]] wd (NewRow lkR 62 ((ins bl y.key K).map kz) wd)) := Lib.hid (by have h := rput_any Ak ck (K.map kz) (kz y.key) wd (by rw [List.length_map]; exact Reads.of_own HXD.out.ok) (by rw [List.length_map]; omega) (srt_kz HSK.out); rw [List.length_map, ins_kz] at h; exact h)
        go_wp2_with fail
        refine HPT.out.mono ?_
        clear HPT z0 z1 z2 z3 z4
        rintro e w6 ⟨o, rfl, A3, c3, rfl, ho, hf, hb⟩
        rw [List.length_map] at ho ⊢
        have HN := Lib.hid (HXD.out.keys hb ho hf)
        clear ho hf hb
        go_wp2
        go_roundw
        case rel =>
          refine ⟨k + 1, A3, c3, Ah, ch, by go_num, by omega, by rw [HX.out.1], by rw [HX.out.2], ?_⟩
          rw [HX.out.1, HX.out.2]
          exact HN.out
        case measure => simp [intOf]; omega
      | false =>
        rw [hq] at he
        have hne : y.id ≠ id := fun h => by rw [eqI_iff.2 h] at hq; cases hq
        have HX : Hid (kL id ([] ++ q.held.take (k + 1)) = K ∧ noId id (q.held.take (k + 1)) = H ++ [y]) := Lib.hid ⟨by rw [take_on HGY.out, ← List.append_assoc, kL_on, if_neg hne, HKE.out], by rw [noId_on HGY.out, if_neg hne, HHE.out]⟩
        clear hq hne HKE HHE
        have HSD := Lib.hid (hS.out _ HBD.out)
        have HXD := Lib.hid (HX2.out.below HBD.out)
        have HOD := Lib.hid HXD.out.oh
        go_wp2_with fail
        refine wp_region_heldH (by kernel_rfl) hS (HBD.out) (fun hHeld => ?_)
        refine takes [0, 1, 2, 3, 4, 5, 6, 7, 8, 9] 0 (by kernel_rfl) (by assumption) ?_
        iterate 10 (refine tkY rfl (fun _ _ _ h => h) rfl (by ((intro w hSw); (try dsimp only at hSw); go_simp; (try with_reducible rfl))) ?_; try simp only [Act.put, List.setIfInBounds_toArray, List.set_cons_zero, List.set_cons_succ])
        refine tkE ?_
        refine wpAnyH_done (by kernel_rfl) ?_ _
        obtain ⟨wd, hnm⟩ : ∃ wd : World, wd = wr.drew := ⟨_, rfl⟩
        rw [← hnm] at HSD HXD HBD HOD ⊢
        clear hnm
        obtain ⟨z0, z1, z2, z3, z4, _⟩ := HSD.out
        go_wp2_with (at_builtin; refine wpList_app rfl (.tmp 44) (.tmp 52) 34 34 rfl 62 i0 _ 4 40 Tryz.underlying34 hi0 hz0 hy0 hx0 rfl (by omega) Ah H.length ch (rc lkR H) rfl (HOD.out.alloc _) _ 1 (lkR.cells y) rfl (Src.of1 (R := lkR) Tryz.underlying34 y 62) (by simp only [maxLen]; omega) (by omega) ?_; intro A3 k3 w3 hown3 hk3 hf3; rw [rc_snoc] at hown3)
        have HN := Lib.hid (HXD.out.app hown3 hk3 hf3)
        have hHl : H.length + 1 = (H ++ [y]).length := by simp
        rw [hHl]
        clear hown3 hk3 hf3 z0 z1 z2 z3 z4 hHl
        go_roundw
        case rel =>
          refine ⟨k + 1, Ak, ck, A3, k3, by go_num, by omega, by rw [HX.out.1], by rw [HX.out.2], ?_⟩
          rw [HX.out.1, HX.out.2]
          exact HN.out
        case measure => simp [intOf]; omega
    · 
      have kU : ¬ (k : Int) < (q.held.length : Int) := by omega
      have HXE : Hid (Two w2 w2 [] (kL id q.held) (noId id q.held) Ak ck Ah ch wr ∧ K = kL id q.held ∧ H = noId id q.held) := Lib.hid (by have h1 := HKE.out; have h2 := HHE.out; rw [List.take_of_length_le (show q.held.length ≤ k by omega)] at h1 h2; rw [List.nil_append] at h1; have h := HX2.out; rw [← h1, ← h2] at h; exact ⟨h, h1.symm, h2.symm⟩)
      rw [HXE.out.2.1, HXE.out.2.2]
      obtain ⟨Ah1, hAh1⟩ : ∃ Ah1, Ah1 = Ah := ⟨_, rfl⟩
      obtain ⟨ch1, hch1⟩ : ∃ ch1, ch1 = ch := ⟨_, rfl⟩
      obtain ⟨w5, hw5⟩ : ∃ w5, w5 = wr := ⟨_, rfl⟩
      rw [← hAh1, ← hch1, ← hw5] at HXE
      rw [← hw5] at y1
      rw [← hAh1, ← hch1, ← hw5]
      have HB25 := Lib.hid HXE.out.1.bel
      have HO5 := Lib.hid HXE.out.1.oh
      have HF5 := Lib.hid HXE.out.1.fh
      have H0 : Hid (E1Rel q.wait q.held id w2 w5 (ob Ah1) (.slice Ak (kL id q.held).length ck) (.slice none 0 0) (.int .i64 0) w5) := Lib.hid ⟨0, Ak, ck, none, 0, rfl, Nat.zero_le _, by simp, by simp [noId], ⟨by simpa using HXE.out.1.ok, by simpa [noId, rc] using World.ownsRow_nil _ _ _ _, HXE.out.1.fk, by simp [ob], fun x hx => ⟨by simp [ob], (HXE.out.1.dj x hx).1⟩, own_lt HXE.out.1.oh, Below.refl _ _, HXE.out.1.bel.size⟩⟩
      clear hAh1 hch1 hw5 HX2 HKE HHE HTR HKR HXE
      go_wp2
      clear kU y1
      go_loopw [5, 7, 9] (E1Rel q.wait q.held id w2 w5 (ob Ah1)) (fun _ _ i _ => q.wait.length - (intOf i).toNat)
      case atStart => exact H0.out
      case round =>
        clear H0
        obtain ⟨k, Ak, ck, Ah, ch, rfl, hk, rfl, rfl, hx⟩ := hrel
        have hkl := kL_len id (q.held ++ q.wait.take k)
        have hhl := noId_len id q.wait k
        have HX2 := Lib.hid hx
        have hfh := HH.out.fh
        have HTR := Lib.hid (HT2.out.below (HB25.out.trans (hx.bel.mono HB25.out.size)))
        have HKR := Lib.hid (HK2.out.below (HB25.out.trans (hx.bel.mono HB25.out.size)) HK2.out.lt)
        have y1 : wr.cell? ⟨g, 2, none⟩ = some (.slice n.aw q.wait.length n.cw) := HTR.out.c2
        obtain ⟨K, hK⟩ : ∃ K, K = kL id (q.held ++ q.wait.take k) := ⟨_, rfl⟩
        obtain ⟨H, hH⟩ : ∃ H, H = noId id (q.wait.take k) := ⟨_, rfl⟩
        rw [← hK] at HX2 hkl
        rw [← hH] at HX2 hhl
        rw [← hK, ← hH]
        have HKE := Lib.hid hK.symm
        have HHE := Lib.hid hH.symm
        rw [List.length_append, List.length_take] at hkl
        clear hx hK hH
        by_cases hlt : k < q.wait.length
        · obtain ⟨b, off, hA, hcell⟩ := rowL (Reads.of_own HTR.out.ow) (by omega)
          have hcy := hcell k hlt
          rw [hA] at y1
          have HGY : Hid (q.wait[k]? = some (gr lkR q.wait k)) := Lib.hid (gr_get hlt)
          obtain ⟨y, hy⟩ : ∃ y, y = gr lkR q.wait k := ⟨_, rfl⟩
          rw [← hy] at hcy HGY
          have HCY := Lib.hid hcy
          have kL0 : (0 : Int) ≤ (k : Int) := by omega
          have kU : (k : Int) < (q.wait.length : Int) := by omega
          have HBD : Hid (Below wr.heap.size wr wr.drew) := Lib.hid (below_drewN (Below.refl wr.heap.size wr) 1)
          have hS : Hid (∀ w', Below wr.heap.size wr w' → (w'.cell? ⟨g, 2, none⟩ = some (.slice (some ⟨b, off, none⟩) q.wait.length n.cw) ∧ w'.cell? ⟨b, off + k * 4, none⟩ = some (.string y.key) ∧ w'.cell? ⟨b, off + k * 4 + 1, none⟩ = some (.int .i64 y.id.n) ∧ w'.cell? ⟨b, off + k * 4 + 2, none⟩ = some (.int .i64 y.id.c) ∧ w'.cell? ⟨b, off + k * 4 + 3, none⟩ = some (.int .i64 y.mode) ∧ w'.cell? ⟨p1, 0, none⟩ = some (.int .i64 id.n) ∧ w'.cell? ⟨p1, 1, none⟩ = some (.int .i64 id.c))) := Lib.hid (fun w' hb => by
            have h1 := (HTR.out.below hb).c2
            rw [hA] at h1
            obtain ⟨a0, a1, a2, a3⟩ := HCY.out w' hb
            exact ⟨h1, a0, a1, a2, a3, (HKR.out.below hb HKR.out.lt).cell 0, (HKR.out.below hb HKR.out.lt).cell 1⟩)
          have he := HE.out y.id
          clear hy hcy hcell
          cases hq : eqI y.id id with
          | true =>
            rw [hq] at he
            have HX : Hid (kL id (q.held ++ q.wait.take (k + 1)) = ins bl y.key K ∧ noId id (q.wait.take (k + 1)) = H) := Lib.hid ⟨by rw [take_on HGY.out, ← List.append_assoc, kL_on, if_pos (eqI_iff.1 hq), HKE.out], by rw [noId_on HGY.out, if_pos (eqI_iff.1 hq), HHE.out]; simp⟩
            have HSK : Hid (Srt bl K) := Lib.hid (by rw [← HKE.out]; exact srt_kL _ _)
            clear hq HKE HHE
            have HSD := Lib.hid (hS.out _ HBD.out)
            have HXD := Lib.hid (HX2.out.below HBD.out)
            go_wp2_with fail
            refine wp_region_heldH (by kernel_rfl) hS (HBD.out) (fun hHeld => ?_)
            refine takes [0, 1, 2, 3, 4, 5, 6, 7, 8, 9] 0 (by kernel_rfl) (by assumption) ?_
            iterate 10 (refine tkY rfl (fun _ _ _ h => h) rfl (by ((intro w hSw); (try dsimp only at hSw); go_simp; (try with_reducible rfl))) ?_; try simp only [Act.put, List.setIfInBounds_toArray, List.set_cons_zero, List.set_cons_succ])
            refine tkE ?_
            refine wpAnyH_done (by kernel_rfl) ?_ _
            obtain ⟨wd, hnm⟩ : ∃ wd : World, wd = wr.drew := ⟨_, rfl⟩
            rw [← hnm] at HSD HXD HBD ⊢
            clear hnm
            obtain ⟨z0, z1, z2, z3, z4, _⟩ := HSD.out
            have HPT : Hid (Calls Tryz.prog 52 #[.slice Ak K.length ck, .agg #[.string y.key, .int .i64 0, .int .i64 0, .int .i64 0]] wd (NewRow lkR 62 ((ins bl y.key K).map kz) wd)) := Lib.hid (by have h := rput_any Ak ck (K.map kz) (kz y.key) wd (by rw [List.length_map]; exact Reads.of_own HXD.out.ok) (by rw [List.length_map]; omega) (srt_kz HSK.out); rw [List.length_map, ins_kz] at h; exact h)
            go_wp2_with fail
            refine HPT.out.mono ?_
            clear HPT z0 z1 z2 z3 z4
            rintro e w6 ⟨o, rfl, A3, c3, rfl, ho, hf, hb⟩
            rw [List.length_map] at ho ⊢
            have HN := Lib.hid (HXD.out.keys hb ho hf)
            clear ho hf hb
            go_wp2
            go_roundw
            case rel =>
              refine ⟨k + 1, A3, c3, Ah, ch, by go_num, by omega, by rw [HX.out.1], by rw [HX.out.2], ?_⟩
              rw [HX.out.1, HX.out.2]
              exact HN.out
            case measure => simp [intOf]; omega
          | false =>
            rw [hq] at he
            have hne : y.id ≠ id := fun h => by rw [eqI_iff.2 h] at hq; cases hq
            have HX : Hid (kL id (q.held ++ q.wait.take (k + 1)) = K ∧ noId id (q.wait.take (k + 1)) = H ++ [y]) := Lib.hid ⟨by rw [take_on HGY.out, ← List.append_assoc, kL_on, if_neg hne, HKE.out], by rw [noId_on HGY.out, if_neg hne, HHE.out]⟩
            clear hq hne HKE HHE
            have HSD := Lib.hid (hS.out _ HBD.out)
            have HXD := Lib.hid (HX2.out.below HBD.out)
            have HOD := Lib.hid HXD.out.oh
            go_wp2_with fail
            refine wp_region_heldH (by kernel_rfl) hS (HBD.out) (fun hHeld => ?_)
            refine takes [0, 1, 2, 3, 4, 5, 6, 7, 8, 9] 0 (by kernel_rfl) (by assumption) ?_
            iterate 10 (refine tkY rfl (fun _ _ _ h => h) rfl (by ((intro w hSw); (try dsimp only at hSw); go_simp; (try with_reducible rfl))) ?_; try simp only [Act.put, List.setIfInBounds_toArray, List.set_cons_zero, List.set_cons_succ])
            refine tkE ?_
            refine wpAnyH_done (by kernel_rfl) ?_ _
            obtain ⟨wd, hnm⟩ : ∃ wd : World, wd = wr.drew := ⟨_, rfl⟩
            rw [← hnm] at HSD HXD HBD HOD ⊢
            clear hnm
            obtain ⟨z0, z1, z2, z3, z4, _⟩ := HSD.out
            go_wp2_with (at_builtin; refine wpList_app rfl (.tmp 84) (.tmp 92) 34 34 rfl 62 i0 _ 4 40 Tryz.underlying34 hi0 hz0 hy0 hx0 rfl (by omega) Ah H.length ch (rc lkR H) rfl (HOD.out.alloc _) _ 1 (lkR.cells y) rfl (Src.of1 (R := lkR) Tryz.underlying34 y 62) (by simp only [maxLen]; omega) (by omega) ?_; intro A3 k3 w3 hown3 hk3 hf3; rw [rc_snoc] at hown3)
            have HN := Lib.hid (HXD.out.app hown3 hk3 hf3)
            have hHl : H.length + 1 = (H ++ [y]).length := by simp
            rw [hHl]
            clear hown3 hk3 hf3 z0 z1 z2 z3 z4 hHl
            go_roundw
            case rel =>
              refine ⟨k + 1, Ak, ck, A3, k3, by go_num, by omega, by rw [HX.out.1], by rw [HX.out.2], ?_⟩
              rw [HX.out.1, HX.out.2]
              exact HN.out
            case measure => simp [intOf]; omega
        · 
          have kU : ¬ (k : Int) < (q.wait.length : Int) := by omega
          have HXE : Hid (Two w2 w5 (ob Ah1) (keysOf q id) (noId id q.wait) Ak ck Ah ch wr ∧ K = keysOf q id ∧ H = noId id q.wait) := Lib.hid (by have h1 := HKE.out; have h2 := HHE.out; rw [List.take_of_length_le (show q.wait.length ≤ k by omega)] at h1 h2; rw [kL_all] at h1; have h := HX2.out; rw [← h1, ← h2] at h; exact ⟨h, h1.symm, h2.symm⟩)
          rw [HXE.out.2.1, HXE.out.2.2]
          have HM : Hid (EndMid g q n id p1 w Ak ck Ah1 ch1 Ah ch wr) := Lib.hid ⟨HXE.out.1.ok, (Kept.of_below (S := []) HXE.out.1.bel).own HO5.out (by simp), HXE.out.1.oh, fun x hx => Nat.le_trans HB.out.size (HXE.out.1.fk x hx), fun x hx => Nat.le_trans HB.out.size (HF5.out x hx), fun x hx => Nat.le_trans HB.out.size (Nat.le_trans HB25.out.size (HXE.out.1.fh x hx)), fun x hx => ⟨(HXE.out.1.dj x hx).2, (HXE.out.1.dj x hx).1⟩, fun x hx hm => by have h1 := own_lt HO5.out x hx; have h2 := HXE.out.1.fh x hm; omega, HB.out.trans ((HB25.out.trans (HXE.out.1.bel.mono HB25.out.size)).mono HB.out.size), HKR.out, HP1.out⟩
          clear HX2 HKE HHE HTR HKR HXE HO5 HF5 HB25 HB
          go_upto_region 16 with fail
          have HT3 := Lib.hid (HH.out.below HM.out.bel)
          have hgl := HH.out.blk.lt
          have hq9 := HQ9.out
          have hnl : (noId id q.held).length ≤ q.held.length := List.length_filter_le _ _
          have hnl2 : (noId id q.wait).length ≤ q.wait.length := List.length_filter_le _ _
          have y1 : wr.cell? ⟨g, 1, none⟩ = some (.slice n.ah q.held.length n.ch) := HT3.out.c1
          have f1 := HT3.out.blk.frozen 1
          have HL6 := Lib.hid (HT3.out.layH (Moves.of_below HM.out.bel) (Below.refl _ _) HM.out.oh (fun hm_ => by have := HM.out.fh g hm_; omega) HM.out.fh (by omega))
          go_upto_region 17 with fail
          obtain ⟨w6, hw6⟩ : ∃ w6, w6 = wr.setCells g 1 [.slice Ah1 (noId id q.held).length ch1] := ⟨_, rfl⟩
          have hw6b : wr.setCell ⟨g, 1, none⟩ (.slice Ah1 (noId id q.held).length ch1) = w6 := hw6.symm
          rw [hw6b]
          rw [← hw6] at HL6
          have HKO6 : Hid (w6.ownsRow 0 62 4 (.slice Ak (keysOf q id).length ck) (keysOf q id).length (rc lkR ((keysOf q id).map kz))) := Lib.hid (by rw [hw6]; exact own_set HM.out.ok (fun hm_ => by have := HM.out.fk g hm_; omega))
          have HWO6 : Hid (w6.ownsRow 0 62 4 (.slice Ah (noId id q.wait).length ch) (noId id q.wait).length (rc lkR (noId id q.wait))) := Lib.hid (by rw [hw6]; exact own_set HM.out.ow (fun hm_ => by have := HM.out.fw g hm_; omega))
          have HBX6 : Hid (Blk w6 p1 29 #[.int .i64 id.n, .int .i64 id.c]) := Lib.hid (by rw [hw6]; exact blk_set HM.out.box (by have := HM.out.bp; omega))
          clear hw6 hw6b y1 f1 HT3
          have y2 : w6.cell? ⟨g, 2, none⟩ = some (.slice n.aw q.wait.length n.cw) := HL6.out.1.c2
          have f2 := HL6.out.1.blk.frozen 2
          have HL7 := Lib.hid (HL6.out.1.layW HL6.out.2 (Below.refl _ _) HWO6.out (fun hm_ => by have := HM.out.fw g hm_; omega) HM.out.fw (by show (noId id q.held).length + (noId id q.wait).length ≤ 1000; omega))
          go_upto_region 18 with fail
          obtain ⟨w7, hw7⟩ : ∃ w7, w7 = w6.setCells g 2 [.slice Ah (noId id q.wait).length ch] := ⟨_, rfl⟩
          have hw7b : w6.setCell ⟨g, 2, none⟩ (.slice Ah (noId id q.wait).length ch) = w7 := hw7.symm
          rw [hw7b]
          rw [← hw7] at HL7
          have HKO7 : Hid (w7.ownsRow 0 62 4 (.slice Ak (keysOf q id).length ck) (keysOf q id).length (rc lkR ((keysOf q id).map kz))) := Lib.hid (by rw [hw7]; exact own_set HKO6.out (fun hm_ => by have := HM.out.fk g hm_; omega))
          have HBX7 : Hid (Blk w7 p1 29 #[.int .i64 id.n, .int .i64 id.c]) := Lib.hid (by rw [hw7]; exact blk_set HBX6.out (by have := HM.out.bp; omega))
          clear hw7 hw7b y2 f2 HL6 HKO6 HWO6 HBX6
          have HBD : Hid (Below w7.heap.size w7 w7.drew) := Lib.hid (below_drewN (Below.refl _ _) 1)
          have HRD := Lib.hid (HL7.out.1.below HBD.out)
          have hS : Hid (∀ w', Below w7.heap.size w7 w' → (w'.cell? ⟨g, 3, none⟩ = some (.slice n.ap q.prep.length n.cp) ∧ w'.cell? ⟨p1, 0, none⟩ = some (.int .i64 id.n) ∧ w'.cell? ⟨p1, 1, none⟩ = some (.int .i64 id.c))) := Lib.hid (fun w' hb => ⟨(HL7.out.1.below hb).c3, (HBX7.out.below hb HBX7.out.lt).cell 0, (HBX7.out.below hb HBX7.out.lt).cell 1⟩)
          have hfm := HPM.out
          have HWI := Lib.hid (rwithout_any n.ap n.cp q.prep id w7.drew (Reads.of_own HRD.out.op) (by omega))
          unfold idV at HWI
          refine wp_region_last_held (S := fun w' => w'.cell? ⟨g, 3, none⟩ = some (.slice n.ap q.prep.length n.cp) ∧ w'.cell? ⟨p1, 0, none⟩ = some (.int .i64 id.n) ∧ w'.cell? ⟨p1, 1, none⟩ = some (.int .i64 id.c)) (ops := #[{ dst := some 102, op := Op.move (Operand.tmp 0), type := 25, pos := "ref.go:263", after := #[], guard := none }, { dst := some 103, op := Op.move (Operand.tmp 0), type := 25, pos := "ref.go:263", after := #[], guard := none }, { dst := some 104, op := Op.nilCheck (Operand.tmp 103), type := 0, pos := "ref.go:263", after := #[{ on := 1, ground := Ground.data }], guard := none }, { dst := some 105, op := Op.fieldAddr 49 (Operand.tmp 104) 3, type := 0, pos := "ref.go:263", after := #[{ on := 2, ground := Ground.data }], guard := none }, { dst := some 106, op := Op.load 36 (Operand.tmp 105), type := 36, pos := "ref.go:263", after := #[{ on := 3, ground := Ground.data }], guard := none }, { dst := some 107, op := Op.load 29 (Operand.tmp 3), type := 29, pos := "ref.go:263", after := #[], guard := none }, { dst := some 108, op := Op.call { callee := Callee.value (Operand.func 61), args := #[Operand.tmp 106, Operand.tmp 107], argTypes := #[36, 29] }, type := 36, pos := "ref.go:263", after := #[{ on := 4, ground := Ground.data }, { on := 5, ground := Ground.data }], guard := none }, { dst := some 109, op := Op.nilCheck (Operand.tmp 102), type := 0, pos := "ref.go:263", after := #[{ on := 0, ground := Ground.data }, { on := 0, ground := Ground.phase }, { on := 1, ground := Ground.phase }, { on := 2, ground := Ground.phase }, { on := 3, ground := Ground.phase }, { on := 4, ground := Ground.phase }, { on := 5, ground := Ground.phase }, { on := 6, ground := Ground.phase }], guard := none }, { dst := some 110, op := Op.fieldAddr 49 (Operand.tmp 109) 3, type := 0, pos := "ref.go:263", after := #[{ on := 7, ground := Ground.data }, { on := 0, ground := Ground.phase }, { on := 1, ground := Ground.phase }, { on := 2, ground := Ground.phase }, { on := 3, ground := Ground.phase }, { on := 4, ground := Ground.phase }, { on := 5, ground := Ground.phase }, { on := 6, ground := Ground.phase }], guard := none }]) (o := { dst := none, op := Op.store 36 (Operand.tmp 110) (Operand.tmp 108), type := 0, pos := "ref.go:263", after := #[{ on := 8, ground := Ground.data }, { on := 6, ground := Ground.data }, { on := 6, ground := Ground.chain }, { on := 0, ground := Ground.phase }, { on := 1, ground := Ground.phase }, { on := 2, ground := Ground.phase }, { on := 3, ground := Ground.phase }, { on := 4, ground := Ground.phase }, { on := 5, ground := Ground.phase }, { on := 6, ground := Ground.phase }], guard := none }) rfl (by kernel_rfl) (by kernel_rfl) (by kernel_rfl) (hS.out _ HBD.out) (fun hHeld => ?_)
          refine takes [0, 1, 2, 3, 4, 5] 3 (by kernel_rfl) (by assumption) ?_
          iterate 6 (refine tkY rfl (fun _ _ _ h => h) rfl (by ((intro w hSw); (try dsimp only at hSw); go_simp; (try with_reducible rfl))) ?_; try simp only [Act.put, List.setIfInBounds_toArray, List.set_cons_zero, List.set_cons_succ])
          refine tkE ?_
          refine wpAnyH_ready (rs := [6]) (by kernel_rfl) (by simp) ?_
          refine readyC rfl (fun K hK => ?_) ?_
          ·
            go_simp
            go_at_call 61
            refine HWI.out.mono ?_
            rintro e wc ⟨o, rfl, A8, c8, rfl, ho, hf, hb⟩
            have HO9 := Lib.hid ho
            have HF9 := Lib.hid hf
            have HB9 := Lib.hid hb
            clear ho hf hb
            have HD9 := Lib.hid (HRD.out.blk.below HB9.out HRD.out.blk.lt)
            go_wp2_with fail
            refine hK.out _ _ (hS.out _ (HBD.out.trans (HB9.out.mono HBD.out.size))) (fun hHeld => ?_)
            clear hK K
            try simp only [Act.put, List.setIfInBounds_toArray, List.set_cons_zero, List.set_cons_succ]
            refine takes [7, 8] 0 (by kernel_rfl) (by assumption) ?_
            iterate 2 (refine tkY rfl (fun _ _ _ h => h) rfl (by ((intro w hSw); (try dsimp only at hSw); go_simp; (try with_reducible rfl))) ?_; try simp only [Act.put, List.setIfInBounds_toArray, List.set_cons_zero, List.set_cons_succ])
            refine tkE ?_
            refine wpAnyH_done (by kernel_rfl) ?_ _
            have HBC := Lib.hid (HBD.out.trans (HB9.out.mono HBD.out.size))
            have HKA8 : Hid (∀ y ∈ ob Ak, y ∉ ob A8) := Lib.hid (fun y hy hm_ => by have h1 := own_lt HKO7.out y hy; have h2 := HF9.out y hm_; have h3 := HBD.out.size; omega)
            have HL8 := Lib.hid (HRD.out.layP (HL7.out.2.trans (Moves.of_below HBD.out)) HB9.out HO9.out (fun hm_ => by have h1 := HF9.out g hm_; have h2 := HRD.out.blk.lt; omega) (fun k hk => Nat.le_trans (Nat.le_trans HL7.out.2.kept.size HBD.out.size) (HF9.out k hk)) (by have := filter_len' id q.prep q.prep.length; rw [List.take_length] at this; omega))
            have f4 := HD9.out.frozen 3
            have z4 := hHeld.1
            refine withLast_go (fun K hK => ?_)
            clear hHeld
            go_simp
            refine hK _ _ ?_
            clear hK K f4 z4
            obtain ⟨w8, hwj⟩ : ∃ w8, w8 = wc.setCells g 3 [.slice A8 (noX id q.prep).length c8] := ⟨_, rfl⟩
            rw [← hwj] at HL8
            have hwjb : wc.setCell ⟨g, 3, none⟩ (.slice A8 (noX id q.prep).length c8) = w8 := hwj.symm
            rw [hwjb]
            have HKO8 : Hid (w8.ownsRow 0 62 4 (.slice Ak (keysOf q id).length ck) (keysOf q id).length (rc lkR ((keysOf q id).map kz))) := Lib.hid (by rw [hwj]; exact own_set ((Kept.of_below (S := []) HBC.out).own HKO7.out (by simp)) (fun hm_ => by have := HM.out.fk g hm_; omega))
            have HBX8 : Hid (Blk w8 p1 29 #[.int .i64 id.n, .int .i64 id.c]) := Lib.hid (by rw [hwj]; exact blk_set (HBX7.out.below HBC.out HBX7.out.lt) (by have := HM.out.bp; omega))
            clear hwj hwjb HL7 HKO7 HBX7 HBD HRD hS HWI HO9 HF9 HB9 HD9 HBC
            go_upto_region 19 with fail
            have HBD : Hid (Below w8.heap.size w8 w8.drew) := Lib.hid (below_drewN (Below.refl _ _) 1)
            have HRD := Lib.hid (HL8.out.1.below HBD.out)
            have hS : Hid (∀ w', Below w8.heap.size w8 w' → (w'.cell? ⟨g, 4, none⟩ = some (.slice n.au q.hurt.length n.cu) ∧ w'.cell? ⟨p1, 0, none⟩ = some (.int .i64 id.n) ∧ w'.cell? ⟨p1, 1, none⟩ = some (.int .i64 id.c))) := Lib.hid (fun w' hb => ⟨(HL8.out.1.below hb).c4, (HBX8.out.below hb HBX8.out.lt).cell 0, (HBX8.out.below hb HBX8.out.lt).cell 1⟩)
            have hfm := HPM.out
            have HWI := Lib.hid (rwithout_any n.au n.cu q.hurt id w8.drew (Reads.of_own HRD.out.ou) (by omega))
            unfold idV at HWI
            refine wp_region_last_held (S := fun w' => w'.cell? ⟨g, 4, none⟩ = some (.slice n.au q.hurt.length n.cu) ∧ w'.cell? ⟨p1, 0, none⟩ = some (.int .i64 id.n) ∧ w'.cell? ⟨p1, 1, none⟩ = some (.int .i64 id.c)) (ops := #[{ dst := some 111, op := Op.move (Operand.tmp 0), type := 25, pos := "ref.go:264", after := #[], guard := none }, { dst := some 112, op := Op.move (Operand.tmp 0), type := 25, pos := "ref.go:264", after := #[], guard := none }, { dst := some 113, op := Op.nilCheck (Operand.tmp 112), type := 0, pos := "ref.go:264", after := #[{ on := 1, ground := Ground.data }], guard := none }, { dst := some 114, op := Op.fieldAddr 49 (Operand.tmp 113) 4, type := 0, pos := "ref.go:264", after := #[{ on := 2, ground := Ground.data }], guard := none }, { dst := some 115, op := Op.load 36 (Operand.tmp 114), type := 36, pos := "ref.go:264", after := #[{ on := 3, ground := Ground.data }], guard := none }, { dst := some 116, op := Op.load 29 (Operand.tmp 3), type := 29, pos := "ref.go:264", after := #[], guard := none }, { dst := some 117, op := Op.call { callee := Callee.value (Operand.func 61), args := #[Operand.tmp 115, Operand.tmp 116], argTypes := #[36, 29] }, type := 36, pos := "ref.go:264", after := #[{ on := 4, ground := Ground.data }, { on := 5, ground := Ground.data }], guard := none }, { dst := some 118, op := Op.nilCheck (Operand.tmp 111), type := 0, pos := "ref.go:264", after := #[{ on := 0, ground := Ground.data }, { on := 0, ground := Ground.phase }, { on := 1, ground := Ground.phase }, { on := 2, ground := Ground.phase }, { on := 3, ground := Ground.phase }, { on := 4, ground := Ground.phase }, { on := 5, ground := Ground.phase }, { on := 6, ground := Ground.phase }], guard := none }, { dst := some 119, op := Op.fieldAddr 49 (Operand.tmp 118) 4, type := 0, pos := "ref.go:264", after := #[{ on := 7, ground := Ground.data }, { on := 0, ground := Ground.phase }, { on := 1, ground := Ground.phase }, { on := 2, ground := Ground.phase }, { on := 3, ground := Ground.phase }, { on := 4, ground := Ground.phase }, { on := 5, ground := Ground.phase }, { on := 6, ground := Ground.phase }], guard := none }]) (o := { dst := none, op := Op.store 36 (Operand.tmp 119) (Operand.tmp 117), type := 0, pos := "ref.go:264", after := #[{ on := 8, ground := Ground.data }, { on := 6, ground := Ground.data }, { on := 6, ground := Ground.chain }, { on := 0, ground := Ground.phase }, { on := 1, ground := Ground.phase }, { on := 2, ground := Ground.phase }, { on := 3, ground := Ground.phase }, { on := 4, ground := Ground.phase }, { on := 5, ground := Ground.phase }, { on := 6, ground := Ground.phase }], guard := none }) rfl (by kernel_rfl) (by kernel_rfl) (by kernel_rfl) (hS.out _ HBD.out) (fun hHeld => ?_)
            refine takes [0, 1, 2, 3, 4, 5] 3 (by kernel_rfl) (by assumption) ?_
            iterate 6 (refine tkY rfl (fun _ _ _ h => h) rfl (by ((intro w hSw); (try dsimp only at hSw); go_simp; (try with_reducible rfl))) ?_; try simp only [Act.put, List.setIfInBounds_toArray, List.set_cons_zero, List.set_cons_succ])
            refine tkE ?_
            refine wpAnyH_ready (rs := [6]) (by kernel_rfl) (by simp) ?_
            refine readyC rfl (fun K hK => ?_) ?_
            ·
              go_simp
              go_at_call 61
              refine HWI.out.mono ?_
              rintro e wc ⟨o, rfl, A9, c9, rfl, ho, hf, hb⟩
              have HO9 := Lib.hid ho
              have HF9 := Lib.hid hf
              have HB9 := Lib.hid hb
              clear ho hf hb
              have HD9 := Lib.hid (HRD.out.blk.below HB9.out HRD.out.blk.lt)
              go_wp2_with fail
              refine hK.out _ _ (hS.out _ (HBD.out.trans (HB9.out.mono HBD.out.size))) (fun hHeld => ?_)
              clear hK K
              try simp only [Act.put, List.setIfInBounds_toArray, List.set_cons_zero, List.set_cons_succ]
              refine takes [7, 8] 0 (by kernel_rfl) (by assumption) ?_
              iterate 2 (refine tkY rfl (fun _ _ _ h => h) rfl (by ((intro w hSw); (try dsimp only at hSw); go_simp; (try with_reducible rfl))) ?_; try simp only [Act.put, List.setIfInBounds_toArray, List.set_cons_zero, List.set_cons_succ])
              refine tkE ?_
              refine wpAnyH_done (by kernel_rfl) ?_ _
              have HBC := Lib.hid (HBD.out.trans (HB9.out.mono HBD.out.size))
              have HKA9 : Hid (∀ y ∈ ob Ak, y ∉ ob A9) := Lib.hid (fun y hy hm_ => by have h1 := own_lt HKO8.out y hy; have h2 := HF9.out y hm_; have h3 := HBD.out.size; omega)
              have HL9 := Lib.hid (HRD.out.layU (HL8.out.2.trans (Moves.of_below HBD.out)) HB9.out HO9.out (fun hm_ => by have h1 := HF9.out g hm_; have h2 := HRD.out.blk.lt; omega) (fun k hk => Nat.le_trans (Nat.le_trans HL8.out.2.kept.size HBD.out.size) (HF9.out k hk)) (by have := filter_len' id q.hurt q.hurt.length; rw [List.take_length] at this; omega))
              have f4 := HD9.out.frozen 4
              have z4 := hHeld.1
              refine withLast_go (fun K hK => ?_)
              clear hHeld
              go_simp
              refine hK _ _ ?_
              clear hK K f4 z4
              obtain ⟨w9, hwj⟩ : ∃ w9, w9 = wc.setCells g 4 [.slice A9 (noX id q.hurt).length c9] := ⟨_, rfl⟩
              rw [← hwj] at HL9
              have hwjb : wc.setCell ⟨g, 4, none⟩ (.slice A9 (noX id q.hurt).length c9) = w9 := hwj.symm
              rw [hwjb]
              have HKO9 : Hid (w9.ownsRow 0 62 4 (.slice Ak (keysOf q id).length ck) (keysOf q id).length (rc lkR ((keysOf q id).map kz))) := Lib.hid (by rw [hwj]; exact own_set ((Kept.of_below (S := []) HBC.out).own HKO8.out (by simp)) (fun hm_ => by have := HM.out.fk g hm_; omega))
              have HBX9 : Hid (Blk w9 p1 29 #[.int .i64 id.n, .int .i64 id.c]) := Lib.hid (by rw [hwj]; exact blk_set (HBX8.out.below HBC.out HBX8.out.lt) (by have := HM.out.bp; omega))
              clear hwj hwjb HL8 HKO8 HBX8 HBD HRD hS HWI HO9 HF9 HB9 HD9 HBC
              go_upto_region 20 with fail
              obtain ⟨n5, hn5⟩ : ∃ n5 : TbM, RfAt w9 g (strip q id) n5 ∧ Moves (fpT g n) (fpT g n5) w w9 ∧ ∀ y ∈ ob Ak, y ∉ fpT g n5 := ⟨_, HL9.out.1, HL9.out.2, fun y hy hm => by
                simp only [fpT, List.mem_cons, List.mem_append] at hm
                have h1 := HM.out.dk y hy
                have h2 := HM.out.fk y hy
                rcases hm with hm | hm | hm | hm | hm
                · omega
                · exact h1.1 hm
                · exact h1.2 hm
                · exact HKA8.out y hy hm
                · exact HKA9.out y hy hm⟩
              have hst := strip_total q id
              have HE3 : Hid (EnSt g n w (keysOf q id) Ak ck (kS q id 0) none 0 n5 w9) := Lib.hid ⟨hn5.1, hn5.2.1, World.ownsRow_nil _ _ _ _, by simp [ob], by simp [ob], HKO9.out, fun y hy => ⟨hn5.2.2 y hy, by simp [ob]⟩, strip_good HGD.out id, by show (strip q id).held.length + (strip q id).wait.length ≤ 900; omega, by show 0 + (strip q id).wait.length ≤ 1000; omega⟩
              have HKB : Hid ((keysOf q id).length ≤ 900) := Lib.hid (by have h := kL_len id (q.held ++ q.wait); rw [kL_all, List.length_append] at h; omega)
              clear hn5 HL9 HKA8 HKA9 HM HKO9 HBX9 hst
              go_wp2
              go_loopw [10, 11] (GoR g n w q id Ak ck) (fun _ i _ => (keysOf q id).length - (intOf i).toNat)
              case atStart => exact ⟨0, none, 0, n5, rfl, Nat.zero_le _, rfl, HE3.out⟩
              case round =>
                clear HE3
                obtain ⟨k, A, c, n', rfl, hk, rfl, hx⟩ := hrel
                have HX := Lib.hid hx
                have hkb := HKB.out
                clear hx
                by_cases hlt : k < (keysOf q id).length
                · obtain ⟨key, hkey⟩ : ∃ key, (keysOf q id)[k]? = some key := ⟨_, List.getElem?_eq_getElem hlt⟩
                  have HKN := Lib.hid (kS_on hkey)
                  have HKR : Hid (∃ bk ok, Ak = some ⟨bk, ok, none⟩ ∧ ∀ wz, wz.ownsRow 0 62 4 (.slice Ak (keysOf q id).length ck) (keysOf q id).length (rc lkR ((keysOf q id).map kz)) → ∀ w', Below wz.heap.size wz w' → (w'.cell? ⟨bk, ok + k * 4, none⟩ = some (.string key) ∧ w'.cell? ⟨bk, ok + k * 4 + 1, none⟩ = some (.int .i64 0) ∧ w'.cell? ⟨bk, ok + k * 4 + 2, none⟩ = some (.int .i64 0) ∧ w'.cell? ⟨bk, ok + k * 4 + 3, none⟩ = some (.int .i64 0))) := Lib.hid (by
                    obtain ⟨bk, ok, hA, _⟩ := rowL (Reads.of_own HX.out.ko) (by rw [List.length_map]; omega)
                    refine ⟨bk, ok, hA, fun wz ho w' hb => ?_⟩
                    obtain ⟨b', o', hA', hc'⟩ := rowL (Reads.of_own ho) (by rw [List.length_map]; omega)
                    rw [hA] at hA'
                    cases hA'
                    have h1 := hc' k (by rw [List.length_map]; exact hlt) w' hb
                    have h2 : gr lkR ((keysOf q id).map kz) k = kz key := by rw [gr_at (by rw [List.length_map]; exact hlt), List.getElem_map]; congr 1; obtain ⟨_, h3⟩ := List.getElem?_eq_some_iff.1 hkey; exact h3
                    rw [h2] at h1
                    exact h1)
                  obtain ⟨bk, ok, hAk, hkr⟩ := HKR.out
                  have HKC := Lib.hid hkr
                  subst hAk
                  clear hkr HKR hkey
                  have kL0 : (0 : Int) ≤ (k : Int) := by omega
                  have kU : (k : Int) < ((keysOf q id).length : Int) := by omega
                  obtain ⟨s, hs⟩ : ∃ s, s = kS q id k := ⟨_, rfl⟩
                  rw [← hs] at HX HKN
                  rw [← hs]
                  clear hs
                  have y2 : (wr.alloc (.cells #[] 62)).cell? ⟨g, 2, none⟩ = some (.slice n'.aw s.1.wait.length n'.cw) := (HX.out.rf.below (below_alloc wr _)).c2
                  have htot := HX.out.tot
                  go_upto_region 25 with (at_builtin; refine wpList_app rfl (.tmp 126) (.tmp 130) 34 34 rfl 62 i0 _ 4 40 Tryz.underlying34 hi0 hz0 hy0 hx0 rfl (by omega) (some ⟨wr.heap.size, 0, none⟩) 0 0 [] rfl (World.ownsRow_made wr #[] 0 (Nat.zero_le _) (by simp [maxLen]) rfl) _ s.1.wait.length (rc lkR s.1.wait) rfl (Src.ofReads Tryz.underlying34 ((Reads.of_own HX.out.rf.ow).alloc (Nat.le_refl _) _) (rc_one _)) (by simp only [maxLen]; omega) (by omega) ?_; intro A3 k3 w3 hown3 hk3 hf3; rw [Nat.zero_add, List.nil_append] at hown3)
                  have hb3 : Below wr.heap.size wr w3 := hk3.of_alloc.below (Nat.le_refl _) (fun x hx => by simp [ob] at hx; omega)
                  have hf3' : ∀ x ∈ ob A3, wr.heap.size ≤ x := fun x hx => (hf3 x hx).elim (fun h1 => by simp [ob] at h1; omega) (fun h1 => by simp at h1; omega)
                  have HI0 : Hid (InSt g n w (keysOf q id) (some ⟨bk, ok, none⟩) ck s.1.wait A3 k3 (jS s key 0) A c n' w3) := Lib.hid ⟨HX.out.below hb3, hown3, fun y hy => ⟨fun hm => by have h1 := HX.out.rf.lt y hm; have h2 := hf3' y hy; omega, fun hm => by have h1 := own_lt HX.out.own y hm; have h2 := hf3' y hy; omega⟩⟩
                  have HSRT := Lib.hid HX.out.good.sw
                  clear hown3 hk3 hf3 hb3 hf3' y2 HX
                  go_wp2
                  go_loopw [10, 13] (InR g n w (keysOf q id) (some ⟨bk, ok, none⟩) ck s key A3 k3) (fun _ i _ => s.1.wait.length - (intOf i).toNat)
                  case atStart => exact ⟨0, A, c, n', rfl, Nat.zero_le _, rfl, HI0.out, fun x hx => by simpa [jS] using hx⟩
                  case round =>
                    clear HI0
                    obtain ⟨j, A, c, n', rfl, hj, rfl, hx, hsub⟩ := hrel
                    have HX := Lib.hid hx
                    have HSUB := Lib.hid hsub
                    clear hx hsub
                    have htot := HX.out.st.tot
                    have hfew := HX.out.st.few
                    by_cases hlj : j < s.1.wait.length
                    · obtain ⟨b, off, rfl, hcell⟩ := rowL (Reads.of_own HX.out.lo) (by omega)
                      obtain ⟨cl, hcl⟩ : ∃ cl, cl = k3 := ⟨_, rfl⟩
                      rw [← hcl] at HX
                      rw [← hcl]
                      clear hcell
                      have HYE : Hid (gr lkR s.1.wait j = gr lkR s.1.wait j) := Lib.hid rfl
                      have HGY : Hid (s.1.wait[j]? = some (gr lkR s.1.wait j)) := Lib.hid (gr_get hlj)
                      obtain ⟨y, hy⟩ : ∃ y, y = gr lkR s.1.wait j := ⟨_, rfl⟩
                      rw [← hy] at HGY
                      have HYR : Hid (∀ wz, wz.ownsRow 0 62 4 (.slice (some ⟨b, off, none⟩) s.1.wait.length cl) s.1.wait.length (rc lkR s.1.wait) → ∀ w', Below wz.heap.size wz w' → (w'.cell? ⟨b, off + j * 4, none⟩ = some (.string y.key) ∧ w'.cell? ⟨b, off + j * 4 + 1, none⟩ = some (.int .i64 y.id.n) ∧ w'.cell? ⟨b, off + j * 4 + 2, none⟩ = some (.int .i64 y.id.c) ∧ w'.cell? ⟨b, off + j * 4 + 3, none⟩ = some (.int .i64 y.mode))) := Lib.hid (fun wz ho w' hb => by
                        obtain ⟨b', o', hA', hc'⟩ := rowL (Reads.of_own ho) (by omega)
                        cases hA'
                        have h1 := hc' j hlj w' hb
                        rw [← hy] at h1
                        exact h1)
                      have HON := Lib.hid (jS_on (s := s) (k := key) HGY.out)
                      have HSO := Lib.hid (sub_on HSRT.out HGY.out)
                      have HYW := Lib.hid (HSUB.out y (sub_at HGY.out))
                      obtain ⟨u, hu⟩ : ∃ u, u = jS s key j := ⟨_, rfl⟩
                      rw [← hu] at HX HSUB HON HYW htot hfew
                      rw [← hu]
                      clear hu hy hcl HYE
                      have HTOT := Lib.hid htot
                      have HMY : Hid (∀ w', RfAt w' g u.1 n' → Calls Tryz.prog 51 #[.pointer (some ⟨g, 0, none⟩), .agg #[.string y.key, .int .i64 y.id.n, .int .i64 y.id.c, .int .i64 y.mode]] w' (BoolIs (freeB u.1 y) w')) := Lib.hid (fun w' h' => by have h := rmay_any h' y; rw [may_free HX.out.st.good (HX.out.st.good.ws y HYW.out)] at h; exact h)
                      have jL : (0 : Int) ≤ (j : Int) := by omega
                      have jU : (j : Int) < (s.1.wait.length : Int) := by omega
                      have HBD : Hid (Below wr.heap.size wr wr.drew) := Lib.hid (below_drewN (Below.refl wr.heap.size wr) 1)
                      have hS : Hid (∀ w', Below wr.heap.size wr w' → (w'.cell? ⟨b, off + j * 4, none⟩ = some (.string y.key) ∧ w'.cell? ⟨b, off + j * 4 + 1, none⟩ = some (.int .i64 y.id.n) ∧ w'.cell? ⟨b, off + j * 4 + 2, none⟩ = some (.int .i64 y.id.c) ∧ w'.cell? ⟨b, off + j * 4 + 3, none⟩ = some (.int .i64 y.mode) ∧ w'.cell? ⟨bk, ok + k * 4, none⟩ = some (.string key) ∧ w'.cell? ⟨bk, ok + k * 4 + 1, none⟩ = some (.int .i64 0) ∧ w'.cell? ⟨bk, ok + k * 4 + 2, none⟩ = some (.int .i64 0) ∧ w'.cell? ⟨bk, ok + k * 4 + 3, none⟩ = some (.int .i64 0))) := Lib.hid (fun w' hb => by
                        obtain ⟨a0, a1, a2, a3⟩ := HYR.out wr HX.out.lo w' hb
                        obtain ⟨b0, b1, b2, b3⟩ := HKC.out wr HX.out.st.ko w' hb
                        exact ⟨a0, a1, a2, a3, b0, b1, b2, b3⟩)
                      cases hky : (y.key.toList == key.toList) with
                      | false =>
                        have HJ : Hid (jS s key (j + 1) = u) := Lib.hid (by rw [HON.out]; unfold grant1; rw [if_neg (fun h => by rw [h.1] at hky; simp at hky)])
                        go_wp2_with fail
                        refine wp_region_heldH (by kernel_rfl) hS (HBD.out) (fun hHeld => ?_)
                        refine takes [0, 1, 2, 3, 4, 5, 6, 7, 8, 9, 10, 11, 12, 13, 14, 15, 16, 17, 18] 0 (by kernel_rfl) (by assumption) ?_
                        iterate 12 (refine tkY rfl (fun _ _ _ h => h) rfl (by ((intro w hSw); (try dsimp only at hSw); go_simp; (try with_reducible rfl))) ?_; try simp only [Act.put, List.setIfInBounds_toArray, List.set_cons_zero, List.set_cons_succ])
                        iterate 6 (refine tkN rfl (fun _ _ _ h => h) rfl ?_; try simp only [Act.put, List.setIfInBounds_toArray, List.set_cons_zero, List.set_cons_succ])
                        refine tkY rfl (fun _ _ _ h => h) rfl (by ((intro w hSw); (try dsimp only at hSw); go_simp; (try with_reducible rfl))) ?_; try simp only [Act.put, List.setIfInBounds_toArray, List.set_cons_zero, List.set_cons_succ]
                        refine tkE ?_
                        refine wpAnyH_done (by kernel_rfl) ?_ _
                        have HBX := Lib.hid HBD.out
                        go_wp2
                        go_roundw
                        case rel =>
                          refine ⟨j + 1, A, c, n', by go_num, by omega, by rw [HJ.out], ?_⟩
                          rw [HJ.out]
                          exact ⟨HX.out.below HBX.out, fun x hx => HSUB.out x (HSO.out x hx).1⟩
                        case measure => simp [intOf]; omega
                      | true =>
                        cases hfr : freeB u.1 y with
                        | false =>
                          have HJ : Hid (jS s key (j + 1) = u) := Lib.hid (by rw [HON.out]; unfold grant1; rw [if_neg (fun h => by rw [hfr] at h; cases h.2)])
                          go_wp2_with fail
                          refine wp_region_heldH (by kernel_rfl) hS (HBD.out) (fun hHeld => ?_)
                          refine takes [0, 1, 2, 3, 4, 5, 6, 7, 8, 9, 10, 11, 12, 13, 14, 15, 16] 2 (by kernel_rfl) (by assumption) ?_
                          iterate 17 (refine tkY rfl (fun _ _ _ h => h) rfl (by ((intro w hSw); (try dsimp only at hSw); go_simp; (try with_reducible rfl))) ?_; try simp only [Act.put, List.setIfInBounds_toArray, List.set_cons_zero, List.set_cons_succ])
                          refine tkE ?_
                          refine wpAnyH_ready (rs := [17]) (by kernel_rfl) (by simp) ?_
                          refine readyC rfl (fun K hK => ?_) ?_
                          ·
                            go_simp
                            go_at_call 51
                            refine (HMY.out _ (HX.out.st.rf.below HBD.out)).mono ?_
                            rintro e w9 ⟨he_, hb_⟩
                            rw [hfr] at he_
                            subst he_
                            have HB9 : Hid (Below wr.heap.size wr w9) := Lib.hid (HBD.out.trans (hb_.mono HBD.out.size))
                            clear hb_
                            go_wp2_with fail
                            refine hK.out _ _ (by with_reducible exact hS.out _ HB9.out) (fun hHeld => ?_)
                            clear hK K
                            try simp only [Act.put, List.setIfInBounds_toArray, List.set_cons_zero, List.set_cons_succ]
                            refine takes [18] 0 (by kernel_rfl) (by assumption) ?_
                            refine tkY rfl (fun _ _ _ h => h) rfl (by ((intro w hSw); (try dsimp only at hSw); go_simp; (try with_reducible rfl))) ?_; try simp only [Act.put, List.setIfInBounds_toArray, List.set_cons_zero, List.set_cons_succ]
                            refine tkE ?_
                            refine wpAnyH_done (by kernel_rfl) ?_ _
                            have HBX := Lib.hid HB9.out
                            go_wp2
                            go_roundw
                            case rel =>
                              refine ⟨j + 1, A, c, n', by go_num, by omega, by rw [HJ.out], ?_⟩
                              rw [HJ.out]
                              exact ⟨HX.out.below HBX.out, fun x hx => HSUB.out x (HSO.out x hx).1⟩
                            case measure => simp [intOf]; omega
                          exact AllReadyH.nil
                        | true =>
                          have HJ : Hid (jS s key (j + 1) = (grant u.1 y, u.2 ++ [y])) := Lib.hid (by rw [HON.out]; unfold grant1; rw [if_pos ⟨toList_inj (by simpa using hky), hfr⟩])
                          go_wp2_with fail
                          refine wp_region_heldH (by kernel_rfl) hS (HBD.out) (fun hHeld => ?_)
                          refine takes [0, 1, 2, 3, 4, 5, 6, 7, 8, 9, 10, 11, 12, 13, 14, 15, 16] 2 (by kernel_rfl) (by assumption) ?_
                          iterate 17 (refine tkY rfl (fun _ _ _ h => h) rfl (by ((intro w hSw); (try dsimp only at hSw); go_simp; (try with_reducible rfl))) ?_; try simp only [Act.put, List.setIfInBounds_toArray, List.set_cons_zero, List.set_cons_succ])
                          refine tkE ?_
                          refine wpAnyH_ready (rs := [17]) (by kernel_rfl) (by simp) ?_
                          refine readyC rfl (fun K hK => ?_) ?_
                          ·
                            go_simp
                            go_at_call 51
                            refine (HMY.out _ (HX.out.st.rf.below HBD.out)).mono ?_
                            rintro e w9 ⟨he_, hb_⟩
                            rw [hfr] at he_
                            subst he_
                            have HB9 : Hid (Below wr.heap.size wr w9) := Lib.hid (HBD.out.trans (hb_.mono HBD.out.size))
                            clear hb_
                            go_wp2_with fail
                            refine hK.out _ _ (by with_reducible exact hS.out _ HB9.out) (fun hHeld => ?_)
                            clear hK K
                            try simp only [Act.put, List.setIfInBounds_toArray, List.set_cons_zero, List.set_cons_succ]
                            refine takes [18] 0 (by kernel_rfl) (by assumption) ?_
                            refine tkY rfl (fun _ _ _ h => h) rfl (by ((intro w hSw); (try dsimp only at hSw); go_simp; (try with_reducible rfl))) ?_; try simp only [Act.put, List.setIfInBounds_toArray, List.set_cons_zero, List.set_cons_succ]
                            refine tkE ?_
                            refine wpAnyH_done (by kernel_rfl) ?_ _
                            have HSB : Hid (∀ x ∈ s.1.wait.drop (j + 1), x ∈ (grant u.1 y).wait) := Lib.hid (fun x hx => mem_ne.2 ⟨HSUB.out x (HSO.out x hx).1, (HSO.out x hx).2⟩)
                            have HI9 := Lib.hid (HX.out.below HB9.out)
                            have HS9 : Hid (RfAt w9 g u.1 n' ∧ Moves (fpT g n') (fpT g n') w9 w9) := Lib.hid ⟨HI9.out.st.rf, Moves.refl _ _⟩
                            have HYC : Hid (∀ w', Below w9.heap.size w9 w' → (w'.cell? ⟨b, off + j * 4, none⟩ = some (.string y.key) ∧ w'.cell? ⟨b, off + j * 4 + 1, none⟩ = some (.int .i64 y.id.n) ∧ w'.cell? ⟨b, off + j * 4 + 2, none⟩ = some (.int .i64 y.id.c) ∧ w'.cell? ⟨b, off + j * 4 + 3, none⟩ = some (.int .i64 y.mode))) := Lib.hid (fun w' hb => HYR.out _ HI9.out.lo w' hb)
                            clear hS HBD
                            have HBD : Hid (Below w9.heap.size w9 w9.drew) := Lib.hid (below_drewN (Below.refl _ _) 1)
                            have HRD := Lib.hid (HS9.out.1.below HBD.out)
                            have hS : Hid (∀ w', Below w9.heap.size w9 w' → (w'.cell? ⟨g, 1, none⟩ = some (.slice n'.ah u.1.held.length n'.ch) ∧ w'.cell? ⟨b, off + j * 4, none⟩ = some (.string y.key) ∧ w'.cell? ⟨b, off + j * 4 + 1, none⟩ = some (.int .i64 y.id.n) ∧ w'.cell? ⟨b, off + j * 4 + 2, none⟩ = some (.int .i64 y.id.c) ∧ w'.cell? ⟨b, off + j * 4 + 3, none⟩ = some (.int .i64 y.mode))) := Lib.hid (fun w' hb => ⟨(HS9.out.1.below hb).c1, HYC.out w' hb⟩)
                            have HWI := Lib.hid (rput_any n'.ah n'.ch u.1.held y w9.drew (Reads.of_own HRD.out.oh) (by have := HTOT.out; omega) HI9.out.st.good.sh)
                            unfold lkV at HWI
                            go_wp2_with fail
                            refine wp_region_last_held (S := fun w' => w'.cell? ⟨g, 1, none⟩ = some (.slice n'.ah u.1.held.length n'.ch) ∧ w'.cell? ⟨b, off + j * 4, none⟩ = some (.string y.key) ∧ w'.cell? ⟨b, off + j * 4 + 1, none⟩ = some (.int .i64 y.id.n) ∧ w'.cell? ⟨b, off + j * 4 + 2, none⟩ = some (.int .i64 y.id.c) ∧ w'.cell? ⟨b, off + j * 4 + 3, none⟩ = some (.int .i64 y.mode)) (ops := #[{ dst := some 157, op := Op.move (Operand.tmp 0), type := 25, pos := "ref.go:270", after := #[], guard := none }, { dst := some 158, op := Op.move (Operand.tmp 0), type := 25, pos := "ref.go:270", after := #[], guard := none }, { dst := some 159, op := Op.nilCheck (Operand.tmp 158), type := 0, pos := "ref.go:270", after := #[{ on := 1, ground := Ground.data }], guard := none }, { dst := some 160, op := Op.fieldAddr 49 (Operand.tmp 159) 1, type := 0, pos := "ref.go:270", after := #[{ on := 2, ground := Ground.data }], guard := none }, { dst := some 161, op := Op.load 34 (Operand.tmp 160), type := 34, pos := "ref.go:270", after := #[{ on := 3, ground := Ground.data }], guard := none }, { dst := some 162, op := Op.move (Operand.tmp 12), type := 34, pos := "ref.go:270", after := #[], guard := none }, { dst := some 163, op := Op.move (Operand.tmp 13), type := 3, pos := "ref.go:270", after := #[], guard := none }, { dst := some 164, op := Op.indexAddr 34 (Operand.tmp 162) (Operand.tmp 163), type := 0, pos := "ref.go:270", after := #[{ on := 5, ground := Ground.data }, { on := 6, ground := Ground.data }], guard := none }, { dst := some 165, op := Op.load 62 (Operand.tmp 164), type := 62, pos := "ref.go:270", after := #[{ on := 7, ground := Ground.data }], guard := none }, { dst := some 166, op := Op.call { callee := Callee.value (Operand.func 52), args := #[Operand.tmp 161, Operand.tmp 165], argTypes := #[34, 62] }, type := 34, pos := "ref.go:270", after := #[{ on := 4, ground := Ground.data }, { on := 8, ground := Ground.data }], guard := none }, { dst := some 167, op := Op.nilCheck (Operand.tmp 157), type := 0, pos := "ref.go:270", after := #[{ on := 0, ground := Ground.data }, { on := 0, ground := Ground.phase }, { on := 1, ground := Ground.phase }, { on := 2, ground := Ground.phase }, { on := 3, ground := Ground.phase }, { on := 4, ground := Ground.phase }, { on := 5, ground := Ground.phase }, { on := 6, ground := Ground.phase }, { on := 7, ground := Ground.phase }, { on := 8, ground := Ground.phase }, { on := 9, ground := Ground.phase }], guard := none }, { dst := some 168, op := Op.fieldAddr 49 (Operand.tmp 167) 1, type := 0, pos := "ref.go:270", after := #[{ on := 10, ground := Ground.data }, { on := 0, ground := Ground.phase }, { on := 1, ground := Ground.phase }, { on := 2, ground := Ground.phase }, { on := 3, ground := Ground.phase }, { on := 4, ground := Ground.phase }, { on := 5, ground := Ground.phase }, { on := 6, ground := Ground.phase }, { on := 7, ground := Ground.phase }, { on := 8, ground := Ground.phase }, { on := 9, ground := Ground.phase }], guard := none }]) (o := { dst := none, op := Op.store 34 (Operand.tmp 168) (Operand.tmp 166), type := 0, pos := "ref.go:270", after := #[{ on := 11, ground := Ground.data }, { on := 9, ground := Ground.data }, { on := 9, ground := Ground.chain }, { on := 0, ground := Ground.phase }, { on := 1, ground := Ground.phase }, { on := 2, ground := Ground.phase }, { on := 3, ground := Ground.phase }, { on := 4, ground := Ground.phase }, { on := 5, ground := Ground.phase }, { on := 6, ground := Ground.phase }, { on := 7, ground := Ground.phase }, { on := 8, ground := Ground.phase }, { on := 9, ground := Ground.phase }], guard := none }) rfl (by kernel_rfl) (by kernel_rfl) (by kernel_rfl) (hS.out _ HBD.out) (fun hHeld => ?_)
                            refine takes [0, 1, 2, 3, 4, 5, 6, 7, 8] 3 (by kernel_rfl) (by assumption) ?_
                            iterate 9 (refine tkY rfl (fun _ _ _ h => h) rfl (by ((intro w hSw); (try dsimp only at hSw); go_simp; (try with_reducible rfl))) ?_; try simp only [Act.put, List.setIfInBounds_toArray, List.set_cons_zero, List.set_cons_succ])
                            refine tkE ?_
                            refine wpAnyH_ready (rs := [9]) (by kernel_rfl) (by simp) ?_
                            refine readyC rfl (fun K hK => ?_) ?_
                            ·
                              go_simp
                              go_at_call 52
                              refine HWI.out.mono ?_
                              rintro e wc ⟨o, rfl, A29, c29, rfl, ho, hf, hb⟩
                              have HO9 := Lib.hid ho
                              have HF9 := Lib.hid hf
                              have HBB := Lib.hid hb
                              clear ho hf hb
                              have HD9 := Lib.hid (HRD.out.blk.below HBB.out HRD.out.blk.lt)
                              go_wp2_with fail
                              refine hK.out _ _ (hS.out _ (HBD.out.trans (HBB.out.mono HBD.out.size))) (fun hHeld => ?_)
                              clear hK K
                              try simp only [Act.put, List.setIfInBounds_toArray, List.set_cons_zero, List.set_cons_succ]
                              refine takes [10, 11] 0 (by kernel_rfl) (by assumption) ?_
                              iterate 2 (refine tkY rfl (fun _ _ _ h => h) rfl (by ((intro w hSw); (try dsimp only at hSw); go_simp; (try with_reducible rfl))) ?_; try simp only [Act.put, List.setIfInBounds_toArray, List.set_cons_zero, List.set_cons_succ])
                              refine tkE ?_
                              refine wpAnyH_done (by kernel_rfl) ?_ _
                              have HQ29 := Lib.hid (HRD.out.layH (HS9.out.2.trans (Moves.of_below HBD.out)) HBB.out HO9.out (fun hm_ => by have h1 := HF9.out g hm_; have h2 := HRD.out.blk.lt; omega) (fun k hk => Nat.le_trans (Nat.le_trans HS9.out.2.kept.size HBD.out.size) (HF9.out k hk)) (by have := HTOT.out; have h2 := ins_len (lt := ah) (x := y) u.1.held; omega))
                              have f4 := HD9.out.frozen 1
                              have z4 := hHeld.1
                              refine withLast_go (fun K hK => ?_)
                              clear hHeld
                              go_simp
                              refine hK _ _ ?_
                              clear hK K f4 z4
                              obtain ⟨w29, hwj⟩ : ∃ w29, w29 = wc.setCells g 1 [.slice A29 (ins ah y u.1.held).length c29] := ⟨_, rfl⟩
                              rw [← hwj] at HQ29
                              have hwjb : wc.setCell ⟨g, 1, none⟩ (.slice A29 (ins ah y u.1.held).length c29) = w29 := hwj.symm
                              rw [hwjb]
                              clear hwj hwjb HBD HRD hS HWI HO9 HF9 HBB HD9
                              clear HYC
                              have HLO29 := Lib.hid ((HQ29.out.2).kept.own HI9.out.lo (fun y hy hf => (HI9.out.lp y (ownBlock_mem.1 hy)).1 hf))
                              have HYC : Hid (∀ w', Below w29.heap.size w29 w' → (w'.cell? ⟨b, off + j * 4, none⟩ = some (.string y.key) ∧ w'.cell? ⟨b, off + j * 4 + 1, none⟩ = some (.int .i64 y.id.n) ∧ w'.cell? ⟨b, off + j * 4 + 2, none⟩ = some (.int .i64 y.id.c) ∧ w'.cell? ⟨b, off + j * 4 + 3, none⟩ = some (.int .i64 y.mode))) := Lib.hid (fun w' hb => HYR.out _ HLO29.out w' hb)
                              have HBD : Hid (Below w29.heap.size w29 w29.drew) := Lib.hid (below_drewN (Below.refl _ _) 1)
                              have HRD := Lib.hid (HQ29.out.1.below HBD.out)
                              have hS : Hid (∀ w', Below w29.heap.size w29 w' → (w'.cell? ⟨g, 2, none⟩ = some (.slice n'.aw u.1.wait.length n'.cw) ∧ w'.cell? ⟨b, off + j * 4, none⟩ = some (.string y.key) ∧ w'.cell? ⟨b, off + j * 4 + 1, none⟩ = some (.int .i64 y.id.n) ∧ w'.cell? ⟨b, off + j * 4 + 2, none⟩ = some (.int .i64 y.id.c) ∧ w'.cell? ⟨b, off + j * 4 + 3, none⟩ = some (.int .i64 y.mode))) := Lib.hid (fun w' hb => ⟨(HQ29.out.1.below hb).c2, HYC.out w' hb⟩)
                              have HWI := Lib.hid (rdrop_any n'.aw n'.cw u.1.wait y w29.drew (Reads.of_own HRD.out.ow) (by have := HTOT.out; omega))
                              unfold lkV at HWI
                              go_wp2_with fail
                              refine wp_region_last_held (S := fun w' => w'.cell? ⟨g, 2, none⟩ = some (.slice n'.aw u.1.wait.length n'.cw) ∧ w'.cell? ⟨b, off + j * 4, none⟩ = some (.string y.key) ∧ w'.cell? ⟨b, off + j * 4 + 1, none⟩ = some (.int .i64 y.id.n) ∧ w'.cell? ⟨b, off + j * 4 + 2, none⟩ = some (.int .i64 y.id.c) ∧ w'.cell? ⟨b, off + j * 4 + 3, none⟩ = some (.int .i64 y.mode)) (ops := #[{ dst := some 169, op := Op.move (Operand.tmp 0), type := 25, pos := "ref.go:271", after := #[], guard := none }, { dst := some 170, op := Op.move (Operand.tmp 0), type := 25, pos := "ref.go:271", after := #[], guard := none }, { dst := some 171, op := Op.nilCheck (Operand.tmp 170), type := 0, pos := "ref.go:271", after := #[{ on := 1, ground := Ground.data }], guard := none }, { dst := some 172, op := Op.fieldAddr 49 (Operand.tmp 171) 2, type := 0, pos := "ref.go:271", after := #[{ on := 2, ground := Ground.data }], guard := none }, { dst := some 173, op := Op.load 34 (Operand.tmp 172), type := 34, pos := "ref.go:271", after := #[{ on := 3, ground := Ground.data }], guard := none }, { dst := some 174, op := Op.move (Operand.tmp 12), type := 34, pos := "ref.go:271", after := #[], guard := none }, { dst := some 175, op := Op.move (Operand.tmp 13), type := 3, pos := "ref.go:271", after := #[], guard := none }, { dst := some 176, op := Op.indexAddr 34 (Operand.tmp 174) (Operand.tmp 175), type := 0, pos := "ref.go:271", after := #[{ on := 5, ground := Ground.data }, { on := 6, ground := Ground.data }], guard := none }, { dst := some 177, op := Op.load 62 (Operand.tmp 176), type := 62, pos := "ref.go:271", after := #[{ on := 7, ground := Ground.data }], guard := none }, { dst := some 178, op := Op.call { callee := Callee.value (Operand.func 62), args := #[Operand.tmp 173, Operand.tmp 177], argTypes := #[34, 62] }, type := 34, pos := "ref.go:271", after := #[{ on := 4, ground := Ground.data }, { on := 8, ground := Ground.data }], guard := none }, { dst := some 179, op := Op.nilCheck (Operand.tmp 169), type := 0, pos := "ref.go:271", after := #[{ on := 0, ground := Ground.data }, { on := 0, ground := Ground.phase }, { on := 1, ground := Ground.phase }, { on := 2, ground := Ground.phase }, { on := 3, ground := Ground.phase }, { on := 4, ground := Ground.phase }, { on := 5, ground := Ground.phase }, { on := 6, ground := Ground.phase }, { on := 7, ground := Ground.phase }, { on := 8, ground := Ground.phase }, { on := 9, ground := Ground.phase }], guard := none }, { dst := some 180, op := Op.fieldAddr 49 (Operand.tmp 179) 2, type := 0, pos := "ref.go:271", after := #[{ on := 10, ground := Ground.data }, { on := 0, ground := Ground.phase }, { on := 1, ground := Ground.phase }, { on := 2, ground := Ground.phase }, { on := 3, ground := Ground.phase }, { on := 4, ground := Ground.phase }, { on := 5, ground := Ground.phase }, { on := 6, ground := Ground.phase }, { on := 7, ground := Ground.phase }, { on := 8, ground := Ground.phase }, { on := 9, ground := Ground.phase }], guard := none }]) (o := { dst := none, op := Op.store 34 (Operand.tmp 180) (Operand.tmp 178), type := 0, pos := "ref.go:271", after := #[{ on := 11, ground := Ground.data }, { on := 9, ground := Ground.data }, { on := 9, ground := Ground.chain }, { on := 0, ground := Ground.phase }, { on := 1, ground := Ground.phase }, { on := 2, ground := Ground.phase }, { on := 3, ground := Ground.phase }, { on := 4, ground := Ground.phase }, { on := 5, ground := Ground.phase }, { on := 6, ground := Ground.phase }, { on := 7, ground := Ground.phase }, { on := 8, ground := Ground.phase }, { on := 9, ground := Ground.phase }], guard := none }) rfl (by kernel_rfl) (by kernel_rfl) (by kernel_rfl) (hS.out _ HBD.out) (fun hHeld => ?_)
                              refine takes [0, 1, 2, 3, 4, 5, 6, 7, 8] 3 (by kernel_rfl) (by assumption) ?_
                              iterate 9 (refine tkY rfl (fun _ _ _ h => h) rfl (by ((intro w hSw); (try dsimp only at hSw); go_simp; (try with_reducible rfl))) ?_; try simp only [Act.put, List.setIfInBounds_toArray, List.set_cons_zero, List.set_cons_succ])
                              refine tkE ?_
                              refine wpAnyH_ready (rs := [9]) (by kernel_rfl) (by simp) ?_
                              refine readyC rfl (fun K hK => ?_) ?_
                              ·
                                go_simp
                                go_at_call 62
                                refine HWI.out.mono ?_
                                rintro e wc ⟨o, rfl, A30, c30, rfl, ho, hf, hb⟩
                                have HO9 := Lib.hid ho
                                have HF9 := Lib.hid hf
                                have HBB := Lib.hid hb
                                clear ho hf hb
                                have HD9 := Lib.hid (HRD.out.blk.below HBB.out HRD.out.blk.lt)
                                go_wp2_with fail
                                refine hK.out _ _ (hS.out _ (HBD.out.trans (HBB.out.mono HBD.out.size))) (fun hHeld => ?_)
                                clear hK K
                                try simp only [Act.put, List.setIfInBounds_toArray, List.set_cons_zero, List.set_cons_succ]
                                refine takes [10, 11] 0 (by kernel_rfl) (by assumption) ?_
                                iterate 2 (refine tkY rfl (fun _ _ _ h => h) rfl (by ((intro w hSw); (try dsimp only at hSw); go_simp; (try with_reducible rfl))) ?_; try simp only [Act.put, List.setIfInBounds_toArray, List.set_cons_zero, List.set_cons_succ])
                                refine tkE ?_
                                refine wpAnyH_done (by kernel_rfl) ?_ _
                                have HQ30 := Lib.hid (HRD.out.layW (HQ29.out.2.trans (Moves.of_below HBD.out)) HBB.out HO9.out (fun hm_ => by have h1 := HF9.out g hm_; have h2 := HRD.out.blk.lt; omega) (fun k hk => Nat.le_trans (Nat.le_trans HQ29.out.2.kept.size HBD.out.size) (HF9.out k hk)) (by have := HTOT.out; have h1 : (noX y u.1.wait).length < u.1.wait.length := List.length_filter_lt_length_iff_exists.2 ⟨y, HYW.out, by simp⟩; have h2 := ins_len (lt := ah) (x := y) u.1.held; show (ins ah y u.1.held).length + (noX y u.1.wait).length ≤ 1000; omega))
                                have f4 := HD9.out.frozen 2
                                have z4 := hHeld.1
                                refine withLast_go (fun K hK => ?_)
                                clear hHeld
                                go_simp
                                refine hK _ _ ?_
                                clear hK K f4 z4
                                obtain ⟨w30, hwj⟩ : ∃ w30, w30 = wc.setCells g 2 [.slice A30 (noX y u.1.wait).length c30] := ⟨_, rfl⟩
                                rw [← hwj] at HQ30
                                have hwjb : wc.setCell ⟨g, 2, none⟩ (.slice A30 (noX y u.1.wait).length c30) = w30 := hwj.symm
                                rw [hwjb]
                                clear hwj hwjb HBD HRD hS HWI HO9 HF9 HBB HD9
                                clear HYC
                                have HLO30 := Lib.hid ((HQ30.out.2).kept.own HI9.out.lo (fun y hy hf => (HI9.out.lp y (ownBlock_mem.1 hy)).1 hf))
                                have HYC : Hid (∀ w', Below w30.heap.size w30 w' → (w'.cell? ⟨b, off + j * 4, none⟩ = some (.string y.key) ∧ w'.cell? ⟨b, off + j * 4 + 1, none⟩ = some (.int .i64 y.id.n) ∧ w'.cell? ⟨b, off + j * 4 + 2, none⟩ = some (.int .i64 y.id.c) ∧ w'.cell? ⟨b, off + j * 4 + 3, none⟩ = some (.int .i64 y.mode))) := Lib.hid (fun w' hb => HYR.out _ HLO30.out w' hb)
                                have HIT : Hid (InSt g n w (keysOf q id) (some ⟨bk, ok, none⟩) ck s.1.wait (some ⟨b, off, none⟩) cl (grant u.1 y, u.2) A c _ w30) := Lib.hid (InSt.turn (t := grant u.1 y) HI9.out HQ30.out.1 HQ30.out.2 (grant_good HI9.out.st.good HYW.out) (by have h1 := grant_total HYW.out; have h2 := HI9.out.st.tot; omega) (by have h1 : (grant u.1 y).wait.length ≤ u.1.wait.length := List.length_filter_le _ _; have h2 := HI9.out.st.few; show u.2.length + (grant u.1 y).wait.length ≤ 1000; omega))
                                have HGO := Lib.hid HIT.out.st.own
                                obtain ⟨z0, z1, z2, z3⟩ := HYC.out w30 (Below.refl _ _)
                                have hfew := HI9.out.st.few
                                go_wp2_with (at_builtin; refine wpList_app rfl (.tmp 181) (.tmp 186) 34 34 rfl 62 i0 _ 4 40 Tryz.underlying34 hi0 hz0 hy0 hx0 rfl (by omega) A u.2.length c (rc lkR u.2) rfl (HGO.out.alloc _) _ 1 (lkR.cells y) rfl (Src.of1 (R := lkR) Tryz.underlying34 y 62) (by simp only [maxLen]; omega) (by omega) ?_; intro A3 k3 w3 hown3 hk3 hf3; rw [rc_snoc] at hown3)
                                have HIN := Lib.hid (HIT.out.add (x := y) hown3 hk3 hf3 (by have h1 : (grant u.1 y).wait.length < u.1.wait.length := List.length_filter_lt_length_iff_exists.2 ⟨y, HYW.out, by simp⟩; show u.2.length + 1 + (grant u.1 y).wait.length ≤ 1000; omega))
                                have hul : u.2.length + 1 = (u.2 ++ [y]).length := by simp
                                rw [hul]
                                clear hown3 hk3 hf3 z0 z1 z2 z3 hul
                                obtain ⟨nn, hnn⟩ : ∃ nn, InSt g n w (keysOf q id) (some ⟨bk, ok, none⟩) ck s.1.wait (some ⟨b, off, none⟩) cl (grant u.1 y, u.2 ++ [y]) A3 k3 nn w3 := ⟨_, HIN.out⟩
                                have HNN := Lib.hid hnn
                                clear hnn HIN
                                go_roundw
                                case rel =>
                                  refine ⟨j + 1, A3, k3, nn, by go_num, by omega, by rw [HJ.out], ?_⟩
                                  rw [HJ.out]
                                  exact ⟨HNN.out, HSB.out⟩
                                case measure => simp [intOf]; omega
                              exact AllReadyH.nil
                            exact AllReadyH.nil
                          exact AllReadyH.nil
                    · have jU : ¬ (j : Int) < (s.1.wait.length : Int) := by omega
                      have HJA : Hid (jS s key j = kS q id (k + 1)) := Lib.hid (by rw [show j = s.1.wait.length by omega, jS_all, HKN.out])
                      rw [HJA.out] at HX ⊢
                      go_wp2
                      go_roundw
                      case rel => exact ⟨k + 1, A, c, n', by go_num, by omega, rfl, HX.out.st⟩
                      case measure => simp [intOf]; omega
                · have kU : ¬ (k : Int) < ((keysOf q id).length : Int) := by omega
                  have HKA : Hid (kS q id k = endS q id) := Lib.hid (by rw [show k = (keysOf q id).length by omega, kS_all])
                  rw [HKA.out] at HX ⊢
                  go_wp2
                  go_ret
                  exact ⟨A, c, rfl, HX.out.own, HX.out.fr, n', HX.out.rf, HX.out.mv, HX.out.ap⟩
            exact AllReadyH.nil
          exact AllReadyH.nil
end Go.Proofs.YtpidpdbjjdkhoaaGreat
