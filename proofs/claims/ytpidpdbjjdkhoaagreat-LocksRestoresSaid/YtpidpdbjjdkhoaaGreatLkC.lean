/- Locks, plain: End. -/
import Derived.Test.YtpidpdbjjdkhoaaGreatLkB
namespace Go.Proofs.YtpidpdbjjdkhoaaGreat
theorem bl_ord : Ord' bl where
  irr := bl_self
  tr _ _ _ := bl_lt
  ne a b c h1 h2 := by
    cases h : bl a c with
    | false => rfl
    | true =>
      have hne : a ≠ b := fun e => by rw [← e, h] at h2; cases h2
      have hba : bl b a = true := by
        cases h' : bl b a with
        | true => rfl
        | false => exact absurd (bl_eq h1 h') hne
      have := bl_lt hba h
      rw [h2] at this; cases this
theorem bl_or {a b : ByteArray} (h : a ≠ b) : bl a b = true ∨ bl b a = true := by
  cases h1 : bl a b with
  | true => exact .inl rfl
  | false => cases h2 : bl b a with
    | true => exact .inr rfl
    | false => exact absurd (bl_eq h1 h2) h
theorem mem_foldk {k : ByteArray} : ∀ {v l : List ByteArray}, k ∈ v.foldl (fun l k => ins bl k l) l ↔ k ∈ l ∨ k ∈ v
  | [], l => by simp
  | a :: v, l => by
    rw [List.foldl_cons, mem_foldk, List.mem_cons]
    constructor
    · rintro (h | h)
      · rcases mem_ins h with h | h
        · exact .inr (.inl h)
        · exact .inl h
      · exact .inr (.inr h)
    · rintro (h | h | h)
      · by_cases e : k = a
        · exact .inl (e ▸ mem_ins_self)
        · exact .inl (mem_ins_old (bl_or e) bl_ord h)
      · exact .inl (h ▸ mem_ins_self)
      · exact .inr h
theorem srt_foldk : ∀ {v l : List ByteArray}, Srt bl l → Srt bl (v.foldl (fun l k => ins bl k l) l)
  | [], _, h => h
  | _ :: v, _, h => srt_foldk (v := v) (srt_ins bl_ord h)
theorem mem_keysOf {t : Tb} {id : Idn} {k : ByteArray} : k ∈ keysOf t id ↔ ∃ l, (l ∈ t.held ∨ l ∈ t.wait) ∧ l.id = id ∧ l.key = k := by
  unfold keysOf
  rw [mem_foldk]
  simp only [List.not_mem_nil, false_or, List.mem_map, List.mem_filter, List.mem_append, decide_eq_true_eq]
  exact ⟨fun ⟨l, ⟨h1, h2⟩, h3⟩ => ⟨l, h1, h2, h3⟩, fun ⟨l, h1, h2, h3⟩ => ⟨l, ⟨h1, h2⟩, h3⟩⟩

/-! ### what an End lets go of -/
theorem mem_ne {α : Type} [DecidableEq α] {l : List α} {f : α → Prop} [DecidablePred f] {x : α} : x ∈ l.filter (fun y => decide (f y)) ↔ x ∈ l ∧ f x := by simp
theorem strip_good {t : Tb} (h : Good t) (id : Idn) : Good (strip t id) :=
  ⟨srt_filter h.sh _, srt_filter h.sw _, srt_filter h.sp _, srt_filter h.su _, fun x hx => h.hs x (List.mem_filter.1 hx).1, fun x hx => h.ws x (List.mem_filter.1 hx).1⟩
theorem strip_mid {t : Tb} (h : Mid t) (id : Idn) : Mid (strip t id) := by
  obtain ⟨hg, noc, one, edge, pw, ph, known, upg⟩ := h
  refine ⟨strip_good hg id, ?_, ?_, ?_, ?_, ?_, ?_, ?_⟩
  · intro a ha b hb
    exact noc a (mem_ne.1 ha).1 b (mem_ne.1 hb).1
  · intro a ha b hb
    exact one a (mem_ne.1 ha).1 b (mem_ne.1 hb).1
  · intro w hw h hh hc
    rcases edge w (mem_ne.1 hw).1 h (mem_ne.1 hh).1 hc with e | e | e
    · exact .inl e
    · exact .inr (.inl (mem_ne.2 ⟨e, (mem_ne.1 hh).2⟩))
    · exact .inr (.inr (mem_ne.2 ⟨e, (mem_ne.1 hh).2⟩))
  · intro w hw hm
    exact pw w (mem_ne.1 hw).1 (mem_ne.1 hm).1
  · intro i hi hm
    exact ph i (mem_ne.1 hi).1 (mem_ne.1 hm).1
  · intro i hi
    have hk : ∀ i, i ≠ id → (i ∈ t.prep ∨ i ∈ t.hurt) → ∃ x, (x ∈ (strip t id).held ∨ x ∈ (strip t id).wait) ∧ x.id = i := by
      intro i hne hi
      obtain ⟨x, hx, rfl⟩ := known i hi
      exact ⟨x, hx.imp (fun h => mem_ne.2 ⟨h, hne⟩) (fun h => mem_ne.2 ⟨h, hne⟩), rfl⟩
    rcases hi with hi | hi
    · exact hk i (mem_ne.1 hi).2 (.inl (mem_ne.1 hi).1)
    · exact hk i (mem_ne.1 hi).2 (.inr (mem_ne.1 hi).1)
  · intro w hw h hh
    exact upg w (mem_ne.1 hw).1 h (mem_ne.1 hh).1

/-! ### a lock is granted -/
theorem grant_good {s : Tb} {l : Lk} (h : Good s) (hl : l ∈ s.wait) : Good (grant s l) :=
  ⟨srt_ins ah_ord h.sh, srt_filter h.sw _, h.sp, h.su, fun x hx => (mem_ins hx).elim (fun e => e ▸ h.ws l hl) (h.hs x), fun x hx => h.ws x (mem_ne.1 hx).1⟩
theorem grant_mid {s : Tb} {l : Lk} (h : Mid s) (hl : l ∈ s.wait) (hf : freeB s l = true) : Mid (grant s l) := by
  have hgd := grant_good h.good hl
  obtain ⟨hg, noc, one, edge, pw, ph, known, upg⟩ := h
  obtain ⟨f1, f2⟩ := free_iff.1 hf
  refine ⟨hgd, ?_, ?_, ?_, ?_, ph, ?_, ?_⟩
  · intro a ha b hb
    rcases mem_ins ha with ea | ha1 <;> rcases mem_ins hb with eb | hb1
    · rw [ea, eb]; simp [conf]
    · rw [ea, conf_symm]; exact f1 b hb1
    · rw [eb]; exact f1 a ha1
    · exact noc a ha1 b hb1
  · intro a ha b hb
    exact one a (mem_ne.1 ha).1 b (mem_ne.1 hb).1
  · intro w hw h hh hc
    have hw1 := (mem_ne.1 hw).1
    rcases mem_ins hh with e | hh1
    · rw [e] at hc ⊢
      have := f2 w hw1 hc
      exact .inl ((ol_or (conf_iff.1 hc).2.1).resolve_left (by rw [this]; simp))
    · exact edge w hw1 h hh1 hc
  · intro w hw
    exact pw w (mem_ne.1 hw).1
  · intro i hi
    obtain ⟨y, hy, rfl⟩ := known i hi
    rcases hy with hy | hy
    · rcases mem_insL (x := l) hy with h | h
      · exact ⟨y, .inl h, rfl⟩
      · exact ⟨l, .inl mem_ins_self, h.2.symm⟩
    · by_cases e : y = l
      · exact ⟨l, .inl mem_ins_self, by rw [e]⟩
      · exact ⟨y, .inr (mem_ne.2 ⟨hy, e⟩), rfl⟩
  · intro w hw h hh hk hi
    obtain ⟨hw1, hne⟩ := mem_ne.1 hw
    rcases mem_ins hh with e | hh1
    · rw [e] at hi
      exact absurd (one w hw1 l hl hi.symm) hne
    · exact upg w hw1 h hh1 hk hi
theorem grant_block {s : Tb} {l w : Lk} (h : Mid s) (hl : l ∈ s.wait) (hb : freeB s w = false) (ho : w.key ≠ l.key ∨ ah w l = true) : freeB (grant s l) w = false := by
  rcases free_no.1 hb with ⟨v, hv, hc⟩ | ⟨v, hv, hc, hol⟩
  · refine free_no.2 (.inl ?_)
    rcases mem_insL (x := l) hv with h1 | ⟨hk, hi⟩
    · exact ⟨v, h1, hc⟩
    · have := h.upg l hl v hv hk hi
      obtain ⟨c1, c2, c3⟩ := conf_iff.1 hc
      exact ⟨l, mem_ins_self, conf_iff.2 ⟨hk ▸ c1, hi ▸ c2, .inl this.2⟩⟩
  · refine free_no.2 (.inr ⟨v, mem_ne.2 ⟨hv, ?_⟩, hc, hol⟩)
    rintro rfl
    obtain ⟨c1, c2, c3⟩ := conf_iff.1 hc
    rcases ho with ho | ho
    · exact ho c1.symm
    · rw [ah_iff] at ho
      rcases ho with h1 | h1
      · rw [c1, bl_self] at h1; cases h1
      · have := ol_ord.asym h1.2; rw [hol] at this; cases this
theorem grant_total {s : Tb} {l : Lk} (hl : l ∈ s.wait) : (grant s l).held.length + (grant s l).wait.length ≤ s.held.length + s.wait.length := by
  have h1 := ins_len (lt := ah) (x := l) s.held
  have h2 : (s.wait.filter (fun y => decide (y ≠ l))).length < s.wait.length := List.length_filter_lt_length_iff_exists.2 ⟨l, hl, by simp⟩
  show (ins ah l s.held).length + (s.wait.filter (fun y => decide (y ≠ l))).length ≤ _
  omega

/-! ### the rounds of an End -/
section
variable {P : Tb → Prop}
theorem pass_ind (hP : ∀ s l, P s → l ∈ s.wait → freeB s l = true → P (grant s l)) (k : ByteArray) :
    ∀ (L : List Lk) (s : Tb × List Lk), Srt ah L → (∀ x ∈ L, x ∈ s.1.wait) → P s.1 → P (L.foldl (grant1 k) s).1
  | [], _, _, _, h => h
  | l :: L, s, hs, hsub, h => by
    have hL := List.pairwise_cons.1 hs
    rw [List.foldl_cons]
    unfold grant1
    split
    · rename_i hc
      refine pass_ind hP k L _ hL.2 (fun x hx => ?_) (hP _ _ h (hsub l (List.mem_cons_self ..)) hc.2)
      refine mem_ne.2 ⟨hsub x (List.mem_cons_of_mem _ hx), ?_⟩
      rintro rfl
      have := hL.1 x hx
      rw [ah_ord.irr] at this; cases this
    · exact pass_ind hP k L s hL.2 (fun x hx => hsub x (List.mem_cons_of_mem _ hx)) h
theorem keys_ind (hP : ∀ s l, P s → l ∈ s.wait → freeB s l = true → P (grant s l)) (hS : ∀ s, P s → Srt ah s.wait) :
    ∀ (ks : List ByteArray) (s : Tb × List Lk), P s.1 → P (ks.foldl grantK s).1
  | [], _, h => h
  | k :: ks, s, h => by
    rw [List.foldl_cons]
    exact keys_ind hP hS ks _ (pass_ind hP k s.1.wait s (hS _ h) (fun _ h => h) h)
end
theorem end_ind {P : Tb → Prop} {t : Tb} {id : Idn} (h0 : P (strip t id)) (hP : ∀ s l, P s → l ∈ s.wait → freeB s l = true → P (grant s l)) (hS : ∀ s, P s → Srt ah s.wait) : P (endS t id).1 :=
  keys_ind hP hS _ _ h0
theorem end_good {t : Tb} (h : Good t) (id : Idn) : Good (endS t id).1 :=
  end_ind (strip_good h id) (fun _ _ h hl _ => grant_good h hl) (fun _ h => h.sw)
theorem end_mid {t : Tb} (h : Mid t) (id : Idn) : Mid (endS t id).1 :=
  end_ind (strip_mid h id) (fun _ _ h hl hf => grant_mid h hl hf) (fun _ h => h.good.sw)
theorem end_most {t : Tb} (h : Good t) (id : Idn) : (endS t id).1.most = t.most :=
  (end_ind (P := fun s => s.most = t.most ∧ Srt ah s.wait) ⟨rfl, (strip_good h id).sw⟩ (fun _ _ h _ _ => ⟨h.1, srt_filter h.2 _⟩) (fun _ h => h.2)).1
theorem end_total {t : Tb} (h : Good t) (id : Idn) : (endS t id).1.held.length + (endS t id).1.wait.length ≤ (strip t id).held.length + (strip t id).wait.length :=
  (end_ind (P := fun s => s.held.length + s.wait.length ≤ (strip t id).held.length + (strip t id).wait.length ∧ Srt ah s.wait) ⟨Nat.le_refl _, (strip_good h id).sw⟩ (fun _ _ h hl _ => ⟨Nat.le_trans (grant_total hl) h.1, srt_filter h.2 _⟩) (fun _ h => h.2)).1
theorem strip_total (t : Tb) (id : Idn) : (strip t id).held.length + (strip t id).wait.length ≤ t.held.length + t.wait.length :=
  Nat.add_le_add (List.length_filter_le _ _) (List.length_filter_le _ _)
theorem strip_less {t : Tb} {x : Lk} (h : x ∈ t.held ∨ x ∈ t.wait) : (strip t x.id).held.length + (strip t x.id).wait.length < t.held.length + t.wait.length := by
  have h1 : (strip t x.id).held.length ≤ t.held.length := List.length_filter_le _ _
  have h2 : (strip t x.id).wait.length ≤ t.wait.length := List.length_filter_le _ _
  rcases h with h | h
  · have : (strip t x.id).held.length < t.held.length := List.length_filter_lt_length_iff_exists.2 ⟨x, h, by simp⟩
    omega
  · have : (strip t x.id).wait.length < t.wait.length := List.length_filter_lt_length_iff_exists.2 ⟨x, h, by simp⟩
    omega
theorem end_marks {t : Tb} (h : Good t) (id : Idn) : (endS t id).1.prep = (strip t id).prep ∧ (endS t id).1.hurt = (strip t id).hurt :=
  (end_ind (P := fun s => (s.prep = (strip t id).prep ∧ s.hurt = (strip t id).hurt) ∧ Srt ah s.wait) ⟨⟨rfl, rfl⟩, (strip_good h id).sw⟩ (fun _ _ h _ _ => ⟨h.1, srt_filter h.2 _⟩) (fun _ h => h.2)).1

theorem pass_why (k : ByteArray) : ∀ (L : List Lk) (s : Tb × List Lk), Srt ah L → (∀ x ∈ L, x ∈ s.1.wait) → Mid s.1 →
    (∀ w ∈ s.1.wait, w.key = k → w ∈ L ∨ (freeB s.1 w = false ∧ ∀ l ∈ L, ah w l = true)) →
    (∀ w ∈ (L.foldl (grant1 k) s).1.wait, w ∈ s.1.wait ∧ (w.key = k → freeB (L.foldl (grant1 k) s).1 w = false) ∧ (w.key ≠ k → freeB s.1 w = false → freeB (L.foldl (grant1 k) s).1 w = false)) ∧ Mid (L.foldl (grant1 k) s).1
  | [], s, _, _, hm, hw => ⟨fun w h => ⟨h, fun e => ((hw w h e).resolve_left (by simp)).1, fun _ h => h⟩, hm⟩
  | l :: L, s, hs, hsub, hm, hw => by
    have hL := List.pairwise_cons.1 hs
    have hlw := hsub l (List.mem_cons_self ..)
    rw [List.foldl_cons]
    by_cases hc : l.key = k ∧ freeB s.1 l = true
    · rw [show grant1 k s l = (grant s.1 l, s.2 ++ [l]) from if_pos hc]
      have hgm := grant_mid hm hlw hc.2
      have ih := pass_why k L (grant s.1 l, s.2 ++ [l]) hL.2 (fun x hx => mem_ne.2 ⟨hsub x (List.mem_cons_of_mem _ hx), by rintro rfl; have := hL.1 x hx; rw [ah_ord.irr] at this; cases this⟩) hgm (fun w hw1 hk => by
        obtain ⟨h1, h2⟩ := mem_ne.1 hw1
        rcases hw w h1 hk with h3 | ⟨h3, h4⟩
        · rcases List.mem_cons.1 h3 with e | h3
          · exact absurd e h2
          · exact .inl h3
        · exact .inr ⟨grant_block hm hlw h3 (.inr (h4 l (List.mem_cons_self ..))), fun y hy => h4 y (List.mem_cons_of_mem _ hy)⟩)
      refine ⟨fun w hw1 => ?_, ih.2⟩
      obtain ⟨a, b, c⟩ := ih.1 w hw1
      exact ⟨(mem_ne.1 a).1, b, fun hk hf => c hk (grant_block hm hlw hf (.inl (by rw [hc.1]; exact hk)))⟩
    · rw [show grant1 k s l = s from if_neg hc]
      refine pass_why k L s hL.2 (fun x hx => hsub x (List.mem_cons_of_mem _ hx)) hm (fun w hw1 hk => ?_)
      rcases hw w hw1 hk with h3 | ⟨h3, h4⟩
      · rcases List.mem_cons.1 h3 with e | h3
        · refine .inr ⟨?_, fun y hy => by rw [e]; exact hL.1 y hy⟩
          rw [e]
          cases h : freeB s.1 l with
          | false => rfl
          | true => exact absurd ⟨e ▸ hk, h⟩ hc
        · exact .inl h3
      · exact .inr ⟨h3, fun y hy => h4 y (List.mem_cons_of_mem _ hy)⟩
theorem keys_why : ∀ (ks : List ByteArray) (s : Tb × List Lk), Mid s.1 → (∀ w ∈ s.1.wait, w.key ∈ ks ∨ freeB s.1 w = false) → Inv (ks.foldl grantK s).1
  | [], s, hm, hw => ⟨hm, fun w h => (hw w h).resolve_left (by simp)⟩
  | k :: ks, s, hm, hw => by
    rw [List.foldl_cons]
    have hp := pass_why k s.1.wait s hm.good.sw (fun _ h => h) hm (fun w h _ => .inl h)
    refine keys_why ks _ hp.2 (fun w h => ?_)
    obtain ⟨a, b, c⟩ := hp.1 w h
    by_cases hk : w.key = k
    · exact .inr (b hk)
    · rcases hw w a with h1 | h1
      · rcases List.mem_cons.1 h1 with h1 | h1
        · exact absurd h1 hk
        · exact .inl h1
      · exact .inr (c hk h1)
theorem end_inv {t : Tb} (hi : Inv t) (id : Idn) : Inv (endS t id).1 := by
  refine keys_why _ _ (strip_mid hi.mid id) (fun w hw => ?_)
  obtain ⟨hw1, hne⟩ := mem_ne.1 hw
  by_cases hk : w.key ∈ keysOf t id
  · exact .inl hk
  · refine .inr ?_
    have hfar : ∀ v, (v ∈ t.held ∨ v ∈ t.wait) → conf v w = true → v.id ≠ id := fun v hv hc e => hk (mem_keysOf.2 ⟨v, hv, e, (conf_iff.1 hc).1⟩)
    rcases free_no.1 (hi.why w hw1) with ⟨v, hv, hc⟩ | ⟨v, hv, hc, ho⟩
    · exact free_no.2 (.inl ⟨v, mem_ne.2 ⟨hv, hfar v (.inl hv) hc⟩, hc⟩)
    · exact free_no.2 (.inr ⟨v, mem_ne.2 ⟨hv, hfar v (.inr hv) hc⟩, hc, ho⟩)

/-! ### the oldest of all -/
theorem end_first {t : Tb} (hm : Mid t) {x : Lk} (hx : x ∈ t.wait) (hx2 : x.mode = 2) (hmin : ∀ y, (y ∈ t.held ∨ y ∈ t.wait) → ol y.id x.id = false) {id : Idn} (hid : id ≠ x.id) :
    x ∈ (endS t id).1.held ∨ (x ∈ (endS t id).1.wait ∧ ∀ h ∈ (endS t id).1.held, h.key = x.key → h.id ≠ x.id → h ∈ t.held ∧ h.id ≠ id) := by
  refine (end_ind (t := t) (id := id) (P := fun s => Mid s ∧ (∀ y, (y ∈ s.held ∨ y ∈ s.wait) → ol y.id x.id = false) ∧ (x ∈ s.held ∨ (x ∈ s.wait ∧ ∀ h ∈ s.held, h.key = x.key → h.id ≠ x.id → h ∈ t.held ∧ h.id ≠ id))) ?_ ?_ (fun _ h => h.1.good.sw)).2.2
  · exact ⟨strip_mid hm id, fun y hy => hmin y (hy.imp (fun h => (mem_ne.1 h).1) (fun h => (mem_ne.1 h).1)), .inr ⟨mem_ne.2 ⟨hx, fun e => hid e.symm⟩, fun h hh _ _ => mem_ne.1 hh⟩⟩
  · rintro s l ⟨hs, hmn, hcase⟩ hl hf
    refine ⟨grant_mid hs hl hf, fun y hy => ?_, ?_⟩
    · rcases hy with hy | hy
      · rcases mem_ins hy with e | hy
        · rw [e]; exact hmn l (.inr hl)
        · exact hmn y (.inl hy)
      · exact hmn y (.inr (mem_ne.1 hy).1)
    · rcases hcase with hh | ⟨hw, hall⟩
      · refine .inl ((mem_insL hh).resolve_right (fun ⟨hk, hi⟩ => ?_))
        have := hs.upg l hl x hh hk hi
        omega
      · by_cases e : l = x
        · rw [← e]; exact .inl mem_ins_self
        · refine .inr ⟨mem_ne.2 ⟨hw, fun e' => e e'.symm⟩, fun h hh hk hi => ?_⟩
          rcases mem_ins hh with e1 | hh
          · exfalso
            rw [e1] at hk hi
            have hc : conf x l = true := conf_iff.2 ⟨hk.symm, fun e' => hi e'.symm, .inl hx2⟩
            have h1 := (free_iff.1 hf).2 x hw hc
            have h2 := hmn l (.inr hl)
            exact hi (ol_eq h2 h1)
          · exact hall h hh hk hi
theorem end_first_held {t : Tb} (hm : Mid t) {x : Lk} (hx : x ∈ t.held) (hx2 : x.mode = 2) {id : Idn} (hid : id ≠ x.id) : x ∈ (endS t id).1.held := by
  refine (end_ind (t := t) (id := id) (P := fun s => Mid s ∧ x ∈ s.held) ⟨strip_mid hm id, mem_ne.2 ⟨hx, fun e => hid e.symm⟩⟩ ?_ (fun _ h => h.1.good.sw)).2
  rintro s l ⟨hs, hh⟩ hl hf
  refine ⟨grant_mid hs hl hf, (mem_insL hh).resolve_right (fun ⟨hk, hi⟩ => ?_)⟩
  have := hs.upg l hl x hh hk hi
  omega
theorem end_sub {t : Tb} (h : Good t) (id : Idn) : ∀ y, (y ∈ (endS t id).1.held ∨ y ∈ (endS t id).1.wait) → y ∈ t.held ∨ y ∈ t.wait :=
  (end_ind (t := t) (id := id) (P := fun s => (∀ y, (y ∈ s.held ∨ y ∈ s.wait) → y ∈ t.held ∨ y ∈ t.wait) ∧ Srt ah s.wait) ⟨fun y hy => hy.imp (fun h => (mem_ne.1 h).1) (fun h => (mem_ne.1 h).1), (strip_good h id).sw⟩
    (fun s l hs hl hf => ⟨fun y hy => by
      rcases hy with hy | hy
      · rcases mem_ins hy with e | hy
        · rw [e]; exact hs.1 l (.inr hl)
        · exact hs.1 y (.inl hy)
      · exact hs.1 y (.inr (mem_ne.1 hy).1), srt_filter hs.2 _⟩) (fun _ h => h.2)).1
end Go.Proofs.YtpidpdbjjdkhoaaGreat
