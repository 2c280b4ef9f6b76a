/- Locks: Edges. -/
import Derived.Test.YtpidpdbjjdkhoaaGreatLkP
namespace Go.Proofs.YtpidpdbjjdkhoaaGreat
open Go.RowKit
set_option linter.unusedSimpArgs false
set_option linter.unusedVariables false
attribute [local go_sem ↓] Go.wp_at_zero Go.wp_at_succ

theorem Tryz.infoEd : (Tryz.prog.info? 66).map (fun i => (i.zero, i.size, i.bytes)) = some (some (.agg #[.string ⟨#[]⟩, .int .i64 0, .int .i64 0, .int .i64 0, .int .i64 0]), 5, 48) := by kernel_rfl
def edR : RowT Edg := ⟨fun x => [.string x.key, .int .i64 x.w.n, .int .i64 x.w.c, .int .i64 x.h.n, .int .i64 x.h.c], 5, ⟨⟨#[]⟩, ⟨0, 0⟩, ⟨0, 0⟩⟩, by decide, fun _ => rfl, fun x u hu => by
  simp only [List.mem_cons, List.mem_nil_iff, or_false] at hu
  rcases hu with rfl | rfl | rfl | rfl | rfl <;> rfl⟩
def edI (held : List Lk) (w : Lk) : List Edg := (held.filter (conf w)).map fun h => ⟨w.key, w.id, h.id⟩
theorem edges_eq (t : Tb) : edges t = t.wait.flatMap (edI t.held) := rfl
theorem edI_on {held : List Lk} {w h : Lk} {j : Nat} (hj : held[j]? = some h) : edI (held.take (j + 1)) w = edI (held.take j) w ++ if conf w h then [⟨w.key, w.id, h.id⟩] else [] := by
  rw [take_on hj]
  unfold edI
  rw [List.filter_append, List.map_append]
  cases hc : conf w h <;> simp [hc]
theorem edI_len (held : List Lk) (w : Lk) : (edI held w).length ≤ held.length := by
  unfold edI
  rw [List.length_map]
  exact List.length_filter_le _ _
theorem eds_len (held : List Lk) : ∀ ws : List Lk, (ws.flatMap (edI held)).length ≤ ws.length * held.length
  | [] => by simp
  | x :: r => by
    have h1 := edI_len held x
    have h2 := eds_len held r
    rw [List.flatMap_cons, List.length_append, List.length_cons, Nat.add_mul]
    omega
theorem eds_all {held : List Lk} {ws : List Lk} {k j : Nat} {w : Lk} (hk : k < ws.length) (hn : held.length + ws.length ≤ 1000) : ((ws.take k).flatMap (edI held) ++ edI (held.take j) w).length ≤ 1000000 := by
  have h1 := eds_len held (ws.take k)
  have h2 := edI_len (held.take j) w
  have h3 : (ws.take k).length * held.length ≤ 999 * 1000 := Nat.mul_le_mul (by rw [List.length_take]; omega) (by omega)
  rw [List.length_take] at h2
  rw [List.length_append]
  omega
theorem eds_end {held : List Lk} {ws : List Lk} {k : Nat} {w : Lk} (hk : ws[k]? = some w) : (ws.take k).flatMap (edI held) ++ edI (held.take held.length) w = (ws.take (k + 1)).flatMap (edI held) := by
  rw [take_on hk, List.flatMap_append, List.take_length]
  simp
def EdAt (w : World) (E : List Edg) (o : Value) (wr : World) : Prop :=
  ∃ A c, o = .slice A E.length c ∧ wr.ownsRow 0 66 5 (.slice A E.length c) E.length (rc edR E) ∧ (∀ x ∈ ob A, w.heap.size ≤ x) ∧ Below w.heap.size w wr
def EdRel (q : Tb) (w : World) (o i : Value) (wr : World) : Prop := ∃ k : Nat, i = .int .i64 k ∧ k ≤ q.wait.length ∧ EdAt w ((q.wait.take k).flatMap (edI q.held)) o wr
def EiRel (q : Tb) (w : World) (p5 : Nat) (y : Lk) (k : Nat) (o i : Value) (wr : World) : Prop :=
  ∃ j : Nat, i = .int .i64 j ∧ j ≤ q.held.length ∧ EdAt w ((q.wait.take k).flatMap (edI q.held) ++ edI (q.held.take j) y) o wr ∧ Blk wr p5 62 #[.string y.key, .int .i64 y.id.n, .int .i64 y.id.c, .int .i64 y.mode]
theorem Src.edg {P : Program} {w : World} {tx e' : TypeId} (hk : P.underlying tx = some (.slice e')) (x : Edg) (t : TypeId) :
    Src P 5 tx (.slice (some ⟨w.heap.size, 0, none⟩) 1 1) 1 (edR.cells x) (w.alloc (.cells #[.string x.key, .int .i64 x.w.n, .int .i64 x.w.c, .int .i64 x.h.n, .int .i64 x.h.c] t)) :=
  Src.ofSlice (P := P) _ hk _ 1 1 (edR.cells x) rfl (fun j u hu => by
    rw [Addr.add_lit, Nat.zero_add]
    exact ((Blk.new w t (edR.cells x).toArray).cell j).trans (by simpa using hu)) (edR.one x)
def EdgesEnds (q : Tb) (w : World) (e : Ending) (w' : World) : Prop :=
  ∃ A c, e = .returned (.slice A (edges q).length c) ∧ w'.ownsRow 0 66 5 (.slice A (edges q).length c) (edges q).length (rc edR (edges q)) ∧ (∀ x ∈ ob A, w.heap.size ≤ x) ∧ Below w.heap.size w w'
set_option maxHeartbeats 8000000 in
set_option maxRecDepth 100000 in
theorem edges_any {w : World} {d : Nat} {q : Tb} {m : TbM} (h : TbAt w d q m) : Calls Tryz.prog 26 #[.pointer (some ⟨d, 0, none⟩)] w (EdgesEnds q w) := by
  obtain ⟨i0, hi0, hz0, hy0, hx0⟩ := info_parts Tryz.infoEd
  have HH := Lib.hid h
  have HFH := Lib.hid h.fh
  have hn1000 := h.fh
  have y2 := h.c2
  clear h
  go_enter Tryz.func26, Tryz.ntmps26
  go_wp2
  clear y2
  go_loopw [3, 13] (EdRel q w) (fun _ i _ => q.wait.length - (intOf i).toNat)
  case atStart => exact ⟨0, rfl, Nat.zero_le _, none, 0, rfl, World.ownsRow_nil _ _ _ _, by simp [ob], Below.refl _ _⟩
  case round =>
    obtain ⟨k, rfl, hk, hEA⟩ := hrel
    by_cases hlt : k < q.wait.length
    · have HEA := Lib.hid hEA
      have HT := Lib.hid (HH.out.below hEA.choose_spec.choose_spec.2.2.2)
      obtain ⟨g, off, hA, _, a0, a1, a2, a3⟩ := rdL (Reads.of_own HT.out.ow) hlt
      rw [hA]
      have HGY : Hid (q.wait[k]? = some (gr lkR q.wait k)) := Lib.hid (gr_get hlt)
      obtain ⟨y, hyy⟩ : ∃ y, y = gr lkR q.wait k := ⟨_, rfl⟩
      rw [← hyy] at a0 a1 a2 a3 HGY
      have kL : (0 : Int) ≤ (k : Int) := by omega
      have kU : (k : Int) < (q.wait.length : Int) := by omega
      have hc1 := HT.out.c1
      have hdl := HT.out.blk.lt
      have HBL := Lib.hid (Blk.new wr 62 #[.string y.key, .int .i64 y.id.n, .int .i64 y.id.c, .int .i64 y.mode])
      have HBW := Lib.hid (below_alloc wr (.cells #[.string y.key, .int .i64 y.id.n, .int .i64 y.id.c, .int .i64 y.mode] 62))
      clear hEA hyy
      go_wp2
      obtain ⟨w5, hw5⟩ : ∃ w5, w5 = wr.alloc (.cells #[.string y.key, .int .i64 y.id.n, .int .i64 y.id.c, .int .i64 y.mode] 62) := ⟨_, rfl⟩
      obtain ⟨p5, hp5⟩ : ∃ p5, p5 = wr.heap.size := ⟨_, rfl⟩
      rw [← hw5]
      rw [← hp5]
      rw [← hw5] at HBL HBW
      rw [← hp5] at HBL
      have HP5 : Hid (w.heap.size ≤ p5) := Lib.hid (by rw [hp5]; exact HEA.out.choose_spec.choose_spec.2.2.2.size)
      clear hw5 hp5 a0 a1 a2 a3 hc1 hdl
      go_loopw [3, 22] (EiRel q w p5 y k) (fun _ i _ => q.held.length - (intOf i).toNat)
      case atStart => 
        obtain ⟨A, c, rfl, ho, hf, hb⟩ := HEA.out
        have e : (q.wait.take k).flatMap (edI q.held) = (q.wait.take k).flatMap (edI q.held) ++ edI (q.held.take 0) y := by simp [edI]
        rw [e] at ho ⊢
        exact ⟨0, rfl, Nat.zero_le _, ⟨A, c, rfl, (Kept.of_below (S := []) HBW.out).own ho (by simp), hf, hb.trans (HBW.out.mono hb.size)⟩, HBL.out⟩
      case round =>
        obtain ⟨j, rfl, hj, hEB, hbk⟩ := hrel
        obtain ⟨A, c, rfl, ho, hf, hb⟩ := hEB
        have HO := Lib.hid ho
        have HF := Lib.hid hf
        have HB := Lib.hid hb
        have HLEN := Lib.hid (eds_all (j := j) (w := y) hlt HFH.out)
        obtain ⟨E, hE⟩ : ∃ E, E = (q.wait.take k).flatMap (edI q.held) ++ edI (q.held.take j) y := ⟨_, rfl⟩
        rw [← hE] at HO HLEN
        rw [← hE]
        have HE := Lib.hid hE
        clear ho hf hb hE
        by_cases hlj : j < q.held.length
        · have HT3 := Lib.hid (HH.out.below HB.out)
          obtain ⟨g3, off3, hA3, _, b0, b1, b2, b3⟩ := rdL (Reads.of_own HT3.out.oh) hlj
          rw [hA3]
          have HGZ : Hid (q.held[j]? = some (gr lkR q.held j)) := Lib.hid (gr_get hlj)
          obtain ⟨z, hzz⟩ : ∃ z, z = gr lkR q.held j := ⟨_, rfl⟩
          rw [← hzz] at b0 b1 b2 b3 HGZ
          have jL : (0 : Int) ≤ (j : Int) := by omega
          have jU : (j : Int) < (q.held.length : Int) := by omega
          have HON := Lib.hid (edI_on (w := y) HGZ.out)
          have u0 : wr.cell? ⟨p5, 0, none⟩ = some (.string y.key) := hbk.cell 0
          have u1 : wr.cell? ⟨p5, 1, none⟩ = some (.int .i64 y.id.n) := hbk.cell 1
          have u2 : wr.cell? ⟨p5, 2, none⟩ = some (.int .i64 y.id.c) := hbk.cell 2
          have u3 : wr.cell? ⟨p5, 3, none⟩ = some (.int .i64 y.mode) := hbk.cell 3
          have hplt := hbk.lt
          have HBK := Lib.hid hbk
          have HC := Lib.hid (fun W => conflict_any y z W)
          unfold lkV at HC
          clear hzz hbk
          have HBZ := Lib.hid (below_alloc wr (.cells #[.string z.key, .int .i64 z.id.n, .int .i64 z.id.c, .int .i64 z.mode] 62))
          have HKZ := Lib.hid (Blk.new wr 62 #[.string z.key, .int .i64 z.id.n, .int .i64 z.id.c, .int .i64 z.mode])
          cases hc : conf y z with
          | false =>
            rw [hc] at HON
            have HX : Hid ((q.wait.take k).flatMap (edI q.held) ++ edI (q.held.take (j + 1)) y = E) := Lib.hid (by rw [HE.out, HON.out]; simp)
            go_wp2_with fail
            refine (HC.out _).mono ?_
            rintro e w6 ⟨he, hb6⟩
            rw [hc] at he
            subst he
            have HB6 := Lib.hid (HBZ.out.trans (hb6.mono HBZ.out.size))
            clear hb6 hc
            go_wp2
            go_roundw
            case rel =>
              refine ⟨j + 1, by go_num, by omega, ?_, HBK.out.below HB6.out HBK.out.lt⟩
              rw [HX.out]
              exact ⟨A, c, rfl, (Kept.of_below (S := []) HB6.out).own HO.out (by simp), HF.out, HB.out.trans (HB6.out.mono HB.out.size)⟩
            case measure => simp [intOf]; omega
          | true =>
            rw [hc] at HON
            obtain ⟨ed, hed⟩ : ∃ ed : Edg, ed = ⟨y.key, y.id, z.id⟩ := ⟨_, rfl⟩
            have HX : Hid ((q.wait.take k).flatMap (edI q.held) ++ edI (q.held.take (j + 1)) y = E ++ [⟨y.key, y.id, z.id⟩]) := Lib.hid (by rw [HE.out, HON.out]; simp)
            go_wp2_with fail
            refine (HC.out _).mono ?_
            rintro e w6 ⟨he, hb6⟩
            rw [hc] at he
            subst he
            have HB6 := Lib.hid (HBZ.out.trans (hb6.mono HBZ.out.size))
            have hz6 := HKZ.out.below hb6 HKZ.out.lt
            have hy6 := HBK.out.below HB6.out HBK.out.lt
            have HO6 := Lib.hid ((Kept.of_below (S := []) HB6.out).own HO.out (by simp))
            have hlen := HLEN.out
            obtain ⟨pz, hpz⟩ : ∃ pz, pz = wr.heap.size := ⟨_, rfl⟩
            rw [← hpz] at hz6
            rw [← hpz]
            have x0 : w6.cell? ⟨p5, 0, none⟩ = some (.string y.key) := hy6.cell 0
            have x1 : w6.cell? ⟨p5, 1, none⟩ = some (.int .i64 y.id.n) := hy6.cell 1
            have x2 : w6.cell? ⟨p5, 2, none⟩ = some (.int .i64 y.id.c) := hy6.cell 2
            have x3 : w6.cell? ⟨p5, 3, none⟩ = some (.int .i64 y.mode) := hy6.cell 3
            have v0 : w6.cell? ⟨pz, 0, none⟩ = some (.string z.key) := hz6.cell 0
            have v1 : w6.cell? ⟨pz, 1, none⟩ = some (.int .i64 z.id.n) := hz6.cell 1
            have v2 : w6.cell? ⟨pz, 2, none⟩ = some (.int .i64 z.id.c) := hz6.cell 2
            have v3 : w6.cell? ⟨pz, 3, none⟩ = some (.int .i64 z.mode) := hz6.cell 3
            have HY6 := Lib.hid hy6
            clear hb6 hc hz6 hy6 hpz u0 u1 u2 u3 b0 b1 b2 b3 hplt
            go_wp2_with (at_builtin
                         refine wpList_app rfl (.tmp 29) (.tmp 37) 57 57 rfl 66 i0 _ 5 48 Tryz.underlying57 hi0 hz0 hy0 hx0 rfl (by omega) A E.length c (rc edR E) rfl (HO6.out.alloc _) _ 1 (edR.cells ⟨y.key, y.id, z.id⟩) rfl (Src.edg Tryz.underlying57 ⟨y.key, y.id, z.id⟩ 66) (by simp only [maxLen]; omega) (by omega) ?_
                         intro A3 k3 w3 hown3 hk3 hf3
                         rw [rc_snoc] at hown3)
            have HB7 := Lib.hid (HB.out.trans (HB6.out.mono HB.out.size))
            have hA5 : p5 ∉ ob A := fun hm => own_blk_ne HO6.out HY6.out (by decide) (ownBlock_mem.2 hm)
            have HY7 := Lib.hid (hk3.of_alloc.blk HY6.out hA5)
            have HB8 := Lib.hid (HB7.out.trans (hk3.of_alloc.below HB7.out.size HF.out))
            have hol : E.length + 1 = (E ++ [(⟨y.key, y.id, z.id⟩ : Edg)]).length := by simp
            rw [hol] at hown3 ⊢
            have HO8 := Lib.hid hown3
            have HF8 : Hid (∀ x ∈ ob A3, w.heap.size ≤ x) := Lib.hid (fun x hx => by
              rcases hf3 x hx with h | h
              · exact HF.out x h
              · simp at h
                have := HB7.out.size
                omega)
            clear hown3 hk3 hf3
            go_roundw
            case rel =>
              refine ⟨j + 1, by go_num, by omega, ?_, HY7.out⟩
              rw [HX.out]
              exact ⟨A3, k3, rfl, HO8.out, HF8.out, HB8.out⟩
            case measure => simp [intOf]; omega
        · have hjj : j = q.held.length := by omega
          have HX : Hid ((q.wait.take (k + 1)).flatMap (edI q.held) = E) := Lib.hid (by rw [HE.out, hjj, eds_end HGY.out])
          clear hjj
          go_wp2
          go_roundw
          case rel =>
            refine ⟨k + 1, by go_num, by omega, ?_⟩
            rw [HX.out]
            exact ⟨A, c, rfl, HO.out, HF.out, HB.out⟩
          case measure => simp [intOf]; omega
    · have hkk : k = q.wait.length := by omega
      obtain ⟨A, c, rfl, ho, hf, hb⟩ := hEA
      have HX : Hid ((q.wait.take k).flatMap (edI q.held) = edges q) := Lib.hid (by rw [hkk, List.take_length, edges_eq])
      have HF := Lib.hid (And.intro ho (And.intro hf hb))
      clear ho hf hb hkk
      go_wp2
      go_ret
      rw [HX.out] at HF ⊢
      exact ⟨A, c, rfl, HF.out⟩
end Go.Proofs.YtpidpdbjjdkhoaaGreat
