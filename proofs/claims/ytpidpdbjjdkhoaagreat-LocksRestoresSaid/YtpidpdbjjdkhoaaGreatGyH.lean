/- Locks: the law LocksRestores. -/
import Derived.Test.YtpidpdbjjdkhoaaGreatGyD
import Derived.Test.YtpidpdbjjdkhoaaGreatGyG
namespace Go.Proofs.YtpidpdbjjdkhoaaGreat
open Go.RowKit
set_option linter.unusedSimpArgs false
set_option linter.unusedVariables false
attribute [local go_sem ↓] Go.wp_at_zero Go.wp_at_succ

/-- a row that lies in a cell -/
structure MRow where
  A : Option Addr
  c : Nat
  l : List Idn
def mkR : RowT MRow := ⟨fun x => [.slice x.A x.l.length x.c], 1, ⟨none, 0, []⟩, by decide, fun _ => rfl, fun x u hu => by
  simp only [List.mem_cons, List.mem_nil_iff, or_false] at hu
  rw [hu]; rfl⟩
def IsMark (W : World) (x : MRow) : Prop := Reads W W.heap.size 2 x.A x.l.length (rc idR x.l) ∧ x.l.length ≤ 8796093022208
def MarkIs (W : World) (s : Value) (wx : World) : Prop := (∃ A c, ∃ l : List Idn, s = .slice A l.length c ∧ Reads W W.heap.size 2 A l.length (rc idR l) ∧ l.length ≤ 8796093022208) ∧ wx = W
theorem mark_at {W : World} {A : Option Addr} {ms : List MRow} (h : Reads W W.heap.size 1 A ms.length (rc mkR ms)) {k : Nat} (hk : k < ms.length) :
    ∃ b off, A = some ⟨b, off, none⟩ ∧ W.cell? ⟨b, off + k, none⟩ = some (.slice (gr mkR ms k).A (gr mkR ms k).l.length (gr mkR ms k).c) := by
  obtain ⟨b, off, hA, _, hc⟩ := Reads.elt (R := mkR) h hk
  have h0 := hc 0 _ rfl
  have e : off + k * mkR.sz + 0 = off + k := by show off + k * 1 + 0 = off + k; omega
  rw [e] at h0
  exact ⟨b, off, hA, h0⟩
theorem mark_is {W : World} {ms : List MRow} (h : ∀ x ∈ ms, IsMark W x) {k : Nat} (hk : k < ms.length) : MarkIs W (.slice (gr mkR ms k).A (gr mkR ms k).l.length (gr mkR ms k).c) W :=
  ⟨⟨_, _, _, rfl, (h _ (gr_mem hk)).1, (h _ (gr_mem hk)).2⟩, rfl⟩
theorem mark_nil (W : World) : MarkIs W (.slice none 0 0) W := ⟨⟨none, 0, [], rfl, Reads.none_, by simp⟩, rfl⟩
/-- a copy of the law's own: it lies between two heights -/
structure Own (t sz : Nat) (wl wh : World) (A : Option Addr) (c n : Nat) (xs : List Value) (w : World) : Prop where
  own : w.ownsRow 0 t sz (.slice A n c) n xs
  lo : ∀ k ∈ ob A, wl.heap.size ≤ k
  hi : ∀ k ∈ ob A, k < wh.heap.size
  up : wh.heap.size ≤ w.heap.size
theorem Own.below {t sz : Nat} {wl wh : World} {A : Option Addr} {c n : Nat} {xs : List Value} {w w' : World} (h : Own t sz wl wh A c n xs w) (hb : Below w.heap.size w w') : Own t sz wl wh A c n xs w' := ⟨(Kept.of_below (S := []) hb).own h.own (by simp), h.lo, h.hi, Nat.le_trans h.up hb.size⟩
theorem Own.mk' {t sz : Nat} {w u : World} {o : Obj} {A : Option Addr} {c n : Nat} {xs : List Value} (ho : u.ownsRow 0 t sz (.slice A n c) n xs) (hk : Kept (ob (some ⟨w.heap.size, 0, none⟩)) (w.alloc o) u) (hf : ∀ x ∈ ob A, x ∈ ob (some ⟨w.heap.size, 0, none⟩) ∨ (w.alloc o).heap.size ≤ x) :
    Own t sz w u A c n xs u ∧ Below w.heap.size w u :=
  ⟨⟨ho, fun k hk => (hf k hk).elim (fun h => by simp [ob] at h; omega) (fun h => by simp at h; omega), fun k hk => own_lt ho k hk, Nat.le_refl _⟩, hk.of_alloc.below (Nat.le_refl _) (by simp [ob])⟩
def RlRel (W : World) (d g : Nat) (i : Value) (wr : World) : Prop := ∃ (k : Nat) (q : Tb) (m n : TbM), i = .int .i64 k ∧ k ≤ 60 ∧ Bth W [] d g q m q n wr ∧ Sane (200 + k) q
theorem both_at {W u v1 v2 : World} {d g : Nat} {q : Tb} {m n : TbM} {T : List Nat} (h1 : Lay u v1 d q m 47) (h2 : Lay v1 v2 g q n 49) (hb : Below W.heap.size W u) (hg : Good q) (hf : q.held.length + q.wait.length ≤ 1000) (hm : q.prep.length ≤ 8796093022208 ∧ q.hurt.length ≤ 8796093022208) (hT : ∀ k ∈ T, k < u.heap.size) : Bth W T d g q m q n v2 := by
  have e1 := hb.size
  have e2 := h1.bel.size
  have e3 := h2.bel.size
  refine ⟨((h1.tb hf hm).good hg).below h2.bel, h2.rf hf hm, fun k hk hk2 => ?_, fun k hk => Nat.le_trans e1 (h1.new k hk), fun k hk => Nat.le_trans (by omega) (h2.new k hk), fun k hk => ⟨⟨fun hm => ?_, fun hm => ?_⟩, ?_⟩, hb.trans ((h1.bel.trans (h2.bel.mono e2)).mono e1)⟩
  · have := h1.lt k hk; have := h2.new k hk2; omega
  · have := h1.new k hm; have := hT k hk; omega
  · have := h2.new k hm; have := hT k hk; omega
  · have := hT k hk; omega
set_option maxHeartbeats 16000000 in
set_option maxRecDepth 100000 in
theorem locksRestores_any (most : Int) (Ah Aw Am Ao : Option Addr) (ch cw cm co : Nat) (H W : List Lk) (ms : List MRow) (os : List LOp) (W0 : World) (hH : Reads W0 W0.heap.size 4 Ah H.length (rc lkR H)) (hW : Reads W0 W0.heap.size 4 Aw W.length (rc lkR W))
    (hM : Reads W0 W0.heap.size 1 Am ms.length (rc mkR ms)) (hms : ∀ x ∈ ms, IsMark W0 x) (hO : Reads W0 W0.heap.size 5 Ao os.length (rc opR os)) :
    Calls Tryz.prog 4 #[.int .i64 most, .slice Ah H.length ch, .slice Aw W.length cw, .slice Am ms.length cm, .slice Ao os.length co] W0 fun e w' => e = .returned (.bool true) ∧ Below W0.heap.size W0 w' := by
  have HH := Lib.hid hH
  have HW := Lib.hid hW
  have HM := Lib.hid hM
  have HMS := Lib.hid hms
  have HO := Lib.hid hO
  clear hH hW hM hms hO
  go_enter Tryz.func4, Tryz.ntmps4
  by_cases hg : H.length ≤ 100 ∧ W.length ≤ 100
  · obtain ⟨hg1, hg2⟩ := hg
    have z1 : ¬ (100 : Int) < (H.length : Int) := by omega
    have z2 : ¬ (100 : Int) < (W.length : Int) := by omega
    have z3 : ¬ 100 < H.length := by omega
    have z4 : ¬ 100 < W.length := by omega
    go_upto_if 32 with fail
    clear z1 z2 z3 z4
    go_cut [11] (fun s wx => MarkIs W0 s wx)
    case first =>
      by_cases h0 : 0 < ms.length
      · obtain ⟨b, off, rfl, y0⟩ := mark_at HM.out h0
        have HX := Lib.hid (mark_is HMS.out h0)
        rw [Nat.add_zero] at y0
        obtain ⟨x, hx⟩ : ∃ x, x = gr mkR ms 0 := ⟨_, rfl⟩
        rw [← hx] at y0 HX
        clear hx
        have z1 : (0 : Int) < (ms.length : Int) := by omega
        go_wp2
        go_meet
        exact HX.out
      · have z1 : ¬ (0 : Int) < (ms.length : Int) := by omega
        go_wp2
        go_meet
        exact mark_nil W0
    case rest =>
      obtain ⟨⟨Ap, cp, P, rfl, hp, hpl⟩, hwx⟩ := hcut
      have hw2 := hwx.symm
      clear hwx
      subst hw2
      have HP := Lib.hid hp
      clear hp
      go_upto_if 38 with fail
      go_cut [12] (fun s wx => MarkIs W0 s wx)
      case first =>
        by_cases h1 : 1 < ms.length
        · obtain ⟨b, off, rfl, y0⟩ := mark_at HM.out h1
          have HX := Lib.hid (mark_is HMS.out h1)
          obtain ⟨x, hx⟩ : ∃ x, x = gr mkR ms 1 := ⟨_, rfl⟩
          rw [← hx] at y0 HX
          clear hx
          have z1 : (1 : Int) < (ms.length : Int) := by omega
          go_wp2
          go_meet
          exact HX.out
        · have z1 : ¬ (1 : Int) < (ms.length : Int) := by omega
          go_wp2
          go_meet
          exact mark_nil W0
      case rest =>
        obtain ⟨⟨Au, cu, U, rfl, hu, hul⟩, hwx⟩ := hcut
        have hw2 := hwx.symm
        clear hwx
        subst hw2
        have HU := Lib.hid hu
        clear hu
        obtain ⟨iL, hiL, hzL, hyL, hxL⟩ := info_parts Tryz.infoLk
        obtain ⟨iI, hiI, hzI, hyI, hxI⟩ := info_parts Tryz.infoId
        go_upto_region 9 with (first | (at_builtin; refine wpList_app rfl (.tmp 42) (.tmp 43) 34 34 rfl 62 iL _ 4 40 Tryz.underlying34 hiL hzL hyL hxL rfl (by omega) (some ⟨W0.heap.size, 0, none⟩) 0 0 [] rfl (World.ownsRow_made W0 #[] 0 (Nat.zero_le _) (by simp [maxLen]) rfl) _ H.length (rc lkR H) rfl (Src.ofReads Tryz.underlying34 (HH.out.alloc (Nat.le_refl _) _) (rc_one _)) (by simp only [maxLen]; omega) (by omega) ?_; intro A1 k1 u1 ho_ hk_ hf_; rw [Nat.zero_add, List.nil_append] at ho_; obtain ⟨ho2_, hb2_⟩ := Own.mk' ho_ hk_ hf_; have HO1 := Lib.hid ho2_; have HB1 := Lib.hid hb2_; clear ho_ hk_ hf_ ho2_ hb2_) | (at_builtin; refine wpList_app rfl (.tmp 45) (.tmp 46) 34 34 rfl 62 iL _ 4 40 Tryz.underlying34 hiL hzL hyL hxL rfl (by omega) (some ⟨u1.heap.size, 0, none⟩) 0 0 [] rfl (World.ownsRow_made u1 #[] 0 (Nat.zero_le _) (by simp [maxLen]) rfl) _ W.length (rc lkR W) rfl (Src.ofReads Tryz.underlying34 ((HW.out.below HB1.out).alloc HB1.out.size _) (rc_one _)) (by simp only [maxLen]; omega) (by omega) ?_; intro A2 k2 u2 ho_ hk_ hf_; rw [Nat.zero_add, List.nil_append] at ho_; obtain ⟨ho2_, hb2_⟩ := Own.mk' ho_ hk_ hf_; have HO2 := Lib.hid ho2_; have HB2 := Lib.hid hb2_; clear ho_ hk_ hf_ ho2_ hb2_))
        have HB2' := Lib.hid (HB1.out.trans (HB2.out.mono HB1.out.size))
        go_upto_region 10 with (first | (at_builtin; refine wpList_app rfl (.tmp 48) (.tmp 49) 36 36 rfl 29 iI _ 2 16 Tryz.underlying36 hiI hzI hyI hxI rfl (by omega) (some ⟨u2.heap.size, 0, none⟩) 0 0 [] rfl (World.ownsRow_made u2 #[] 0 (Nat.zero_le _) (by simp [maxLen]) rfl) _ P.length (rc idR P) rfl (Src.ofReads Tryz.underlying36 ((HP.out.below HB2'.out).alloc HB2'.out.size _) (rc_one _)) (by simp only [maxLen]; omega) (by omega) ?_; intro A3 k3 u3 ho_ hk_ hf_; rw [Nat.zero_add, List.nil_append] at ho_; obtain ⟨ho2_, hb2_⟩ := Own.mk' ho_ hk_ hf_; have HO3 := Lib.hid ho2_; have HB3 := Lib.hid hb2_; clear ho_ hk_ hf_ ho2_ hb2_) | (at_builtin; refine wpList_app rfl (.tmp 51) (.tmp 52) 36 36 rfl 29 iI _ 2 16 Tryz.underlying36 hiI hzI hyI hxI rfl (by omega) (some ⟨u3.heap.size, 0, none⟩) 0 0 [] rfl (World.ownsRow_made u3 #[] 0 (Nat.zero_le _) (by simp [maxLen]) rfl) _ U.length (rc idR U) rfl (Src.ofReads Tryz.underlying36 ((HU.out.below (HB2'.out.trans (HB3.out.mono HB2'.out.size))).alloc (HB2'.out.trans (HB3.out.mono HB2'.out.size)).size _) (rc_one _)) (by simp only [maxLen]; omega) (by omega) ?_; intro A4 k4 u4 ho_ hk_ hf_; rw [Nat.zero_add, List.nil_append] at ho_; obtain ⟨ho2_, hb2_⟩ := Own.mk' ho_ hk_ hf_; have HO4 := Lib.hid ho2_; have HB4 := Lib.hid hb2_; clear ho_ hk_ hf_ ho2_ hb2_))
        clear hiL hzL hyL hxL hiI hzI hyI hxI
        have HB4' : Hid (Below W0.heap.size W0 u4) := Lib.hid ((HB2'.out.trans (HB3.out.mono HB2'.out.size)).trans (HB4.out.mono (HB2'.out.trans (HB3.out.mono HB2'.out.size)).size))
        have HA1 := Lib.hid (((HO1.out.below HB2.out).below HB3.out).below HB4.out)
        have HA2 := Lib.hid ((HO2.out.below HB3.out).below HB4.out)
        have HA3 := Lib.hid (HO3.out.below HB4.out)
        have HA4 := HO4
        have HSZ : Hid (W0.heap.size ≤ u1.heap.size ∧ u1.heap.size ≤ u2.heap.size ∧ u2.heap.size ≤ u3.heap.size ∧ u3.heap.size ≤ u4.heap.size) := Lib.hid ⟨HB1.out.size, HB2.out.size, HB3.out.size, HB4.out.size⟩
        clear HO1 HO2 HO3 HO4 HB1 HB2 HB3 HB4 HB2'
        obtain ⟨q, hq⟩ : ∃ q : Tb, q = ⟨max 0 most, H, W, P, U⟩ := ⟨_, rfl⟩
        have HR1 := Lib.hid (restore_any most A1 A2 A3 A4 k1 k2 k3 k4 H W P U u4 (Reads.of_own HA1.out.own) (Reads.of_own HA2.out.own) (Reads.of_own HA3.out.own) (Reads.of_own HA4.out.own) (by omega) ⟨hpl, hul⟩)
        have HR2 := Lib.hid (fun v1 (hb : Below W0.heap.size W0 v1) => rrestore_any most Ah Aw Ap Au ch cw cp cu H W P U v1 ((HH.out.below hb).more hb.size) ((HW.out.below hb).more hb.size) ((HP.out.below hb).more hb.size) ((HU.out.below hb).more hb.size) (by omega) ⟨hpl, hul⟩)
        rw [← hq] at HR1 HR2
        rw [← both_say q] at HR2
        obtain ⟨OK, hok⟩ : ∃ OK, OK = (listsB q && fitsB q) := ⟨_, rfl⟩
        rw [← hok] at HR1 HR2
        have HQH : Hid (q.held.length = H.length ∧ q.wait.length = W.length ∧ q.prep.length = P.length ∧ q.hurt.length = U.length) := Lib.hid (by rw [hq]; exact ⟨rfl, rfl, rfl, rfl⟩)
        have HOK := Lib.hid hok
        clear hq hok
        by_cases hz : rstE OK q = 0
        ·
          have HE1 : Hid (∀ t w e w', RstEnds OK q t w e w' → ∃ d m, e = .returned (.tuple #[.pointer (some ⟨d, 0, none⟩), .int .i64 0]) ∧ Lay w w' d q m t) := Lib.hid (fun t w e w' h => h.2.elim (fun h => absurd hz h.1) (fun h => h.2))
          have HSN : Hid (Sane 200 q) := Lib.hid (by
            have h1 : (listsB q && fitsB q) = true := by
              rw [← HOK.out]
              cases hO : OK with
              | true => rfl
              | false => rw [hO, rst6] at hz; exact absurd hz (by decide)
            exact ⟨inv_of h1, by have := HQH.out; omega⟩)
          clear hz
          go_wp2_with fail
          refine HR1.out.mono ?_
          intro e v1 hr
          obtain ⟨d, m, rfl, hl1⟩ := HE1.out _ _ _ _ hr
          have HL1 := Lib.hid hl1
          have HV := Lib.hid hl1.bel
          clear hr hl1 HR1
          go_wp2_with fail
          refine (HR2.out v1 (HB4'.out.trans (HV.out.mono HB4'.out.size))).mono ?_
          intro e v2 hr
          obtain ⟨g, n, rfl, hl2⟩ := HE1.out _ _ _ _ hr
          have HL2 := Lib.hid hl2
          have HV0 := Lib.hid (HV.out.trans (hl2.bel.mono HV.out.size))
          clear hr hl2 HR2 HE1
          go_wp2_with fail
          refine (alikeL A1 Ah k1 ch _ _ H v2 (Reads.of_own (HA1.out.below HV0.out).own) (HH.out.below (HB4'.out.trans (HV0.out.mono HB4'.out.size))) (by omega)).mono ?_
          rintro e x1_ ⟨rfl, kk, rfl⟩
          have HV1 := Lib.hid (HV0.out.trans ((below_drewN (Below.refl v2.heap.size v2) kk).mono HV0.out.size))
          have HD1 := Lib.hid (below_drewN (Below.refl v2.heap.size v2) kk)
          obtain ⟨x1, hx_⟩ : ∃ x1 : World, x1 = v2.drewN kk := ⟨_, rfl⟩
          rw [← hx_] at HV1 HD1
          rw [← hx_]
          clear hx_
          go_wp2_with fail
          refine (alikeL A2 Aw k2 cw _ _ W x1 (Reads.of_own (HA2.out.below HV1.out).own) (HW.out.below (HB4'.out.trans (HV1.out.mono HB4'.out.size))) (by omega)).mono ?_
          rintro e x2_ ⟨rfl, kk, rfl⟩
          have HV2 := Lib.hid (HV1.out.trans ((below_drewN (Below.refl x1.heap.size x1) kk).mono HV1.out.size))
          have HD2 := Lib.hid (below_drewN (Below.refl x1.heap.size x1) kk)
          obtain ⟨x2, hx_⟩ : ∃ x2 : World, x2 = x1.drewN kk := ⟨_, rfl⟩
          rw [← hx_] at HV2 HD2
          rw [← hx_]
          clear hx_
          go_wp2_with fail
          refine (alikeI A3 Ap k3 cp _ _ P x2 (Reads.of_own (HA3.out.below HV2.out).own) (HP.out.below (HB4'.out.trans (HV2.out.mono HB4'.out.size))) (by omega)).mono ?_
          rintro e x3_ ⟨rfl, kk, rfl⟩
          have HV3 := Lib.hid (HV2.out.trans ((below_drewN (Below.refl x2.heap.size x2) kk).mono HV2.out.size))
          have HD3 := Lib.hid (below_drewN (Below.refl x2.heap.size x2) kk)
          obtain ⟨x3, hx_⟩ : ∃ x3 : World, x3 = x2.drewN kk := ⟨_, rfl⟩
          rw [← hx_] at HV3 HD3
          rw [← hx_]
          clear hx_
          go_wp2_with fail
          refine (alikeI A4 Au k4 cu _ _ U x3 (Reads.of_own (HA4.out.below HV3.out).own) (HU.out.below (HB4'.out.trans (HV3.out.mono HB4'.out.size))) (by omega)).mono ?_
          rintro e x4_ ⟨rfl, kk, rfl⟩
          have HV4 := Lib.hid (HV3.out.trans ((below_drewN (Below.refl x3.heap.size x3) kk).mono HV3.out.size))
          have HD4 := Lib.hid (below_drewN (Below.refl x3.heap.size x3) kk)
          obtain ⟨x4, hx_⟩ : ∃ x4 : World, x4 = x3.drewN kk := ⟨_, rfl⟩
          rw [← hx_] at HV4 HD4
          rw [← hx_]
          clear hx_
          have HX0 : Hid (Bth W0 (ob A1 ++ (ob A2 ++ (ob A3 ++ ob A4))) d g q m q n v2) := Lib.hid (both_at HL1.out HL2.out HB4'.out HSN.out.inv.mid.good (by have := HQH.out; omega) (by have := HQH.out; omega) (fun k hk => by
            have hs := HSZ.out
            simp only [List.mem_append] at hk
            rcases hk with hk | hk | hk | hk
            · have := HA1.out.hi k hk; omega
            · have := HA2.out.hi k hk; omega
            · have := HA3.out.hi k hk; omega
            · have := HA4.out.hi k hk; omega))
          have HX4 := Lib.hid ((((HX0.out.below HD1.out).below HD2.out).below HD3.out).below HD4.out)
          have HC1 := Lib.hid (HA1.out.below HV4.out)
          have HC2 := Lib.hid (HA2.out.below HV4.out)
          have HC3 := Lib.hid (HA3.out.below HV4.out)
          have HC4 := Lib.hid (HA4.out.below HV4.out)
          have hpn : P.length ≤ 200 ∧ U.length ≤ 200 := by have := HSN.out.prep; have := HSN.out.hurt; have := HQH.out; omega
          have HSP := Lib.hid (spoil_any HC1.out.own HC3.out.own (World.ownsRow_nil x4 0 66 5) (by omega) (by omega) (by omega))
          clear HX0 HL1 HL2 HV HV0 HV1 HV2 HV3 HV4 HD1 HD2 HD3 HD4 HA1 HA2 HA3 HA4 HOK
          go_wp2_with fail
          refine HSP.out.mono ?_
          clear HSP
          rintro e x5 ⟨rfl, hk⟩
          have HX5 := Lib.hid (HX4.out.kept hk (fun k hm => by
            have hs := HSZ.out
            simp only [List.mem_append, ob_none, List.not_mem_nil, or_false] at hm ⊢
            rcases hm with hm | hm
            · exact ⟨.inl hm, HC1.out.lo k hm⟩
            · exact ⟨.inr (.inr (.inl hm)), by have := HC3.out.lo k hm; omega⟩))
          have HE2 := Lib.hid (hk.own HC2.out.own (fun k hg hm => by
            have h1 := HC2.out.lo k (ownBlock_mem.1 hg)
            have h2 := HC2.out.hi k (ownBlock_mem.1 hg)
            simp only [List.mem_append, ob_none, List.not_mem_nil, or_false] at hm
            rcases hm with hm | hm
            · have := HC1.out.hi k hm; omega
            · have := HC3.out.lo k hm; omega))
          have HE4 := Lib.hid (hk.own HC4.out.own (fun k hg hm => by
            have hs := HSZ.out
            have h1 := HC4.out.lo k (ownBlock_mem.1 hg)
            simp only [List.mem_append, ob_none, List.not_mem_nil, or_false] at hm
            rcases hm with hm | hm
            · have := HC1.out.hi k hm; omega
            · have := HC3.out.hi k hm; omega))
          have HSP := Lib.hid (spoil_any HE2.out HE4.out (World.ownsRow_nil x5 0 66 5) (by omega) (by omega) (by omega))
          clear hk HX4
          go_wp2_with fail
          refine HSP.out.mono ?_
          clear HSP
          rintro e x6 ⟨rfl, hk⟩
          have HX6 := Lib.hid (HX5.out.kept hk (fun k hm => by
            have hs := HSZ.out
            simp only [List.mem_append, ob_none, List.not_mem_nil, or_false] at hm ⊢
            rcases hm with hm | hm
            · exact ⟨.inr (.inl hm), by have := HC2.out.lo k hm; omega⟩
            · exact ⟨.inr (.inr (.inr hm)), by have := HC4.out.lo k hm; omega⟩))
          have HX7 : Hid (Bth W0 [] d g q m q n x6) := Lib.hid (HX6.out.less (by simp))
          have HSM := Lib.hid (same_any HX7.out.tb HX7.out.rf ⟨by have := HSN.out.prep; omega, by have := HSN.out.hurt; omega⟩)
          clear hk HX5 HX6 HE2 HE4 HC1 HC2 HC3 HC4 HSZ HB4' HQH hpn
          go_wp2_with fail
          refine HSM.out.mono ?_
          clear HSM
          rintro e x7 ⟨rfl, hb7⟩
          have HX8 := Lib.hid (HX7.out.below hb7)
          clear hb7 HX7
          go_wp2
          go_loopw [21] (RlRel W0 d g) (fun i _ => 60 - (intOf i).toNat)
          case atStart => exact ⟨0, q, m, n, rfl, by omega, HX8.out, HSN.out⟩
          case round =>
            clear HX8 HSN
            obtain ⟨kk, q, m, n, rfl, hk, hx, hs⟩ := hrel
            have HX := Lib.hid hx
            have HS := Lib.hid hs
            clear hx hs
            by_cases hgo : kk < os.length ∧ kk < 60
            · obtain ⟨hg1, hg2⟩ := hgo
              obtain ⟨bo, off, rfl, hbo, y0, y1, y2, y3, y4⟩ := rdO (HO.out.below HX.out.bel) hg1
              obtain ⟨o, ho⟩ : ∃ o, o = gr opR os kk := ⟨_, rfl⟩
              rw [← ho] at y0 y1 y2 y3 y4
              have kL : (0 : Int) ≤ (kk : Int) := by omega
              have kU : (kk : Int) < (os.length : Int) := by omega
              have k1 : (kk : Int) < 60 := by omega
              have HC := Lib.hid (act_any HX.out HS.out (by omega) o)
              unfold lopV at HC
              clear ho
              go_wp2_with fail
              refine HC.out.mono ?_
              clear HC
              rintro e w3 ⟨rfl, m', n', hx⟩
              have HX3 := Lib.hid hx
              have HS3 := Lib.hid (HS.out.step o)
              clear hx y0 y1 y2 y3 y4 HX HS
              go_wp2
              go_roundw
              case rel => exact ⟨kk + 1, _, m', n', by go_num, by omega, HX3.out, HS3.out⟩
              case measure => simp [intOf]; omega
            · have hz : decide (kk < os.length) = false ∨ (decide (kk < os.length) = true ∧ decide ((kk : Int) < 60) = false) := by
                by_cases h1 : kk < os.length
                · exact .inr ⟨decide_eq_true (by omega), decide_eq_false (by omega)⟩
                · exact .inl (decide_eq_false (by omega))
              clear hgo
              rcases hz with z1 | ⟨z1, z2⟩
              all_goals
                go_wp2
                go_ret
                exact ⟨rfl, HX.out.bel⟩
        ·
          have HE1 : Hid (∀ t w e w', RstEnds OK q t w e w' → e = .returned (.tuple #[.pointer none, .int .i64 (rstE OK q)]) ∧ Below w.heap.size w w') := Lib.hid (fun t w e w' h => ⟨h.2.elim (fun h => h.2) (fun h => absurd h.1 hz), h.1⟩)
          clear hz
          obtain ⟨E, hE⟩ : ∃ E, E = rstE OK q := ⟨_, rfl⟩
          rw [← hE] at HE1
          clear hE
          have zE : (E != E) = false := by simp
          have zE2 : decide (E = E) = true := by simp
          have zE3 : (E == E) = true := by simp
          go_wp2_with fail
          refine HR1.out.mono ?_
          intro e v1 hr
          obtain ⟨rfl, hb1⟩ := HE1.out _ _ _ _ hr
          have HV := Lib.hid hb1
          clear hr hb1 HR1
          go_wp2_with fail
          refine (HR2.out v1 (HB4'.out.trans (HV.out.mono HB4'.out.size))).mono ?_
          intro e v2 hr
          obtain ⟨rfl, hb2⟩ := HE1.out _ _ _ _ hr
          have HV0 := Lib.hid (HV.out.trans (hb2.mono HV.out.size))
          clear hr hb2 HR2 HE1
          go_wp2_with fail
          refine (alikeL A1 Ah k1 ch _ _ H v2 (Reads.of_own (HA1.out.below HV0.out).own) (HH.out.below (HB4'.out.trans (HV0.out.mono HB4'.out.size))) (by omega)).mono ?_
          rintro e x1_ ⟨rfl, kk, rfl⟩
          have HV1 := Lib.hid (HV0.out.trans ((below_drewN (Below.refl v2.heap.size v2) kk).mono HV0.out.size))
          have HD1 := Lib.hid (below_drewN (Below.refl v2.heap.size v2) kk)
          obtain ⟨x1, hx_⟩ : ∃ x1 : World, x1 = v2.drewN kk := ⟨_, rfl⟩
          rw [← hx_] at HV1 HD1
          rw [← hx_]
          clear hx_
          go_wp2_with fail
          refine (alikeL A2 Aw k2 cw _ _ W x1 (Reads.of_own (HA2.out.below HV1.out).own) (HW.out.below (HB4'.out.trans (HV1.out.mono HB4'.out.size))) (by omega)).mono ?_
          rintro e x2_ ⟨rfl, kk, rfl⟩
          have HV2 := Lib.hid (HV1.out.trans ((below_drewN (Below.refl x1.heap.size x1) kk).mono HV1.out.size))
          have HD2 := Lib.hid (below_drewN (Below.refl x1.heap.size x1) kk)
          obtain ⟨x2, hx_⟩ : ∃ x2 : World, x2 = x1.drewN kk := ⟨_, rfl⟩
          rw [← hx_] at HV2 HD2
          rw [← hx_]
          clear hx_
          go_wp2_with fail
          refine (alikeI A3 Ap k3 cp _ _ P x2 (Reads.of_own (HA3.out.below HV2.out).own) (HP.out.below (HB4'.out.trans (HV2.out.mono HB4'.out.size))) (by omega)).mono ?_
          rintro e x3_ ⟨rfl, kk, rfl⟩
          have HV3 := Lib.hid (HV2.out.trans ((below_drewN (Below.refl x2.heap.size x2) kk).mono HV2.out.size))
          have HD3 := Lib.hid (below_drewN (Below.refl x2.heap.size x2) kk)
          obtain ⟨x3, hx_⟩ : ∃ x3 : World, x3 = x2.drewN kk := ⟨_, rfl⟩
          rw [← hx_] at HV3 HD3
          rw [← hx_]
          clear hx_
          go_wp2_with fail
          refine (alikeI A4 Au k4 cu _ _ U x3 (Reads.of_own (HA4.out.below HV3.out).own) (HU.out.below (HB4'.out.trans (HV3.out.mono HB4'.out.size))) (by omega)).mono ?_
          rintro e x4_ ⟨rfl, kk, rfl⟩
          have HV4 := Lib.hid (HV3.out.trans ((below_drewN (Below.refl x3.heap.size x3) kk).mono HV3.out.size))
          have HD4 := Lib.hid (below_drewN (Below.refl x3.heap.size x3) kk)
          obtain ⟨x4, hx_⟩ : ∃ x4 : World, x4 = x3.drewN kk := ⟨_, rfl⟩
          rw [← hx_] at HV4 HD4
          rw [← hx_]
          clear hx_
          go_wp2
          go_ret
          exact ⟨rfl, HB4'.out.trans (HV4.out.mono HB4'.out.size)⟩
  · by_cases h1 : H.length ≤ 100
    · have z1 : ¬ (100 : Int) < (H.length : Int) := by omega
      have z2 : (100 : Int) < (W.length : Int) := by omega
      have z3 : ¬ 100 < H.length := by omega
      have z4 : 100 < W.length := by omega
      go_wp2
      go_ret
      exact ⟨rfl, Below.refl _ _⟩
    · have z1 : (100 : Int) < (H.length : Int) := by omega
      have z3 : 100 < H.length := by omega
      go_wp2
      go_ret
      exact ⟨rfl, Below.refl _ _⟩
end Go.Proofs.YtpidpdbjjdkhoaaGreat
