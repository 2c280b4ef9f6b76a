/- Layer 12: the reference's Group, and the law DirNews. -/
import Derived.Test.YthenjpenfemmbaaDrE
namespace Go.Proofs.Ythenjpenfemmbaa
open Go.RowKit
set_option linter.unusedSimpArgs false
set_option linter.unusedVariables false

def RGrpRel (L : List ByteArray) (s : ByteArray) (w : World) (A : Option Addr) (c b0 : Nat) (g i : Value) (wr : World) : Prop :=
  ∃ k : Nat, i = .int .i64 k ∧ k ≤ L.length ∧ g = .int .i64 (cntE (L.take k) s : Nat) ∧ Blk wr b0 28 #[.slice A L.length c] ∧ Below w.heap.size w wr
set_option maxHeartbeats 4000000 in
set_option maxRecDepth 100000 in
theorem rgroup_any (A : Option Addr) (c B : Nat) (L : List ByteArray) (s : ByteArray) (w : World) (hr : Reads w B 1 A L.length (sc L)) (hB : B ≤ w.heap.size) (hfew : L.length < 8) :
    Calls Try.prog 13 #[.agg #[.slice A L.length c], .string s] w fun e w' => e = .returned (.int .i64 (grp L s)) ∧ Below w.heap.size w w' := by
  cases hk : keyB s with
  | false =>
    have HG := Lib.hid (show grp L s = -1 by unfold grp; rw [hk]; rfl)
    have HK := fun w => rkey_false s w hk
    clear hk
    go_enter Try.func13, Try.ntmps13
    go_wp2_with (go_at_call 17; refine (HK _).mono ?_; rintro e w' ⟨rfl, rfl⟩)
    go_ret
    exact ⟨by rw [HG.out]; rfl, (Below.refl _ _).alloc (Nat.le_refl _) _⟩
  | true =>
    have HG := Lib.hid (show grp L s = (cntE L s : Int) by unfold grp; rw [hk]; rfl)
    have HK := fun w => rkey_true s w hk
    clear hk
    have hb0 : Below w.heap.size w (w.alloc (.cells #[.slice A L.length c] 28)) := (Below.refl _ _).alloc (Nat.le_refl _) _
    have hx0 : Blk (w.alloc (.cells #[.slice A L.length c] 28)) w.heap.size 28 #[.slice A L.length c] := Blk.new _ _ _
    go_enter Try.func13, Try.ntmps13
    go_wp2_with (go_at_call 17; refine (HK _).mono ?_; rintro e w' ⟨rfl, rfl⟩)
    obtain ⟨b0, hb00⟩ : ∃ b0, b0 = w.heap.size := ⟨_, rfl⟩
    rw [← hb00] at hx0 ⊢
    clear hb00 HK
    go_loopw [5, 6] (RGrpRel L s w A c b0) (fun _ i _ => L.length - (intOf i).toNat)
    case atStart => exact ⟨0, rfl, Nat.zero_le _, rfl, hx0, hb0⟩
    case round =>
      obtain ⟨k, rfl, hk, rfl, hx, hb⟩ := hrel
      clear hx0 hb0
      have c0 := hx.cell 0
      simp only [List.getElem?_toArray, List.getElem?_cons_zero] at c0
      have hcl : cntE (L.take k) s ≤ L.length := Nat.le_trans (cntE_le _ _) (by rw [List.length_take]; omega)
      by_cases hlt : k < L.length
      · obtain ⟨ad, rfl, hadB, hcell⟩ := (hr.below (hb.mono hB)).text hlt
        have hs := cnt_snoc L s k hlt
        cases hle : le (gx L k) s with
        | true =>
          have hq : (Op.bytesLess (gx L k).toList s.toList || (gx L k).toList == s.toList) = true := by rw [le_or]; exact hle
          rw [hle, if_pos rfl] at hs
          have HS := Lib.hid hs
          clear hs hle
          go_wp2
          go_roundw
          case rel => exact ⟨k + 1, by go_num, by omega, by rw [HS.out]; go_num, hx, hb⟩
          case measure => simp [intOf]; omega
        | false =>
          have hq : (Op.bytesLess (gx L k).toList s.toList || (gx L k).toList == s.toList) = false := by rw [le_or]; exact hle
          rw [hle, if_neg (by simp)] at hs
          have HS := Lib.hid hs
          clear hs hle
          go_wp2
          go_roundw
          case rel => exact ⟨k + 1, by go_num, by omega, by rw [HS.out]; go_num, hx, hb⟩
          case measure => simp [intOf]; omega
      · have HT := Lib.hid (show L.take k = L from List.take_of_length_le (by omega))
        go_wp2
        go_ret
        exact ⟨by rw [HG.out, HT.out]; rfl, hb⟩

theorem below_alloc (w : World) (o : Obj) : Below w.heap.size w (w.alloc o) := (Below.refl _ _).alloc (Nat.le_refl _) _
theorem dnew_no (A : Option Addr) (c B : Nat) (L : List ByteArray) (w : World) (hr : Reads w B 1 A L.length (sc L)) (hB : B ≤ w.heap.size) (hl : L.length ≤ 8796093022208) (hE : newE L ≠ 0) :
    Calls Try.prog 7 #[.slice A L.length c] w fun e w' => e = .returned (.tuple #[.pointer none, .int .i64 (newE L)]) ∧ Below w.heap.size w w' :=
  (dnew_any A c B L w hr hB hl).mono fun e w' ⟨hb, h⟩ => by
    rcases h with ⟨_, he⟩ | ⟨h0, _⟩
    · exact ⟨he, hb⟩
    · exact absurd h0 hE
/-- a directory is there -/
def DirOk (w : World) (L : List ByteArray) (e : Ending) (w' : World) : Prop :=
  ∃ d A c, e = .returned (.tuple #[.pointer (some ⟨d, 0, none⟩), .int .i64 0]) ∧ IsD w' d L A c ∧ Below w.heap.size w w' ∧ w.heap.size ≤ d ∧ ∀ k ∈ ob A, w.heap.size ≤ k
theorem dnew_ok (A : Option Addr) (c B : Nat) (L : List ByteArray) (w : World) (hr : Reads w B 1 A L.length (sc L)) (hB : B ≤ w.heap.size) (hl : L.length ≤ 8796093022208) (hE : newE L = 0) :
    Calls Try.prog 7 #[.slice A L.length c] w (DirOk w L) :=
  (dnew_any A c B L w hr hB hl).mono fun e w' ⟨hb, h⟩ => by
    rcases h with ⟨h0, _⟩ | ⟨_, d, A1, c1, he, hD, hd, hf⟩
    · exact absurd hE h0
    · exact ⟨d, A1, c1, he, hD, hb, hd, hf⟩
theorem rnew_no (A : Option Addr) (c B : Nat) (L : List ByteArray) (w : World) (hr : Reads w B 1 A L.length (sc L)) (hB : B ≤ w.heap.size) (hl : L.length ≤ 8796093022208) (hE : newE L ≠ 0) :
    Calls Try.prog 8 #[.slice A L.length c] w fun e w' => e = .returned (.tuple #[.agg #[.slice none 0 0], .int .i64 (newE L)]) ∧ Below w.heap.size w w' :=
  (rnew_any A c B L w hr hB hl).mono fun e w' ⟨hb, h⟩ => by
    rcases h with ⟨_, he⟩ | ⟨h0, _⟩
    · exact ⟨he, hb⟩
    · exact absurd h0 hE
def RefOk (w : World) (L : List ByteArray) (e : Ending) (w' : World) : Prop :=
  ∃ A c, e = .returned (.tuple #[.agg #[.slice A L.length c], .int .i64 0]) ∧ Reads w' w'.heap.size 1 A L.length (sc L) ∧ Below w.heap.size w w' ∧ ∀ k ∈ ob A, w.heap.size ≤ k
theorem rnew_ok (A : Option Addr) (c B : Nat) (L : List ByteArray) (w : World) (hr : Reads w B 1 A L.length (sc L)) (hB : B ≤ w.heap.size) (hl : L.length ≤ 8796093022208) (hE : newE L = 0) :
    Calls Try.prog 8 #[.slice A L.length c] w (RefOk w L) :=
  (rnew_any A c B L w hr hB hl).mono fun e w' ⟨hb, h⟩ => by
    rcases h with ⟨h0, _⟩ | ⟨_, A1, c1, he, hr1, hf⟩
    · exact absurd hE h0
    · exact ⟨A1, c1, he, hr1, hb, hf⟩

theorem Reads.far {w w' : World} {B size n : Nat} {A : Option Addr} {xs : List Value} {S : List Nat} (h : Reads w B size A n xs) (hk : Kept S w w') (hB : B ≤ w.heap.size) (ha : ∀ k ∈ ob A, k ∉ S) : Reads w' B size A n xs :=
  ⟨h.1, fun hn => by
    obtain ⟨ad, e, hb, hc⟩ := h.2 hn
    subst e
    exact ⟨ad, rfl, hb, fun j u hu => (hk.cell (p := ad.add j) (by rw [block_of_add]; omega) (by rw [block_of_add]; exact ha _ (by simp [ob]))).trans (hc j u hu)⟩⟩
theorem IsD.kept {w w' : World} {d c : Nat} {L : List ByteArray} {A : Option Addr} {S : List Nat} (h : IsD w d L A c) (hk : Kept S w w') (hd : d ∉ S) (ha : ∀ k ∈ ob A, k ∉ S) : IsD w' d L A c :=
  ⟨hk.blk h.blk hd, (h.row.far hk (Nat.le_refl _) ha).more hk.size⟩
/-- the law's own copy of the first keys, a dash behind -/
structure Own (w : World) (L : List ByteArray) (g c : Nat) (zs : List Value) : Prop where
  row : w.ownsRow 0 9 1 (.slice (some ⟨g, 0, none⟩) (L.length + 1) c) (L.length + 1) zs
def NewsRel (L : List ByteArray) (w0 : World) (g c : Nat) (i : Value) (wr : World) : Prop :=
  ∃ (k : Nat) (zs : List Value), i = .int .i64 k ∧ k ≤ L.length ∧ Own wr L g c zs ∧ (∀ j, k ≤ j → j < L.length → zs[j]? = some (.string (gx L j))) ∧ Kept [g] w0 wr
theorem sc_snoc (L : List ByteArray) (x : ByteArray) : sc L ++ [Value.string x] = sc (L ++ [x]) := by simp [sc]
def DASH : ByteArray := ⟨#[45]⟩
theorem own_at {L : List ByteArray} {x : ByteArray} {j : Nat} (h : j < L.length) : (sc (L ++ [x]))[j]? = some (.string (gx L j)) := by
  rw [← sc_snoc, List.getElem?_append_left (by rw [sc_len]; exact h)]
  exact gx_map h
theorem own_last {L : List ByteArray} {x : ByteArray} : (sc (L ++ [x]))[L.length]? = some (.string x) := by
  rw [← sc_snoc, List.getElem?_append_right (by rw [sc_len]; exact Nat.le_refl _), sc_len]
  simp
set_option maxHeartbeats 4000000 in
set_option maxRecDepth 100000 in
theorem news_any (A : Option Addr) (c : Nat) (L : List ByteArray) (s : ByteArray) (w : World) (hr : Reads w w.heap.size 1 A L.length (sc L)) (hl : L.length ≤ 8796093022200) :
    Calls Try.prog 3 #[.slice A L.length c, .string s] w fun e w' => e = .returned (.bool true) ∧ Below w.heap.size w w' := by
  obtain ⟨i0, hi0, hz0, hz1, hz2⟩ := info_parts Try.info9
  have e1 := Lib.hid (sc_snoc L DASH)
  have hd : DASH.toList = [45] := by rw [ByteArray.toList_eq]; rfl
  have hll : (L.length : Int) ≤ 8796093022200 := by omega
  go_enter Try.func3, Try.ntmps3
  go_wp2_with (first
    | (at_builtin; refine wpList_app rfl (.tmp 11) (.tmp 12) 22 22 rfl 9 i0 _ 1 16 Try.underlying22 hi0 hz0 hz1 hz2 rfl (by omega) (some ⟨w.heap.size, 0, none⟩) 0 0 [] rfl (World.ownsRow_made w #[] 0 (Nat.zero_le _) (by simp [maxLen]) rfl) _ L.length (sc L) rfl (Src.ofReads Try.underlying22 (hr.alloc (Nat.le_refl _) _) (sc_one _)) (by simp only [maxLen]; omega) (by omega) ?_; intro A1 k1 w1 hown1 hk1 hf1; rw [Nat.zero_add, List.nil_append] at hown1)
    | (at_builtin; refine wpList_app rfl (.tmp 13) (.tmp 14) 22 22 rfl 9 i0 _ 1 16 Try.underlying22 hi0 hz0 hz1 hz2 rfl (by omega) A1 L.length k1 (sc L) rfl (hown1.alloc _) _ 1 [.string DASH] rfl (Src.one1 Try.underlying22 _ _ rfl) (by simp only [maxLen]; omega) (by omega) ?_; intro A2 k2 w2 hown2 hk2 hf2; rw [e1.out] at hown2; obtain ⟨g, cap, hv, hg0, hgl⟩ := hown2.form (by omega); injection hv with hA _ hc; subst hA hc; have hcap := own_cap hown2; have hc1 : L.length + 1 ≤ k2 := hcap.1))
  have hb1 : Below w.heap.size w w1 := hk1.of_alloc.below (Nat.le_refl _) (by simp [ob])
  have hb2 : Below w.heap.size w w2 := hb1.trans (hk2.of_alloc.below hb1.size (fun x hx => (hf1 x hx).elim (fun h => by simp [ob] at h; omega) (fun h => by simp at h; omega)))
  have hrg : Reads w2 w2.heap.size 1 (some ⟨g, 0, none⟩) L.length (sc L) := by
    have := (Reads.of_own hown2).take (k := L.length) (by omega)
    rw [Nat.mul_one, ← e1.out, List.take_append_of_le_length (by rw [sc_len]; exact Nat.le_refl _), List.take_of_length_le (by rw [sc_len]; exact Nat.le_refl _)] at this
    exact this
  have hgw : w.heap.size ≤ g := (hf2 g (by simp [ob])).elim (fun h => (hf1 g h).elim (fun h => by simp [ob] at h; omega) (fun h => by simp at h; omega)) (fun h => by have := hb1.size; simp at h; omega)
  clear hown1 hk1 hf1 hk2 hf2 hcap hb1
  by_cases hE : newE L = 0
  · have H := Lib.hid hE
    have hRi := newE_zero hE
    clear hE
    refine (dnew_ok (some ⟨g, 0, none⟩) k2 w2.heap.size L w2 hrg (Nat.le_refl _) (by omega) H.out).mono ?_
    rintro e w3 ⟨d, Ad, cd, rfl, hD3, hb3, hdn, hdf⟩
    have hb3' := hb2.trans (hb3.mono hb2.size)
    go_wp2_with fail
    refine (rnew_ok A c w.heap.size L w3 (hr.below hb3') hb3'.size (by omega) H.out).mono ?_
    rintro e w4 ⟨Am, cm, rfl, hm4, hb4, hmf⟩
    have hb4' := hb3'.trans (hb4.mono hb3'.size)
    have hown4 := (Kept.of_below (S := []) hb4).own ((Kept.of_below (S := []) hb3).own hown2 (by simp)) (by simp)
    have hD4 := hD3.below hb4
    have hD5 := hD4.below (below_alloc w4 (.cells #[.slice Am L.length cm] 28))
    have hown5 := hown4.alloc (.cells #[.slice Am L.length cm] 28)
    have hm5 := (hm4.alloc (Nat.le_refl _) (.cells #[.slice Am L.length cm] 28)).more (B' := (w4.alloc (.cells #[.slice Am L.length cm] 28)).heap.size) (by simp)
    have hM5 := Blk.new w4 28 #[.slice Am L.length cm]
    have hb5' := hb4'.alloc hb4'.size (.cells #[.slice Am L.length cm] 28)
    have hr5 := hr.below hb5'
    have hmg : w4.heap.size ≠ g := by have := hb3.size; have := hb4.size; omega
    have hdg : d ≠ g := by omega
    have hag : ∀ k ∈ ob Ad, k ∉ [g] := fun k hk => by have := hdf k hk; simp; omega
    have hamg : ∀ k ∈ ob Am, k ∉ [g] := fun k hk => by have := hmf k hk; have := hb3.size; simp; omega
    have hfew := hRi.few
    have hcl := (hown5.cellAt L.length (by omega)).trans own_last
    clear hD3 hD4 hm4 hown2 hown4 hb2 hb3 hb4 hb3' hrg hb4' hdn hdf hmf e1
    have k0 : (0 : Int) ≤ (L.length : Int) := by omega
    go_wp2_with (go_at_call 9; refine (num_any _ _).mono ?_; rintro e w' ⟨rfl, rfl⟩)
    obtain ⟨m0, hm0⟩ : ∃ m0, m0 = w4.heap.size := ⟨_, rfl⟩
    rw [← hm0] at hM5 hmg ⊢
    clear hm0
    generalize w4.alloc (.cells #[.slice Am L.length cm] 28) = w5 at *
    go_loopw [10] (NewsRel L w5 g k2) (fun i _ => L.length - (intOf i).toNat)
    case atStart => exact ⟨0, _, rfl, Nat.zero_le _, ⟨hown5⟩, fun j _ hj => own_at hj, Kept.refl _ _⟩
    case round =>
      obtain ⟨k, zs, rfl, hk, ⟨hown⟩, hz, hkp⟩ := hrel
      clear hown5 hcl
      have hbw := hb5'.trans (hkp.below hb5'.size (by simpa using hgw))
      by_cases hlt : k < L.length
      · obtain ⟨ad, rfl, hadB, hcell⟩ := (hr.below hbw).text hlt
        have x1 := (hown.cellAt k (by omega)).trans (hz k (Nat.le_refl _) hlt)
        have x2 := hown.frozenAt k
        have kL : (0 : Int) ≤ (k : Int) := by omega
        have kU : (k : Int) < (L.length : Int) := by omega
        have kV : (k : Int) < (L.length : Int) + 1 := by omega
        have HZ := Lib.hid hz
        clear hz
        go_wp2
        go_quiet (fail)
        go_wp2
        obtain ⟨hst, _⟩ := (((Kept.refl [] wr).drewN nq).own hown (by simp)).stored k (.string ⟨#[115, 112, 111, 105, 108, 116]⟩)
        go_roundw
        case rel => exact ⟨k + 1, _, by go_num, by omega, ⟨hst⟩, fun j h1 h2 => by rw [List.getElem?_set_ne (by omega)]; exact HZ.out j (by omega) h2, (hkp.drewN nq).setCell _ (.inl (by simp))⟩
        case measure => simp [intOf]; omega
      · have hDw := hD5.kept hkp (by simpa using hdg) hag
        have hMw := hkp.blk hM5 (by simpa using hmg)
        have hmw := (hm5.far hkp (Nat.le_refl _) hamg).more hkp.size
        have m0c := hMw.cell 0
        simp only [List.getElem?_toArray, List.getElem?_cons_zero] at m0c
        have hbe := hbw
        clear hD5 hM5 hm5 hr5 hz hown hkp hbw hb5'
        go_wp2
        go_region_held3 (fun w' => w'.cell? ⟨m0, 0, none⟩ = some (.slice Am L.length cm)) (first | go_keep)
          (first
            | (go_at_call 10; refine (groups_any d Ad cd L _ (hDw.drewN 1) hfew).mono ?_; rintro e w' ⟨rfl, rfl⟩; dsimp only)
            | (go_at_call 11; refine (rgroups_any Am cm L _ hfew).mono ?_; rintro e w6 ⟨rfl, hb6⟩; have m6 := ((hMw.drewN 1).below hb6 (hMw.drewN 1).lt).cell 0; simp only [List.getElem?_toArray, List.getElem?_cons_zero] at m6; dsimp only)
            | (go_at_call 12; refine (group_any d Ad cd L s _ ((hDw.drewN 1).below hb6) hRi).mono ?_; rintro e w' ⟨rfl, rfl⟩; dsimp only)
            | (go_at_call 13; refine (rgroup_any Am cm _ L s w6 ((hmw.drewN 1).below hb6) hb6.size hfew).mono ?_; rintro e w7 ⟨rfl, hb7⟩; have m7 := (((hMw.drewN 1).below hb6 (hMw.drewN 1).lt).below hb7 ((hMw.drewN 1).below hb6 (hMw.drewN 1).lt).lt).cell 0; simp only [List.getElem?_toArray, List.getElem?_cons_zero] at m7; dsimp only))
        go_wp2
        go_ret
        refine ⟨ret_bool (by simp), ?_⟩
        exact (below_drewN hbe 1).trans ((hb6.mono hbe.size).trans (hb7.mono (Nat.le_trans hbe.size hb6.size)))
  · have hx0 : (newE L == 0) = false := beq_eq_false_iff_ne.2 hE
    have hx1 : (newE L != 0) = true := by simp [hE]
    have HN := Lib.hid (dnew_no (some ⟨g, 0, none⟩) k2 w2.heap.size L w2 hrg (Nat.le_refl _) (by omega) hE)
    have HR := Lib.hid (fun w3 (hb3' : Below w.heap.size w w3) => rnew_no A c w.heap.size L w3 (hr.below hb3') hb3'.size (by omega) hE)
    generalize newE L = x at *
    refine HN.out.mono ?_
    clear HN
    rintro e w3 ⟨rfl, hb3⟩
    have hb3' := hb2.trans (hb3.mono hb2.size)
    go_wp2_with fail
    refine (HR.out w3 hb3').mono ?_
    clear HR
    rintro e w4 ⟨rfl, hb4⟩
    have hb4' := hb3'.trans (hb4.mono hb3'.size)
    have hown4 := (Kept.of_below (S := []) hb4).own ((Kept.of_below (S := []) hb3).own hown2 (by simp)) (by simp)
    have hown5 := hown4.alloc (.cells #[.slice none 0 0] 28)
    have hb5' := hb4'.alloc hb4'.size (.cells #[.slice none 0 0] 28)
    have hcl := (hown5.cellAt L.length (by omega)).trans own_last
    clear hown2 hown4 hb2 hb3 hb4 hb3' hrg hb4' e1 hE
    have k0 : (0 : Int) ≤ (L.length : Int) := by omega
    go_wp2_with (go_at_call 9; refine (num_any _ _).mono ?_; rintro e w' ⟨rfl, rfl⟩)
    generalize w4.alloc (.cells #[.slice none 0 0] 28) = w5 at *
    go_loopw [10] (NewsRel L w5 g k2) (fun i _ => L.length - (intOf i).toNat)
    case atStart => exact ⟨0, _, rfl, Nat.zero_le _, ⟨hown5⟩, fun j _ hj => own_at hj, Kept.refl _ _⟩
    case round =>
      obtain ⟨k, zs, rfl, hk, ⟨hown⟩, hz, hkp⟩ := hrel
      clear hown5 hcl
      have hbw := hb5'.trans (hkp.below hb5'.size (by simpa using hgw))
      by_cases hlt : k < L.length
      · obtain ⟨ad, rfl, hadB, hcell⟩ := (hr.below hbw).text hlt
        have x1 := (hown.cellAt k (by omega)).trans (hz k (Nat.le_refl _) hlt)
        have x2 := hown.frozenAt k
        have kL : (0 : Int) ≤ (k : Int) := by omega
        have kU : (k : Int) < (L.length : Int) := by omega
        have kV : (k : Int) < (L.length : Int) + 1 := by omega
        have HZ := Lib.hid hz
        clear hz
        go_wp2
        go_quiet (fail)
        go_wp2
        obtain ⟨hst, _⟩ := (((Kept.refl [] wr).drewN nq).own hown (by simp)).stored k (.string ⟨#[115, 112, 111, 105, 108, 116]⟩)
        go_roundw
        case rel => exact ⟨k + 1, _, by go_num, by omega, ⟨hst⟩, fun j h1 h2 => by rw [List.getElem?_set_ne (by omega)]; exact HZ.out j (by omega) h2, (hkp.drewN nq).setCell _ (.inl (by simp))⟩
        case measure => simp [intOf]; omega
      · have hbe := hbw
        clear hz hown hkp hbw hb5'
        go_wp2
        go_quiet (fail)
        go_wp2
        go_ret
        exact ⟨rfl, below_drewN hbe _⟩
end Go.Proofs.Ythenjpenfemmbaa
