/- Layer 12: Share, of the program and of the reference. -/
import Derived.Test.YthenjpenfemmbaaDsE
import Derived.Deep.RegionHeld3
namespace Go.Proofs.Ythenjpenfemmbaa
open Go.RowKit
set_option linter.unusedSimpArgs false
set_option linter.unusedVariables false

/-- a group's share -/
def shr (L : List ByteArray) (g : Int) (l : List Wrt) : List Wrt := if g < 0 then [] else keepW (oth L g) l
theorem shr_len (L : List ByteArray) (g : Int) (l : List Wrt) : (shr L g l).length ≤ l.length := by
  unfold shr
  split
  · simp
  · exact List.length_filter_le _ _
def ShareEnds (L : List ByteArray) (g : Int) (l : List Wrt) (w : World) (e : Ending) (w' : World) : Prop :=
  ∃ A c, e = .returned (.slice A (shr L g l).length c) ∧ w'.ownsRow 0 45 3 (.slice A (shr L g l).length c) (shr L g l).length (wc (shr L g l)) ∧ Below w.heap.size w w' ∧ ∀ k ∈ ob A, w.heap.size ≤ k
set_option maxHeartbeats 2000000 in
theorem share_any (d : Nat) (L : List ByteArray) (A : Option Addr) (c : Nat) (g : Int) (A2 : Option Addr) (c2 : Nat) (l : List Wrt) (w : World) (hD : IsD w d L A c) (hRi : Rises L) (hr : Reads w w.heap.size 3 A2 l.length (wc l)) (hl : l.length ≤ 1000000) :
    Calls Try.prog 19 #[.pointer (some ⟨d, 0, none⟩), .slice A2 l.length c2, .int .i64 g] w (ShareEnds L g l w) := by
  have hb1 := below_alloc w (.cells #[.pointer (some ⟨d, 0, none⟩)] 23)
  have hx1 := Blk.new w 23 #[.pointer (some ⟨d, 0, none⟩)]
  have hb2 := hb1.alloc hb1.size (.cells #[.int .i64 g] 3)
  have hx1' := hx1.alloc (.cells #[.int .i64 g] 3)
  have hx2 := Blk.new (w.alloc (.cells #[.pointer (some ⟨d, 0, none⟩)] 23)) 3 #[.int .i64 g]
  rw [World.size_alloc] at hx2
  have hE : ShEnv ((w.alloc (.cells #[.pointer (some ⟨d, 0, none⟩)] 23)).alloc (.cells #[.int .i64 g] 3)) d L A c g w.heap.size (w.heap.size + 1) := ⟨hD.below hb2, hx1', hx2, hRi⟩
  have hr2 := (hr.below hb2)
  have hsz : w.heap.size ≤ ((w.alloc (.cells #[.pointer (some ⟨d, 0, none⟩)] 23)).alloc (.cells #[.int .i64 g] 3)).heap.size := hb2.size
  have y2 := hx2.cell 0
  simp only [List.getElem?_toArray, List.getElem?_cons_zero] at y2
  by_cases hg : g < 0
  · have hS := Lib.hid (show shr L g l = [] by unfold shr; rw [if_pos hg])
    have z1 : decide (g < 0) = true := decide_eq_true hg
    clear hE hr2
    go_enter Try.func19, Try.ntmps19
    go_wp2
    go_ret
    unfold ShareEnds
    rw [hS.out]
    exact ⟨none, 0, rfl, World.ownsRow_nil _ _ _ _, hb2, by simp [ob]⟩
  · have hS := Lib.hid (show shr L g l = keepW (oth L g) l by unfold shr; rw [if_neg hg])
    have z1 : decide (g < 0) = false := decide_eq_false hg
    go_enter Try.func19, Try.ntmps19
    go_wp2_with fail
    refine (wclone_any A2 c2 w.heap.size l _ hr2 hsz hl).mono ?_
    rintro e w3 ⟨A3, c3, rfl, hown3, hb3, hf3⟩
    have hE3 := hE.below hb3
    have hfar : ∀ k ∈ [d, w.heap.size, w.heap.size + 1], k ∉ ob A3 := by
      intro k hk hm
      have h1 := hf3 k hm
      simp only [World.size_alloc] at h1
      have hdl := hD.blk.lt
      simp at hk
      omega
    have hfar2 : 0 < L.length → ∀ k ∈ ob A, k ∉ ob A3 := by
      intro h0 k hk hm
      have h1 := hf3 k hm
      simp only [World.size_alloc] at h1
      obtain ⟨ad, hA, hb, _⟩ := hD.row.2 h0
      rw [hA] at hk
      simp [ob] at hk
      omega
    have hbe := hb2.trans (hb3.mono hb2.size)
    have hf3' : ∀ k ∈ ob A3, w.heap.size ≤ k := fun k hk => Nat.le_trans hsz (hf3 k hk)
    have HD := Lib.hid (wdelete_any w3 d L A c g _ _ hE3 A3 c3 l hown3 hfar hfar2 hl)
    clear hE hr2 y2 hfar hfar2
    go_wp2_with fail
    refine HD.out.mono ?_
    rintro e w4 ⟨rfl, hown4, hk4⟩
    go_wp2
    go_ret
    unfold ShareEnds
    rw [hS.out]
    exact ⟨A3, c3, rfl, hown4, hbe.trans (hk4.below hbe.size hf3'), hf3'⟩
end Go.Proofs.Ythenjpenfemmbaa
