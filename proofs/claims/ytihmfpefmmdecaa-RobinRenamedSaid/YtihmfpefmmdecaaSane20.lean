/- The chapter's examples, as layer 20's statements check them: true. -/
import Derived.Test.YtihmfpefmmdecaaMakeF
import Derived.Test.YtihmfpefmmdecaaCheckF
import Derived.Test.YtihmfpefmmdecaaList20
import Derived.Test.YtihmfpefmmdecaaAllx5
namespace Go.Proofs.Ytihmfpefmmdecaa.All
open Go.RowKit Go.Proofs Go.Sort Go.Proofs.YtihmfpefmmdecaaW.PrintWords Go.Proofs.YtihmfpefmmdecaaW.PrintLast

def l41 : List S36 := [⟨0, 0, 3⟩, ⟨0, 1, 2⟩, ⟨1, 2, 0⟩, ⟨1, 3, 1⟩, ⟨2, 0, 1⟩, ⟨2, 2, 3⟩]
def l22 : List S36 := [⟨0, 0, 1⟩, ⟨1, 1, 0⟩]
def l31 : List S36 := [⟨0, 1, 2⟩, ⟨1, 2, 0⟩, ⟨2, 0, 1⟩]
theorem e41 : makeF 4 1 = l41 := eqM_sound _ _ (by decide +kernel)
theorem e22 : makeF 2 2 = l22 := eqM_sound _ _ (by decide +kernel)
theorem e31 : makeF 3 1 = l31 := eqM_sound _ _ (by decide +kernel)
theorem ok23 : checkF 2 3 l22 = 0 := by
  unfold checkF
  rw [if_pos (by decide), if_pos (robinB_sound (by decide +kernel))]
theorem ok41 : checkF 4 1 l41 = 0 := by rw [← e41]; exact check_make (by decide)
theorem bad21 : checkF 2 1 [] = 200 := by
  unfold checkF
  rw [if_pos (by decide), if_neg]
  rintro ⟨_, _, _, h⟩
  revert h
  decide +kernel
theorem same41 : fastiref20_Same.f 10 l41 l41 = some true := by decide +kernel
theorem same22 : fastiref20_Same.f 10 l22 l22 = some true := by decide +kernel
theorem same31 : fastiref20_Same.f 10 l31 l31 = some true := by decide +kernel
theorem rounds51 : roundsF 5 1 = (5, 0) := by decide
theorem rounds43 : roundsF 4 3 = (6, 0) := by decide

set_option maxRecDepth 100000 in
set_option maxHeartbeats 8000000 in
theorem sane20_calls (w : World) : Calls Try.prog 15 #[] w fun e w' => e = .returned (.bool true) ∧ Below w.heap.size w w' := by
  have m41 := fun W => make_list 4 1 W (by decide)
  have m22 := fun W => make_list 2 2 W (by decide)
  have m31 := fun W => make_list 3 1 W (by decide)
  have m11 := fun W => make_no 1 1 W (by decide) (by decide) (by decide)
  have m45 := fun W => make_no 4 5 W (by decide) (by decide) (by decide)
  have r51 := fun W => rounds_calls 5 1 W (by decide) (by decide)
  have r43 := fun W => rounds_calls 4 3 W (by decide) (by decide)
  rw [e41] at m41
  rw [e22] at m22
  rw [e31] at m31
  rw [rounds51] at r51
  rw [rounds43] at r43
  have M := Lib.hid (And.intro m41 (And.intro m22 (And.intro m31 (And.intro m11 (And.intro m45 (And.intro r51 r43))))))
  clear m41 m22 m31 m11 m45 r51 r43
  go_enter Try.func15, Try.ntmps15
  go_wp2_with fail
  refine (M.out.1 _).mono ?_
  rintro e w1 ⟨A1, c1, rfl, hc1, hk1, _, hb1⟩
  have H1 := Lib.hid (And.intro hc1 (And.intro hk1 hb1))
  clear hc1 hk1 hb1
  go_wp2_with fail
  refine (M.out.2.1 _).mono ?_
  rintro e w2 ⟨A2, c2, rfl, hc2, hk2, _, hb2⟩
  have H2 := Lib.hid (And.intro hc2 (And.intro hk2 hb2))
  clear hc2 hk2 hb2
  go_wp2_with fail
  refine (M.out.2.2.1 _).mono ?_
  rintro e w3 ⟨A3, c3, rfl, hc3, hk3, _, hb3⟩
  have H3 := Lib.hid (And.intro hc3 (And.intro hk3 hb3))
  clear hc3 hk3 hb3
  go_wp2_with fail
  refine (M.out.2.2.2.1 _).mono ?_
  rintro e w4 ⟨rfl, hb4⟩
  have H4 := Lib.hid hb4
  clear hb4
  go_wp2_with fail
  refine (M.out.2.2.2.2.1 _).mono ?_
  rintro e w5 ⟨rfl, hb5⟩
  have H5 := Lib.hid hb5
  clear hb5
  go_wp2_with fail
  refine (M.out.2.2.2.2.2.1 _).mono ?_
  rintro e w6 ⟨rfl, hb6⟩
  have H6 := Lib.hid hb6
  clear hb6
  go_wp2_with fail
  refine (M.out.2.2.2.2.2.2 _).mono ?_
  rintro e w7 ⟨rfl, hb7⟩
  have b27 : Below w2.heap.size w2 w7 := (((H3.out.2.2.trans (H4.out.mono H3.out.2.2.size)).trans (H5.out.mono (Nat.le_trans H3.out.2.2.size H4.out.size))).trans (H6.out.mono (Nat.le_trans (Nat.le_trans H3.out.2.2.size H4.out.size) H5.out.size))).trans (hb7.mono (Nat.le_trans (Nat.le_trans (Nat.le_trans H3.out.2.2.size H4.out.size) H5.out.size) H6.out.size))
  have k1 : Kd.C k36 w7 A1 l41.length l41 := Kd.C_below H1.out.2.1 (H2.out.2.2.trans (b27.mono H2.out.2.2.size))
  have k2 : Kd.C k36 w7 A2 l22.length l22 := Kd.C_below H2.out.2.1 b27
  have k3 : Kd.C k36 w7 A3 l31.length l31 := Kd.C_below H3.out.2.1 (((H4.out.trans (H5.out.mono H4.out.size)).trans (H6.out.mono (Nat.le_trans H4.out.size H5.out.size))).trans (hb7.mono (Nat.le_trans (Nat.le_trans H4.out.size H5.out.size) H6.out.size)))
  have bw : Below w.heap.size w w7 := H1.out.2.2.trans ((H2.out.2.2.trans (b27.mono H2.out.2.2.size)).mono H1.out.2.2.size)
  have S := Lib.hid (And.intro k1 (And.intro k2 (And.intro k3 bw)))
  have H := Lib.hid (And.intro H1.out.1 (And.intro H2.out.1 H3.out.1))
  clear b27 k1 k2 k3 bw H1 H2 H3 H4 H5 H6 hb7 M
  go_wp2_with fail
  refine (robin_Check.calls 2 1 none 0 [] 200 w7 ⟨rfl, by decide, fun h => absurd h (Nat.lt_irrefl _)⟩ (Nat.le_refl _) (by unfold robin_Check.f; rw [if_pos (by decide), bad21])).mono ?_
  rintro e w8 ⟨rfl, hb8⟩
  have H8 := Lib.hid hb8
  clear hb8
  go_wp2_with fail
  refine (robin_Check.calls 4 1 A1 c1 l41 0 _ (Kd.C_below S.out.1 H8.out) H.out.1 (by unfold robin_Check.f; rw [if_pos (by decide), ok41])).mono ?_
  rintro e w9 ⟨rfl, hb9⟩
  have H9 := Lib.hid (H8.out.trans (hb9.mono H8.out.size))
  clear hb9 H8
  go_wp2_with fail
  refine (robin_Check.calls 2 3 A2 c2 l22 0 _ (Kd.C_below S.out.2.1 H9.out) H.out.2.1 (by unfold robin_Check.f; rw [if_pos (by decide), ok23])).mono ?_
  rintro e w10 ⟨rfl, hb10⟩
  have H10 := Lib.hid (H9.out.trans (hb10.mono H9.out.size))
  clear hb10 H9
  go_wp2_with fail
  refine (list_calls 6 (some ⟨w10.heap.size, 0, none⟩) l41 _ (by decide) (reads_block (World.alloc_heap_new w10 _) (by decide))).mono ?_
  rintro e w11 ⟨v, rfl, ho, hb11⟩
  obtain ⟨A, c, rfl, hc, hk⟩ := reads_own ho
  have hb := (H10.out.alloc H10.out.size _).trans (hb11.mono (Nat.le_trans H10.out.size (by simp)))
  have H11 := Lib.hid (And.intro hb (And.intro hc hk))
  clear hb hb11 ho hc hk H10
  go_wp2_with fail
  refine (fastiref20_Same.calls 10 A1 c1 l41 A c l41 true _ (Kd.C_below S.out.1 H11.out.1) H.out.1 H11.out.2.2 H11.out.2.1 same41).mono ?_
  rintro e w12 ⟨rfl, hd⟩
  have H12 := Lib.hid (H11.out.1.trans (hd.below.mono H11.out.1.size))
  clear hd H11
  go_wp2_with fail
  refine (list_calls 2 (some ⟨w12.heap.size, 0, none⟩) l22 _ (by decide) (reads_block (World.alloc_heap_new w12 _) (by decide))).mono ?_
  rintro e w13 ⟨v, rfl, ho, hb13⟩
  obtain ⟨B, d, rfl, hc, hk⟩ := reads_own ho
  have hb := (H12.out.alloc H12.out.size _).trans (hb13.mono (Nat.le_trans H12.out.size (by simp)))
  have H13 := Lib.hid (And.intro hb (And.intro hc hk))
  clear hb hb13 ho hc hk H12
  go_wp2_with fail
  refine (fastiref20_Same.calls 10 A2 c2 l22 B d l22 true _ (Kd.C_below S.out.2.1 H13.out.1) H.out.2.1 H13.out.2.2 H13.out.2.1 same22).mono ?_
  rintro e w14 ⟨rfl, hd⟩
  have H14 := Lib.hid (H13.out.1.trans (hd.below.mono H13.out.1.size))
  clear hd H13
  go_wp2_with fail
  refine (list_calls 3 (some ⟨w14.heap.size, 0, none⟩) l31 _ (by decide) (reads_block (World.alloc_heap_new w14 _) (by decide))).mono ?_
  rintro e w15 ⟨v, rfl, ho, hb15⟩
  obtain ⟨C, f, rfl, hc, hk⟩ := reads_own ho
  have hb := (H14.out.alloc H14.out.size _).trans (hb15.mono (Nat.le_trans H14.out.size (by simp)))
  have H15 := Lib.hid (And.intro hb (And.intro hc hk))
  clear hb hb15 ho hc hk H14
  go_wp2_with fail
  refine (fastiref20_Same.calls 10 A3 c3 l31 C f l31 true _ (Kd.C_below S.out.2.2.1 H15.out.1) H.out.2.2 H15.out.2.2 H15.out.2.1 same31).mono ?_
  rintro e w16 ⟨rfl, hd⟩
  have H16 := Lib.hid (H15.out.1.trans (hd.below.mono H15.out.1.size))
  clear hd H15
  go_wp2_with fail
  go_ret
  exact ⟨rfl, S.out.2.2.2.trans (H16.out.mono S.out.2.2.2.size)⟩
/-- The examples, as a function. -/
def fastilaw20_sane.f : Option Bool := some true
theorem fastilaw20_sane.calls (r : Bool) (w : World) (h : fastilaw20_sane.f = some r) : Calls Try.prog 15 #[] w fun e w' => e = .returned (.bool r) ∧ Below w.heap.size w w' := by
  cases h
  exact sane20_calls w
end Go.Proofs.Ytihmfpefmmdecaa.All
