/- The walk through fastilaw20.RobinBalance. -/
import Derived.Test.YtihmfpefmmdecaaBal
import Derived.Test.YtihmfpefmmdecaaRobinAll
namespace Go.Proofs.Ytihmfpefmmdecaa.All
open Go.RowKit Go.Proofs Go.Sort Go.Proofs.YtihmfpefmmdecaaW.PrintWords Go.Proofs.YtihmfpefmmdecaaW.PrintLast

set_option maxRecDepth 100000 in
set_option maxHeartbeats 8000000 in
theorem bal_no (n k : Int) (w : World) (hno : ¬ okNK n k) :
    Calls Try.prog 5 #[.int .i64 n, .int .i64 k] w fun e w' => e = .returned (.bool true) ∧ Below w.heap.size w w' := by
  have hq := fun W => right_no hno W
  have F := Lib.hid hq
  clear hq hno
  go_enter Try.func5, Try.ntmps5
  go_wp2_with fail
  refine (sane20_calls _).mono ?_
  rintro e w1 ⟨rfl, hb1⟩
  have H1 := Lib.hid hb1
  clear hb1
  go_wp2_with fail
  refine (F.out _).mono ?_
  rintro e w4 ⟨rfl, hb4⟩
  have H4 := Lib.hid (H1.out.trans (hb4.mono H1.out.size))
  clear hb4 H1
  go_wp2_with fail
  go_ret
  exact ⟨rfl, H4.out⟩
set_option maxRecDepth 100000 in
set_option maxHeartbeats 8000000 in
theorem bal_yes (n k : Int) (w : World) (hok : okNK n k) :
    Calls Try.prog 5 #[.int .i64 n, .int .i64 k] w fun e w' => e = .returned (.bool true) ∧ Below w.heap.size w w' := by
  have hm := fun W => make_list n k W hok
  have hq := fun W => right_yes hok W
  have hall2 := make_bal hok
  have hml := makeF_len hok
  obtain ⟨m, hmm⟩ : ∃ m, makeF n k = m := ⟨_, rfl⟩
  have hRb : (roundsF n k).1 ≤ 38 := by
    obtain ⟨q1, q2, q3⟩ := rds_le n hok.1 hok.2.1
    unfold roundsF
    rw [if_pos hok]
    by_cases hk : k = 1
    · simp [hk]; omega
    · simp [hk]; omega
  have hall : ∀ t, t < (makeF n k).length → okR n (40 : Nat) (rdN (makeF n k) t) := by
    intro t ht
    have := (robinOK_iff.1 (make_ok hok)).2.1 _ (List.getElem_mem ht)
    rw [rdN, rd_nat _ ht]
    exact ⟨this.1, by have := this.2.1; omega, this.2.2⟩
  rw [hmm] at hm hml hall hall2
  obtain ⟨b1, b2, b3, b4⟩ := hok
  have F := Lib.hid (And.intro hm (And.intro hq (And.intro hall hall2)))
  clear hm hq hall hall2 hmm hRb
  go_enter Try.func5, Try.ntmps5
  go_wp2_with fail
  refine (sane20_calls _).mono ?_
  rintro e w1 ⟨rfl, hb1⟩
  have H1 := Lib.hid hb1
  clear hb1
  go_wp2_with fail
  refine (F.out.2.1 _).mono ?_
  rintro e w2 ⟨rfl, hb2⟩
  have H2 := Lib.hid (H1.out.trans (hb2.mono H1.out.size))
  clear hb2 H1
  go_wp2_with fail
  refine (F.out.1 _).mono ?_
  rintro e w5 ⟨A, c, rfl, hc5, hk5, _, hb5⟩
  have H5 := Lib.hid (And.intro (H2.out.trans (hb5.mono H2.out.size)) hk5)
  clear hb5 H2 hc5 hk5
  go_upto_region 10 with fail
  rw [zero37]
  obtain ⟨W6, hW6⟩ : ∃ W6, (w5.alloc (Obj.cells #[Value.int IntKind.i64 0, Value.int IntKind.i64 0, Value.int IntKind.i64 0, Value.int IntKind.i64 0, Value.int IntKind.i64 0, Value.int IntKind.i64 0, Value.int IntKind.i64 0, Value.int IntKind.i64 0, Value.int IntKind.i64 0, Value.int IntKind.i64 0, Value.int IntKind.i64 0, Value.int IntKind.i64 0, Value.int IntKind.i64 0, Value.int IntKind.i64 0, Value.int IntKind.i64 0, Value.int IntKind.i64 0, Value.int IntKind.i64 0, Value.int IntKind.i64 0, Value.int IntKind.i64 0, Value.int IntKind.i64 0] 32)).alloc (Obj.cells ((List.range 800).map fun _ => Value.int .i64 0).toArray 37) = W6 := ⟨_, rfl⟩
  have t6 : Tab W6 w5.heap.size 20 32 (homC []) := by
    rw [← hW6]
    exact (two_new w5 _ _).1
  have t7 : Tab W6 (w5.heap.size + 1) 800 37 (atF []) := by
    rw [← hW6]
    exact (two_new w5 _ _).2.1
  have hb6 : Below w5.heap.size w5 W6 := by
    rw [← hW6]
    exact ((Below.refl _ w5).alloc (Nat.le_refl _) _).alloc (by simp) _
  rw [hW6]
  clear hW6
  have H6 := Lib.hid (And.intro t6 (And.intro t7 hb6))
  clear t6 t7 hb6
  go_wp2_with fail
  go_loopw [30] (fun i wr => ∃ j : Nat, j ≤ m.length ∧ i = .int .i64 j ∧ Tab wr w5.heap.size 20 32 (homC (m.take j)) ∧ Tab wr (w5.heap.size + 1) 800 37 (atF (m.take j)) ∧ Below w5.heap.size w5 wr)
    (fun i _ => m.length - (intOf i).toNat)
  case atStart => exact ⟨0, Nat.zero_le _, rfl, H6.out.1, H6.out.2.1, H6.out.2.2⟩
  case round =>
    clear H6
    obtain ⟨j, hj, rfl, hT1, hT2, hbel⟩ := hrel
    by_cases hlt : j < m.length
    · obtain ⟨ad, e, e0, e1, e2⟩ := at_T36 (Kd.C_below H5.out.2 hbel) j (by omega) (by omega)
      simp only [Int.toNat_natCast] at e0 e1 e2
      subst e
      obtain ⟨r, h, a, hr0, hr1, hr2, hrR, hhn, han, hne, hs1, hs2⟩ := stepsB m j n 40 (by omega) hlt F.out.2.2.1
      rw [hr0] at e0
      rw [hr1] at e1
      rw [hr2] at e2
      obtain ⟨f, hf⟩ : ∃ f, homC (m.take j) = f := ⟨_, rfl⟩
      obtain ⟨g, hg⟩ : ∃ g, atF (m.take j) = g := ⟨_, rfl⟩
      rw [hf] at hT1 hs1
      rw [hg] at hT2 hs2
      have bf : ∀ i, 0 ≤ f i ∧ f i ≤ 1000 := by rw [← hf]; exact fun i => homC_bound _ i (by rw [List.length_take]; omega)
      have T := Lib.hid (And.intro hT1 (And.intro hT2 (And.intro hbel (And.intro hs1 (And.intro hs2 bf)))))
      clear hT1 hT2 hbel hs1 hs2 hr0 hr1 hr2 hf hg bf
      have l20 : (h : Int) < 20 := by omega
      have a20 : (a : Int) < 20 := by omega
      have r40 : (r : Int) < 40 := by omega
      go_upto_region 15 with fail
      obtain ⟨W1, hW1⟩ : ∃ W1, wr.alloc (Obj.cells #[Value.int IntKind.i64 ↑r, Value.int IntKind.i64 ↑h, Value.int IntKind.i64 ↑a] 36) = W1 := ⟨_, rfl⟩
      have hx : W1.heap[wr.heap.size]? = some (.cells #[Value.int IntKind.i64 ↑r, Value.int IntKind.i64 ↑h, Value.int IntKind.i64 ↑a] 36 (0, 0)) := by rw [← hW1]; exact World.alloc_heap_new wr _
      have t1 : Tab W1 w5.heap.size 20 32 f := by rw [← hW1]; exact T.out.1.alloc _
      have t2 : Tab W1 (w5.heap.size + 1) 800 37 g := by rw [← hW1]; exact T.out.2.1.alloc _
      have hb1 : Below w5.heap.size w5 W1 := by rw [← hW1]; exact T.out.2.2.1.alloc T.out.2.2.1.size _
      rw [hW1]
      clear hW1
      have n1 : w5.heap.size < wr.heap.size := T.out.1.lt
      have n2 : w5.heap.size + 1 < wr.heap.size := T.out.2.1.lt
      have k0 : W1.cell? ⟨wr.heap.size, 0, none⟩ = some (.int .i64 (r : Int)) := by simp [World.cell?, hx]
      have k1 : W1.cell? ⟨wr.heap.size, 1, none⟩ = some (.int .i64 (h : Int)) := by simp [World.cell?, hx]
      have k2 : W1.cell? ⟨wr.heap.size, 2, none⟩ = some (.int .i64 (a : Int)) := by simp [World.cell?, hx]
      have g1 := t1.cell (i := h) (by omega)
      have g2 := t1.free h
      have hb : 0 ≤ f h ∧ f h ≤ 1000 := T.out.2.2.2.2.2 _
      have X := Lib.hid (And.intro hx (And.intro t1 (And.intro t2 hb1)))
      clear hx t1 t2 hb1
      go_upto_region 16 with fail
      obtain ⟨W2, hW2⟩ : ∃ W2, (W1.setCell { block := w5.heap.size, off := h } (Value.int IntKind.i64 (f h + 1))) = W2 := ⟨_, rfl⟩
      have hx2 : W2.heap[wr.heap.size]? = some (.cells #[Value.int IntKind.i64 ↑r, Value.int IntKind.i64 ↑h, Value.int IntKind.i64 ↑a] 36 (0, 0)) := by rw [← hW2]; exact (Below.heap_setCell W1 _ _ _ (by show wr.heap.size ≠ w5.heap.size; omega)).trans X.out.1
      have t1 : Tab W2 w5.heap.size 20 32 (upd f h (f h + 1)) := by rw [← hW2]; exact X.out.2.1.set _ _
      have t2 : Tab W2 (w5.heap.size + 1) 800 37 g := by rw [← hW2]; exact X.out.2.2.1.other _ _ (by show w5.heap.size + 1 ≠ w5.heap.size; omega)
      have hb2 : Below w5.heap.size w5 W2 := by rw [← hW2]; exact X.out.2.2.2.setCell (p := ⟨w5.heap.size, h, none⟩) (Nat.le_refl _) _
      rw [hW2]
      clear hW2 g1 g2 k0 k1 k2 hb
      have k0 : W2.cell? ⟨wr.heap.size, 0, none⟩ = some (.int .i64 (r : Int)) := by simp [World.cell?, hx2]
      have k1 : W2.cell? ⟨wr.heap.size, 1, none⟩ = some (.int .i64 (h : Int)) := by simp [World.cell?, hx2]
      have k2 : W2.cell? ⟨wr.heap.size, 2, none⟩ = some (.int .i64 (a : Int)) := by simp [World.cell?, hx2]
      have g1 := t2.cell (i := r * 20 + h) (by omega)
      have g2 := t2.free (r * 20 + h)
      have g3 := t2.cell (i := r * 20 + a) (by omega)
      have g4 := t2.free (r * 20 + a)
      have ne1 : ¬ r * 20 + h = r * 20 + a := by omega
      have ne2 : ¬ r * 20 + a = r * 20 + h := by omega
      have Y := Lib.hid (And.intro t1 (And.intro t2 hb2))
      clear hx2 t1 t2 hb2 X
      go_region
      have t1 := (Y.out.1.other ⟨w5.heap.size + 1, r * 20 + h, none⟩ (.int .i64 1) (by show w5.heap.size ≠ w5.heap.size + 1; omega)).other ⟨w5.heap.size + 1, r * 20 + a, none⟩ (.int .i64 (-1)) (by show w5.heap.size ≠ w5.heap.size + 1; omega)
      have t2 := (Y.out.2.1.set (r * 20 + h) 1).set (r * 20 + a) (-1)
      have hb4 := ((Y.out.2.2.setCell (p := ⟨w5.heap.size + 1, r * 20 + h, none⟩) (by show w5.heap.size ≤ w5.heap.size + 1; omega) (.int .i64 1)).setCell (p := ⟨w5.heap.size + 1, r * 20 + a, none⟩) (by show w5.heap.size ≤ w5.heap.size + 1; omega) (.int .i64 (-1))).drew
      have V := Lib.hid (And.intro t1 (And.intro t2 hb4))
      clear t1 t2 hb4 k0 k1 k2 g1 g2 g3 g4
      go_wp2_with fail
      refine ⟨⟨j + 1, by omega, by simp, V.out.1.congr (fun i _ => (T.out.2.2.2.1 i).symm), V.out.2.1.congr (fun i _ => (T.out.2.2.2.2.1 i).symm), V.out.2.2⟩, ?_⟩
      simp only [intOf]
      omega
    · obtain rfl : j = m.length := by omega
      rw [List.take_length] at hT1 hT2
      have FT := F.out.2.2.2
      have bf : ∀ i, 0 ≤ homC m i ∧ homC m i ≤ 1000 := fun i => homC_bound _ i (by omega)
      have bg := atF_vals m
      generalize homC m = f at hT1 FT bf
      generalize atF m = g at hT2 FT bg
      obtain ⟨wo, hwo⟩ : ∃ wo, wo = wr := ⟨_, rfl⟩
      subst hwo
      have T := Lib.hid (And.intro hT1 (And.intro hT2 hbel))
      have G := Lib.hid (And.intro FT (And.intro bf bg))
      clear hT1 hT2 hbel FT bf bg F
      go_wp2_with fail
      go_loopw [11, 84] (fun v i wr => ∃ t : Nat, (t : Int) ≤ n ∧ i = .int .i64 t ∧ v = .int .i64 (brks g t) ∧ Tab wr w5.heap.size 20 32 f ∧ Tab wr (w5.heap.size + 1) 800 37 g ∧ Below w5.heap.size w5 wr)
        (fun _ i _ => (n - intOf i).toNat)
      case atStart => exact ⟨0, by omega, rfl, rfl, T.out.1, T.out.2.1, T.out.2.2⟩
      case round =>
        clear T
        obtain ⟨t, ht, rfl, rfl, hT1, hT2, hbel⟩ := hrel
        have bb := brks_bound g t
        by_cases htn : (t : Int) < n
        · have ft := G.out.1.1 t htn
          have hsb : brks g (t + 1) = brks g t + brk g t 39 := rfl
          have hf0 := G.out.2.1 t
          generalize brks g t = B at bb hsb ⊢
          obtain ⟨wp, hwp⟩ : ∃ wp, wp = wr := ⟨_, rfl⟩
          subst hwp
          have T := Lib.hid (And.intro hT1 (And.intro hT2 hbel))
          have U := Lib.hid (And.intro ft hsb)
          clear hT1 hT2 hbel ft hsb
          go_wp2_with fail
          go_loopw [11, 87] (fun v i wr => ∃ r : Nat, r ≤ 39 ∧ i = .int .i64 r ∧ v = .int .i64 (B + brk g t r) ∧ Tab wr w5.heap.size 20 32 f ∧ Tab wr (w5.heap.size + 1) 800 37 g ∧ Below w5.heap.size w5 wr) (fun _ i _ => 39 - (intOf i).toNat)
          case atStart => exact ⟨0, Nat.zero_le _, rfl, by simp [brk], T.out.1, T.out.2.1, T.out.2.2⟩
          case round =>
            obtain ⟨r, hr, rfl, rfl, hT1, hT2, hbel⟩ := hrel
            have rb := brk_bound g t r
            by_cases hrR : r < 39
            · have g1 := hT2.cell (i := r * 20 + t) (by omega)
              have g2 := hT2.cell (i := (r + 1) * 20 + t) (by omega)
              have v1 := G.out.2.2 (r * 20 + t)
              have hs : brk g t (r + 1) = brk g t r + if g (r * 20 + t) ≠ 0 ∧ g (r * 20 + t) = g ((r + 1) * 20 + t) then 1 else 0 := rfl
              generalize brk g t r = s at rb hs ⊢
              generalize g (r * 20 + t) = x at g1 v1 hs
              generalize g ((r + 1) * 20 + t) = y at g2 hs
              have V := Lib.hid (And.intro hT1 (And.intro hT2 (And.intro hbel (And.intro hs v1))))
              clear hT1 hT2 hbel hs v1
              by_cases hx : x = 0
              · subst hx
                have hs : brk g t (r + 1) = s := by rw [V.out.2.2.2.1]; simp
                have HS := Lib.hid hs
                clear hs
                go_wp2_with fail
                go_quiet (fail)
                go_wp2_with fail
                refine ⟨⟨r + 1, by omega, by simp, by (rw [HS.out] <;> try rw [Int.add_assoc]), V.out.1.below (pw_below_drewN (Below.refl _ _) _), V.out.2.1.below (pw_below_drewN (Below.refl _ _) _), pw_below_drewN V.out.2.2.1 _⟩, ?_⟩
                simp only [intOf]
                omega
              · have hx1 : (x != 0) = true := by simp [hx]
                have hx2 : (x == 0) = false := by simp [hx]
                by_cases hxy : x = y
                · subst hxy
                  have hs : brk g t (r + 1) = s + 1 := by rw [V.out.2.2.2.1]; simp [hx]
                  have HS := Lib.hid hs
                  clear hs hx
                  go_wp2_with fail
                  go_quiet (fail)
                  go_wp2_with fail
                  refine ⟨⟨r + 1, by omega, by simp, by (rw [HS.out] <;> try rw [Int.add_assoc]), V.out.1.below (pw_below_drewN (Below.refl _ _) _), V.out.2.1.below (pw_below_drewN (Below.refl _ _) _), pw_below_drewN V.out.2.2.1 _⟩, ?_⟩
                  simp only [intOf]
                  omega
                · have hs : brk g t (r + 1) = s := by rw [V.out.2.2.2.1]; simp [hxy]
                  have HS := Lib.hid hs
                  have hxy1 : (x == y) = false := by simp [hxy]
                  have hxy2 : (x != y) = true := by simp [hxy]
                  clear hs hx hxy
                  go_wp2_with fail
                  go_quiet (fail)
                  go_wp2_with fail
                  refine ⟨⟨r + 1, by omega, by simp, by (rw [HS.out] <;> try rw [Int.add_assoc]), V.out.1.below (pw_below_drewN (Below.refl _ _) _), V.out.2.1.below (pw_below_drewN (Below.refl _ _) _), pw_below_drewN V.out.2.2.1 _⟩, ?_⟩
                  simp only [intOf]
                  omega
            · obtain rfl : r = 39 := by omega
              obtain ⟨u1, u2, u3⟩ := U.out.1
              have g0 := hT1.cell (i := t) (by omega)
              have V := Lib.hid (And.intro hT1 (And.intro hT2 hbel))
              clear hT1 hT2 hbel
              generalize brk g t 39 = s at rb U ⊢
              generalize f t = v at g0 hf0 u1 u2 u3
              by_cases hk : k = 1
              · by_cases ho : n % 2 = 1
                · have e := u2 hk ho
                  have q1 : (v != (n - 1) / 2) = false := by simp [e]
                  have q2 : (v == (n - 1) / 2) = true := by simp [e]
                  have q3 : (n % 2 == 1) = true := by simp [ho]
                  subst hk
                  clear u1 u2 u3 e ho
                  go_wp2_with fail
                  refine ⟨⟨t + 1, by omega, by simp, by rw [U.out.2], V.out.1, V.out.2.1, V.out.2.2⟩, ?_⟩
                  simp only [intOf]
                  omega
                · have q3 : (n % 2 == 1) = false := by simp [ho]
                  have e := u3 hk ho
                  subst hk
                  by_cases e1 : v = n / 2
                  · have q1 : (v != n / 2) = false := by simp [e1]
                    have q2 : (v == n / 2) = true := by simp [e1]
                    clear u1 u2 u3 e e1 ho
                    go_wp2_with fail
                    refine ⟨⟨t + 1, by omega, by simp, by rw [U.out.2], V.out.1, V.out.2.1, V.out.2.2⟩, ?_⟩
                    simp only [intOf]
                    omega
                  · have e2 : v = n / 2 - 1 := by omega
                    have q1 : (v != n / 2) = true := by simp [e1]
                    have q2 : (v == n / 2) = false := by simp [e1]
                    have q4 : (v != n / 2 - 1) = false := by simp [e2]
                    have q5 : (v == n / 2 - 1) = true := by simp [e2]
                    clear u1 u2 u3 e e1 e2 ho
                    go_wp2_with fail
                    refine ⟨⟨t + 1, by omega, by simp, by rw [U.out.2], V.out.1, V.out.2.1, V.out.2.2⟩, ?_⟩
                    simp only [intOf]
                    omega
              · have e := u1 hk
                have q1 : (v != n - 1) = false := by simp [e]
                have q2 : (v == n - 1) = true := by simp [e]
                have hk1 : (k != 1) = true := by simp [hk]
                have hk2 : (k == 1) = false := by simp [hk]
                clear u1 u2 u3 e hk
                go_wp2_with fail
                refine ⟨⟨t + 1, by omega, by simp, by rw [U.out.2], V.out.1, V.out.2.1, V.out.2.2⟩, ?_⟩
                simp only [intOf]
                omega
        · have htn' : t = n.toNat := by omega
          have V := Lib.hid (And.intro hbel htn')
          have h2 := G.out.1.2
          rw [← htn'] at h2
          clear hT1 hT2 hbel htn'
          generalize brks g t = B at bb h2 ⊢
          by_cases hk : k = 1
          · have e := h2 hk
            have m12 : 0 ≤ (n - 2) * (1 - n % 2) ∧ (n - 2) * (1 - n % 2) ≤ 18 := by
              have : n % 2 = 0 ∨ n % 2 = 1 := by omega
              rcases this with h | h <;> rw [h] <;> omega
            obtain ⟨m1, m2⟩ := m12
            have q1 : (B == (n - 2) * (1 - n % 2)) = true := by simp [e]
            have q2 : (B != (n - 2) * (1 - n % 2)) = false := by simp [e]
            subst hk
            clear e h2
            go_wp2_with fail
            go_ret
            exact ⟨rfl, H5.out.1.trans (V.out.1.mono H5.out.1.size)⟩
          · have hk1 : (k != 1) = true := by simp [hk]
            have hk2 : (k == 1) = false := by simp [hk]
            clear hk h2
            go_wp2_with fail
            go_ret
            exact ⟨rfl, H5.out.1.trans (V.out.1.mono H5.out.1.size)⟩
theorem robinBalance_walk (n k : Int) (w : World) (_w0 : (Lit.int .i64 n).wf = true) (_w1 : (Lit.int .i64 k).wf = true) :
    Calls Try.prog 5 #[.int .i64 n, .int .i64 k] w fun e w' => e = .returned (.bool true) ∧ Below w.heap.size w w' := by
  by_cases hok : okNK n k
  · exact bal_yes n k w hok
  · exact bal_no n k w hok
end Go.Proofs.Ytihmfpefmmdecaa.All
