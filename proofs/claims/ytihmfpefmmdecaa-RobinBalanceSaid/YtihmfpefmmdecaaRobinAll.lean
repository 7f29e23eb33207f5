/- The walk through fastilaw20.RobinAll. -/
import Derived.Test.YtihmfpefmmdecaaTab2
import Derived.Test.YtihmfpefmmdecaaSane20
import Derived.Deep.DeepCutAuto
namespace Go.Proofs.Ytihmfpefmmdecaa.All
open Go.RowKit Go.Proofs Go.Sort Go.Proofs.YtihmfpefmmdecaaW.PrintWords Go.Proofs.YtihmfpefmmdecaaW.PrintLast

set_option maxRecDepth 100000 in
set_option maxHeartbeats 8000000 in
theorem all_no (n k : Int) (w : World) (hn : -9223372036854775808 ≤ n) (hn' : n ≤ 9223372036854775807) (hno : ¬ okNK n k) :
    Calls Try.prog 4 #[.int .i64 n, .int .i64 k] w fun e w' => e = .returned (.bool true) ∧ Below w.heap.size w w' := by
  have hm := fun W => make_no n k W hno hn hn'
  have hr := fun W => rounds_calls n k W hn hn'
  have hq := fun W => right_no hno W
  have e : roundsF n k = (0, 1) := by unfold roundsF; rw [if_neg hno]
  rw [e] at hr
  have F := Lib.hid (And.intro hm (And.intro hr hq))
  clear hm hr hq e hno
  go_enter Try.func4, Try.ntmps4
  go_wp2_with fail
  refine (sane20_calls _).mono ?_
  rintro e w1 ⟨rfl, hb1⟩
  have H1 := Lib.hid hb1
  clear hb1
  go_wp2_with fail
  refine (F.out.1 _).mono ?_
  rintro e w2 ⟨rfl, hb2⟩
  have H2 := Lib.hid (H1.out.trans (hb2.mono H1.out.size))
  clear hb2 H1
  go_wp2_with fail
  refine (F.out.2.1 _).mono ?_
  rintro e w3 ⟨rfl, hb3⟩
  have H3 := Lib.hid (H2.out.trans (hb3.mono H2.out.size))
  clear hb3 H2
  go_wp2_with fail
  refine (F.out.2.2 _).mono ?_
  rintro e w4 ⟨rfl, hb4⟩
  have H4 := Lib.hid (H3.out.trans (hb4.mono H3.out.size))
  clear hb4 H3
  go_wp2_with fail
  go_ret
  exact ⟨rfl, H4.out⟩
set_option maxRecDepth 100000 in
set_option maxHeartbeats 8000000 in
theorem all_yes (n k : Int) (w : World) (hok : okNK n k) :
    Calls Try.prog 4 #[.int .i64 n, .int .i64 k] w fun e w' => e = .returned (.bool true) ∧ Below w.heap.size w w' := by
  have hm := fun W => make_list n k W hok
  have hr := fun W => rounds_calls n k W (by have := hok.1; omega) (by have := hok.2.1; omega)
  have hq := fun W => right_yes hok W
  have hck : robin_Check.f n k (makeF n k) = some 0 := by
    unfold robin_Check.f
    rw [if_pos ⟨by have := hok.1; omega, by have := hok.2.1; omega, by have := makeF_len hok; omega⟩, check_make hok]
  obtain ⟨R, hR, hR1, hR2⟩ : ∃ R : Nat, roundsF n k = ((R : Int), 0) ∧ 1 ≤ R ∧ R ≤ 38 := by
    obtain ⟨q1, q2, q3⟩ := rds_le n hok.1 hok.2.1
    unfold roundsF
    rw [if_pos hok]
    by_cases hk : k = 1
    · rw [if_pos hk]
      exact ⟨(rds n).toNat, by rw [Int.toNat_of_nonneg (by omega)], by omega, by omega⟩
    · rw [if_neg hk]
      exact ⟨(2 * rds n).toNat, by rw [Int.toNat_of_nonneg (by omega)], by omega, by omega⟩
  rw [hR] at hr
  have hall2 : allT n k R (metC (makeF n k)) (gamC (makeF n k)) := by
    have := make_tab hok
    rw [hR] at this
    exact this
  have hml := makeF_len hok
  obtain ⟨m, hmm⟩ : ∃ m, makeF n k = m := ⟨_, rfl⟩
  have hall : ∀ t, t < (makeF n k).length → okR n R (rdN (makeF n k) t) := by
    intro t ht
    have := (robinOK_iff.1 (make_ok hok)).2.1 _ (List.getElem_mem ht)
    rw [hR] at this
    rw [rdN, rd_nat _ ht]
    exact this
  rw [hmm] at hm hck hml hall hall2
  obtain ⟨b1, b2, b3, b4⟩ := hok
  have F := Lib.hid (And.intro hm (And.intro hr (And.intro hq (And.intro hck (And.intro (And.intro hR hmm) (And.intro hall hall2))))))
  clear hm hr hq hck hR hmm hall hall2
  obtain ⟨i2, hi2, hz0, hz1, hz2⟩ := info_parts info32
  have d1 : decide ((R : Int) < 1) = false := by simp; omega
  have d2 : decide (40 < (R : Int)) = false := by simp; omega
  go_enter Try.func4, Try.ntmps4
  go_wp2_with fail
  refine (sane20_calls _).mono ?_
  rintro e w1 ⟨rfl, hb1⟩
  have H1 := Lib.hid hb1
  clear hb1
  go_wp2_with fail
  refine (F.out.1 _).mono ?_
  rintro e w2 ⟨A, c, rfl, hc2, hk2, _, hb2⟩
  have H2 := Lib.hid (And.intro (H1.out.trans (hb2.mono H1.out.size)) (And.intro hc2 hk2))
  clear hb2 H1 hc2 hk2
  go_wp2_with fail
  refine (F.out.2.1 _).mono ?_
  rintro e w3 ⟨rfl, hb3⟩
  have H3 := Lib.hid (And.intro (H2.out.1.trans (hb3.mono H2.out.1.size)) (And.intro H2.out.2.1 (Kd.C_below H2.out.2.2 hb3)))
  clear hb3 H2
  go_wp2_with fail
  refine (F.out.2.2.1 _).mono ?_
  rintro e w4 ⟨rfl, hb4⟩
  have H4 := Lib.hid (And.intro (H3.out.1.trans (hb4.mono H3.out.1.size)) (And.intro H3.out.2.1 (Kd.C_below H3.out.2.2 hb4)))
  clear hb4 H3
  go_wp2_with fail
  refine (robin_Check.calls n k A c m 0 _ H4.out.2.2 H4.out.2.1 F.out.2.2.2.1).mono ?_
  rintro e w5 ⟨rfl, hb5⟩
  have H5 := Lib.hid (And.intro (H4.out.1.trans (hb5.mono H4.out.1.size)) (Kd.C_below H4.out.2.2 hb5))
  clear hb5 H4
  go_upto_region 10 with fail
  rw [zero33]
  obtain ⟨W6, hW6⟩ : ∃ W6, w5.alloc (Obj.cells ((List.range 400).map fun _ => Value.int .i64 0).toArray 33) = W6 := ⟨_, rfl⟩
  have t6 : Tab W6 w5.heap.size 400 33 (metC []) := by
    rw [← hW6]
    exact World.alloc_heap_new w5 _
  have hb6 : Below w5.heap.size w5 W6 := by
    rw [← hW6]
    exact (Below.refl _ w5).alloc (Nat.le_refl _) _
  have hs6 : W6.heap.size = w5.heap.size + 1 := by rw [← hW6]; simp
  rw [hW6]
  clear hW6
  have hbase : w.heap.size ≤ W6.heap.size := by have := H5.out.1.size; omega
  have H6 := Lib.hid (And.intro t6 hb6)
  have S6 := Lib.hid hs6
  clear t6 hb6 hs6
  go_wp2_with (at_make; refine wpList_make_full _ rfl _ _ 34 rfl w.heap.size 32 i2 zrow 20 Try.underlying34 hi2 hz0 hz1 .i64 .i64 R R R rfl rfl rfl rfl (by rw [hz2]; omega) (by unfold maxLen; omega) hbase ?_; intro w7 how7 hg7)
  have t7 := tab_made how7 zrow_cells (by decide) rfl
  have t6 := H6.out.1.below (show Below W6.heap.size W6 w7 from ⟨hg7.os, hg7.tape, hg7.output, hg7.size, fun i hi => hg7.block i hi (by simp)⟩)
  have hb7 : Below w5.heap.size w5 w7 := H6.out.2.grown hg7 (by have := S6.out; omega) (fun _ e => by cases e)
  have H7 := Lib.hid (And.intro t6 (And.intro t7 hb7))
  clear how7 hg7 t7 t6 hb7 H6
  go_wp2_with fail
  go_loopw [72] (fun i wr => ∃ j : Nat, j ≤ m.length ∧ i = .int .i64 j ∧ Tab wr w5.heap.size 400 33 (metC (m.take j)) ∧ Tab wr W6.heap.size (R * 20) 32 (gamC (m.take j)) ∧ Below w5.heap.size w5 wr)
    (fun i _ => m.length - (intOf i).toNat)
  case atStart => exact ⟨0, Nat.zero_le _, rfl, H7.out.1, H7.out.2.1, H7.out.2.2⟩
  case round =>
    clear H7
    obtain ⟨j, hj, rfl, hT1, hT2, hbel⟩ := hrel
    by_cases hlt : j < m.length
    · obtain ⟨ad, e, e0, e1, e2⟩ := at_T36 (Kd.C_below H5.out.2 hbel) j (by omega) (by omega)
      simp only [Int.toNat_natCast] at e0 e1 e2
      subst e
      obtain ⟨r, h, a, hr0, hr1, hr2, hrR, hhn, han, hne, hs1, hs2⟩ := steps m j n R hlt F.out.2.2.2.2.2.1
      rw [hr0] at e0
      rw [hr1] at e1
      rw [hr2] at e2
      obtain ⟨f, hf⟩ : ∃ f, metC (m.take j) = f := ⟨_, rfl⟩
      obtain ⟨g, hg⟩ : ∃ g, gamC (m.take j) = g := ⟨_, rfl⟩
      rw [hf] at hT1 hs1
      rw [hg] at hT2 hs2
      have bf : ∀ i, 0 ≤ f i ∧ f i ≤ 1000 := by rw [← hf]; exact fun i => metC_bound _ i (by rw [List.length_take]; omega)
      have bg : ∀ i, 0 ≤ g i ∧ g i ≤ 1000 := by rw [← hg]; exact fun i => gamC_bound _ i (by rw [List.length_take]; omega)
      have T := Lib.hid (And.intro hT1 (And.intro hT2 (And.intro hbel (And.intro hs1 (And.intro hs2 (And.intro bf bg))))))
      clear hT1 hT2 hbel hs1 hs2 hr0 hr1 hr2 hf hg bf bg
      go_upto_region 16 with fail
      obtain ⟨W1, hW1⟩ : ∃ W1, wr.alloc (Obj.cells #[Value.int IntKind.i64 ↑r, Value.int IntKind.i64 ↑h, Value.int IntKind.i64 ↑a] 36) = W1 := ⟨_, rfl⟩
      have hx : W1.heap[wr.heap.size]? = some (.cells #[Value.int IntKind.i64 ↑r, Value.int IntKind.i64 ↑h, Value.int IntKind.i64 ↑a] 36 (0, 0)) := by rw [← hW1]; exact World.alloc_heap_new wr _
      have t1 : Tab W1 w5.heap.size 400 33 f := by rw [← hW1]; exact T.out.1.alloc _
      have t2 : Tab W1 W6.heap.size (R * 20) 32 g := by rw [← hW1]; exact T.out.2.1.alloc _
      have hb1 : Below w5.heap.size w5 W1 := by rw [← hW1]; exact T.out.2.2.1.alloc T.out.2.2.1.size _
      rw [hW1]
      clear hW1
      have n1 : w5.heap.size < wr.heap.size := T.out.1.lt
      have n2 : W6.heap.size < wr.heap.size := T.out.2.1.lt
      have k0 : W1.cell? ⟨wr.heap.size, 0, none⟩ = some (.int .i64 (r : Int)) := by simp [World.cell?, hx]
      have k1 : W1.cell? ⟨wr.heap.size, 1, none⟩ = some (.int .i64 (h : Int)) := by simp [World.cell?, hx]
      have k2 : W1.cell? ⟨wr.heap.size, 2, none⟩ = some (.int .i64 (a : Int)) := by simp [World.cell?, hx]
      have g1 := t1.cell (i := h * 20 + a) (by omega)
      have g2 := t1.free (h * 20 + a)
      have hb : 0 ≤ f (h * 20 + a) ∧ f (h * 20 + a) ≤ 1000 := T.out.2.2.2.2.2.1 _
      have l20 : (h : Int) < 20 := by omega
      have a20 : (a : Int) < 20 := by omega
      have X := Lib.hid (And.intro hx (And.intro t1 (And.intro t2 hb1)))
      clear hx t1 t2 hb1
      go_region
      go_upto_region 17 with fail
      obtain ⟨W2, hW2⟩ : ∃ W2, (W1.setCell { block := w5.heap.size, off := h * 20 + a } (Value.int IntKind.i64 (f (h * 20 + a) + 1))).drew = W2 := ⟨_, rfl⟩
      have hx2 : W2.heap[wr.heap.size]? = some (.cells #[Value.int IntKind.i64 ↑r, Value.int IntKind.i64 ↑h, Value.int IntKind.i64 ↑a] 36 (0, 0)) := by rw [← hW2]; exact (Below.heap_setCell W1 _ _ _ (by show wr.heap.size ≠ w5.heap.size; omega)).trans X.out.1
      have t1 : Tab W2 w5.heap.size 400 33 (upd f (h * 20 + a) (f (h * 20 + a) + 1)) := by rw [← hW2]; exact X.out.2.1.set _ _
      have t2 : Tab W2 W6.heap.size (R * 20) 32 g := by rw [← hW2]; exact X.out.2.2.1.other _ _ (by show W6.heap.size ≠ w5.heap.size; have := S6.out; omega)
      have hb2 : Below w5.heap.size w5 W2 := by rw [← hW2]; exact (X.out.2.2.2.setCell (p := ⟨w5.heap.size, h * 20 + a, none⟩) (Nat.le_refl _) _).drew
      rw [hW2]
      clear hW2 g1 g2 k0 k1 k2 hb
      have k0 : W2.cell? ⟨wr.heap.size, 0, none⟩ = some (.int .i64 (r : Int)) := by simp [World.cell?, hx2]
      have k1 : W2.cell? ⟨wr.heap.size, 1, none⟩ = some (.int .i64 (h : Int)) := by simp [World.cell?, hx2]
      have g1 := t2.cell (i := r * 20 + h) (by omega)
      have g2 := t2.free (r * 20 + h)
      have hb : 0 ≤ g (r * 20 + h) ∧ g (r * 20 + h) ≤ 1000 := T.out.2.2.2.2.2.2 _
      have Y := Lib.hid (And.intro hx2 (And.intro t1 (And.intro t2 hb2)))
      clear hx2 t1 t2 hb2 X
      go_region
      go_upto_region 18 with fail
      obtain ⟨W3, hW3⟩ : ∃ W3, (W2.setCell { block := W6.heap.size, off := r * 20 + h } (Value.int IntKind.i64 (g (r * 20 + h) + 1))).drew = W3 := ⟨_, rfl⟩
      have hx3 : W3.heap[wr.heap.size]? = some (.cells #[Value.int IntKind.i64 ↑r, Value.int IntKind.i64 ↑h, Value.int IntKind.i64 ↑a] 36 (0, 0)) := by rw [← hW3]; exact (Below.heap_setCell W2 _ _ _ (by show wr.heap.size ≠ W6.heap.size; omega)).trans Y.out.1
      have t1 : Tab W3 w5.heap.size 400 33 (upd f (h * 20 + a) (f (h * 20 + a) + 1)) := by rw [← hW3]; exact Y.out.2.1.other _ _ (by show w5.heap.size ≠ W6.heap.size; have := S6.out; omega)
      obtain ⟨g', hg'⟩ : ∃ g', upd g (r * 20 + h) (g (r * 20 + h) + 1) = g' := ⟨_, rfl⟩
      have t2 : Tab W3 W6.heap.size (R * 20) 32 g' := by rw [← hW3, ← hg']; exact Y.out.2.2.1.set _ _
      have hb3 : Below w5.heap.size w5 W3 := by rw [← hW3]; exact (Y.out.2.2.2.setCell (p := ⟨W6.heap.size, r * 20 + h, none⟩) (by show w5.heap.size ≤ W6.heap.size; have := S6.out; omega) _).drew
      rw [hW3]
      clear hW3 g1 g2 k0 k1 hb
      have k0 : W3.cell? ⟨wr.heap.size, 0, none⟩ = some (.int .i64 (r : Int)) := by simp [World.cell?, hx3]
      have k2 : W3.cell? ⟨wr.heap.size, 2, none⟩ = some (.int .i64 (a : Int)) := by simp [World.cell?, hx3]
      have g1 := t2.cell (i := r * 20 + a) (by omega)
      have g2 := t2.free (r * 20 + a)
      have hb : 0 ≤ g' (r * 20 + a) ∧ g' (r * 20 + a) ≤ 1001 := by
        have h1 := T.out.2.2.2.2.2.2 (r * 20 + h)
        have h2 := T.out.2.2.2.2.2.2 (r * 20 + a)
        rw [← hg']
        unfold upd
        split <;> omega
      have Z := Lib.hid (And.intro t1 (And.intro t2 (And.intro hb3 hg')))
      clear hx3 t1 t2 hb3 Y hg'
      go_region
      have t1 := Z.out.1.other ⟨W6.heap.size, r * 20 + a, none⟩ (.int .i64 (g' (r * 20 + a) + 1)) (by show w5.heap.size ≠ W6.heap.size; have := S6.out; omega)
      have t2 := Z.out.2.1.set (r * 20 + a) (g' (r * 20 + a) + 1)
      have hb4 := Z.out.2.2.1.setCell (p := ⟨W6.heap.size, r * 20 + a, none⟩) (by show w5.heap.size ≤ W6.heap.size; have := S6.out; omega) (.int .i64 (g' (r * 20 + a) + 1)) |>.drew
      have V := Lib.hid (And.intro t1 (And.intro t2 hb4))
      clear t1 t2 hb4 k0 k2 g1 g2 hb
      go_wp2_with fail
      refine ⟨⟨j + 1, by omega, by simp, V.out.1.congr (fun i _ => (T.out.2.2.2.1 i).symm), V.out.2.1.congr (fun i _ => by rw [T.out.2.2.2.2.1 i, Z.out.2.2.2]), V.out.2.2⟩, ?_⟩
      simp only [intOf]
      omega
    · obtain rfl : j = m.length := by omega
      rw [List.take_length] at hT1 hT2
      obtain ⟨f, hf⟩ : ∃ f, metC m = f := ⟨_, rfl⟩
      obtain ⟨g, hg⟩ : ∃ g, gamC m = g := ⟨_, rfl⟩
      have FT := F.out.2.2.2.2.2.2
      rw [hf] at hT1 FT
      rw [hg] at hT2 FT
      have bg : ∀ i, 0 ≤ g i ∧ g i ≤ 1000 := by rw [← hg]; exact fun i => gamC_bound _ i (by omega)
      have bf : ∀ i, 0 ≤ f i ∧ f i ≤ 1000 := by rw [← hf]; exact fun i => metC_bound _ i (by omega)
      obtain ⟨wo, hwo⟩ : ∃ wo, wo = wr := ⟨_, rfl⟩
      subst hwo
      have T := Lib.hid (And.intro hT1 (And.intro hT2 hbel))
      have G := Lib.hid (And.intro FT (And.intro bf bg))
      clear hT1 hT2 hbel FT bf bg hf hg F
      go_wp2_with fail
      go_loopw [148] (fun i wr => ∃ t : Nat, (t : Int) ≤ n ∧ i = .int .i64 t ∧ Tab wr w5.heap.size 400 33 f ∧ Tab wr W6.heap.size (R * 20) 32 g ∧ Below w5.heap.size w5 wr)
        (fun i _ => (n - intOf i).toNat)
      case atStart => exact ⟨0, by omega, rfl, T.out.1, T.out.2.1, T.out.2.2⟩
      case round =>
        clear T
        obtain ⟨t, ht, rfl, hT1, hT2, hbel⟩ := hrel
        by_cases htn : (t : Int) < n
        · obtain ⟨ft1, ft2, ft3⟩ := G.out.1 t htn
          have rb := rest_bound g t R (fun r hr => ⟨(G.out.2.2 _).1, ft1 r hr⟩)
          obtain ⟨wp, hwp⟩ : ∃ wp, wp = wr := ⟨_, rfl⟩
          subst hwp
          have T := Lib.hid (And.intro hT1 (And.intro hT2 hbel))
          have U := Lib.hid (And.intro ft1 (And.intro ft2 (And.intro ft3 rb)))
          clear hT1 hT2 hbel ft1 ft2 ft3 rb
          go_wp2_with fail
          go_loop [14, 152] (fun v i => ∃ r : Nat, r ≤ R ∧ i = .int .i64 r ∧ v = .int .i64 (restF g t r)) (fun _ i => R - (intOf i).toNat)
          case atStart => exact ⟨0, Nat.zero_le _, rfl, rfl⟩
          case round =>
            obtain ⟨r, hr, rfl, rfl⟩ := hrel
            by_cases hrR : r < R
            · have g1 := T.out.2.1.cell (i := r * 20 + t) (by omega)
              have gb := U.out.1 r hrR
              have gb0 := (G.out.2.2 (r * 20 + t)).1
              have rb1 := U.out.2.2.2 r hr
              have hs : restF g t (r + 1) = restF g t r + (1 - g (r * 20 + t)) := rfl
              have HS := Lib.hid hs
              clear hs
              generalize g (r * 20 + t) = v at g1 gb gb0 HS
              generalize restF g t r = s at rb1 HS ⊢
              go_wp2_with fail
              refine ⟨⟨r + 1, by omega, by simp, by rw [HS.out]⟩, ?_⟩
              simp only [intOf]
              omega
            · obtain rfl : r = R := by omega
              have rb1 := U.out.2.2.2 r (Nat.le_refl _)
              have e := U.out.2.1
              by_cases hk : k = 1
              · subst hk
                rw [if_pos rfl] at e
                generalize restF g t r = s at rb1 e ⊢
                have q1 : (s != n % 2) = false := by simp [e]
                have q2 : (s == n % 2) = true := by simp [e]
                clear e
                go_wp2_with fail
                go_loopw [182] (fun i wr => ∃ b : Nat, b ≤ t ∧ i = .int .i64 b ∧ Tab wr w5.heap.size 400 33 f ∧ Tab wr W6.heap.size (r * 20) 32 g ∧ Below w5.heap.size w5 wr) (fun i _ => t - (intOf i).toNat)
                case atStart => exact ⟨0, Nat.zero_le _, rfl, T.out.1, T.out.2.1, T.out.2.2⟩
                case round =>
                  obtain ⟨b, hb, rfl, hT1, hT2, hbel⟩ := hrel
                  by_cases hbt : b < t
                  · have g1 := hT1.cell (i := t * 20 + b) (by omega)
                    have g2 := hT1.cell (i := b * 20 + t) (by omega)
                    have h1 := G.out.2.1 (t * 20 + b)
                    have h2 := G.out.2.1 (b * 20 + t)
                    have h3 := (U.out.2.2.1 b hbt).1 (by trivial)
                    generalize f (t * 20 + b) = x at g1 h1 h3
                    generalize f (b * 20 + t) = y at g2 h2 h3
                    have q3 : ((x + y) != 1) = false := by simp [h3]
                    have V := Lib.hid (And.intro hT1 (And.intro hT2 hbel))
                    clear hT1 hT2 hbel h3
                    go_wp2_with fail
                    go_quiet (fail)
                    go_wp2_with fail
                    refine ⟨⟨b + 1, by omega, by simp, V.out.1.below (pw_below_drewN (Below.refl _ _) _), V.out.2.1.below (pw_below_drewN (Below.refl _ _) _), pw_below_drewN V.out.2.2 _⟩, ?_⟩
                    simp only [intOf]
                    omega
                  · obtain rfl : b = t := by omega
                    have V := Lib.hid (And.intro hT1 (And.intro hT2 hbel))
                    clear hT1 hT2 hbel
                    go_wp2_with fail
                    refine ⟨⟨b + 1, by omega, by simp, V.out.1, V.out.2.1, V.out.2.2⟩, ?_⟩
                    simp only [intOf]
                    omega
              · rw [if_neg hk] at e
                have hk1 : (k != 1) = true := by simp [hk]
                have hk2 : (k == 1) = false := by simp [hk]
                have hkk := fun b hb => (U.out.2.2.1 b hb).2 hk
                have KK := Lib.hid hkk
                clear hk hkk
                generalize restF g t r = s at rb1 e ⊢
                have q1 : (s != n % 2 * 2) = false := by simp [e]
                have q2 : (s == n % 2 * 2) = true := by simp [e]
                clear e
                go_wp2_with fail
                go_loopw [182] (fun i wr => ∃ b : Nat, b ≤ t ∧ i = .int .i64 b ∧ Tab wr w5.heap.size 400 33 f ∧ Tab wr W6.heap.size (r * 20) 32 g ∧ Below w5.heap.size w5 wr) (fun i _ => t - (intOf i).toNat)
                case atStart => exact ⟨0, Nat.zero_le _, rfl, T.out.1, T.out.2.1, T.out.2.2⟩
                case round =>
                  obtain ⟨b, hb, rfl, hT1, hT2, hbel⟩ := hrel
                  by_cases hbt : b < t
                  · have g1 := hT1.cell (i := t * 20 + b) (by omega)
                    have g2 := hT1.cell (i := b * 20 + t) (by omega)
                    obtain ⟨h3, h4⟩ := KK.out b hbt
                    rw [h3] at g1
                    rw [h4] at g2
                    have V := Lib.hid (And.intro hT1 (And.intro hT2 hbel))
                    clear hT1 hT2 hbel h3 h4
                    go_wp2_with fail
                    go_quiet (fail)
                    go_wp2_with fail
                    refine ⟨⟨b + 1, by omega, by simp, V.out.1.below (pw_below_drewN (Below.refl _ _) _), V.out.2.1.below (pw_below_drewN (Below.refl _ _) _), pw_below_drewN V.out.2.2 _⟩, ?_⟩
                    simp only [intOf]
                    omega
                  · obtain rfl : b = t := by omega
                    have V := Lib.hid (And.intro hT1 (And.intro hT2 hbel))
                    clear hT1 hT2 hbel
                    go_wp2_with fail
                    refine ⟨⟨b + 1, by omega, by simp, V.out.1, V.out.2.1, V.out.2.2⟩, ?_⟩
                    simp only [intOf]
                    omega
        · have htn' : ¬ (t : Int) < n := htn
          have V := Lib.hid (And.intro hT1 (And.intro hT2 hbel))
          clear hT1 hT2 hbel
          go_wp2_with fail
          go_ret
          exact ⟨rfl, H5.out.1.trans (V.out.2.2.mono H5.out.1.size)⟩
theorem wf_bd {a : Int} (h : (Lit.int .i64 a).wf = true) : -9223372036854775808 ≤ a ∧ a ≤ 9223372036854775807 := by
  have h1 : IntKind.i64.min = -9223372036854775808 := rfl
  have h2 : IntKind.i64.max = 9223372036854775807 := rfl
  simp only [Lit.wf, h1, h2, Bool.and_eq_true, decide_eq_true_eq] at h
  exact h
theorem robinAll_walk (n k : Int) (w : World) (w0 : (Lit.int .i64 n).wf = true) (_w1 : (Lit.int .i64 k).wf = true) :
    Calls Try.prog 4 #[.int .i64 n, .int .i64 k] w fun e w' => e = .returned (.bool true) ∧ Below w.heap.size w w' := by
  by_cases hok : okNK n k
  · exact all_yes n k w hok
  · exact all_no n k w (wf_bd w0).1 (wf_bd w0).2 hok
end Go.Proofs.Ytihmfpefmmdecaa.All
