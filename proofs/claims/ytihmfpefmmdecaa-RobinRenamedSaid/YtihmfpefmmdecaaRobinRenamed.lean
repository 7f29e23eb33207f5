/- The walk through fastilaw20.RobinRenamed. -/
import Derived.Test.YtihmfpefmmdecaaRename
import Derived.Test.YtihmfpefmmdecaaRef20
import Derived.Test.YtihmfpefmmdecaaTab2
import Derived.Test.YtihmfpefmmdecaaSane20
import Derived.Deep.DeepCutAuto
namespace Go.Proofs.Ytihmfpefmmdecaa.All
open Go.RowKit Go.Proofs Go.Sort Go.Proofs.YtihmfpefmmdecaaW.PrintWords Go.Proofs.YtihmfpefmmdecaaW.PrintLast

theorem permF_id {i : Nat} {f : Nat → Int} (h : PermF i f) : PermF ((i + 1 : Nat) : Int) (upd f i i) := by
  constructor
  · intro a ha
    unfold upd
    split
    · omega
    · have := h.1 a (by omega)
      omega
  · intro a b ha hb e
    unfold upd at e
    split at e <;> split at e
    · omega
    · have := h.1 b (by omega)
      omega
    · have := h.1 a (by omega)
      omega
    · exact h.2 a b (by omega) (by omega) e
theorem permF_swap {n : Int} {f : Nat → Int} (h : PermF n f) {i k : Nat} (hi : (i : Int) < n) (hk : (k : Int) < n) : PermF n (upd (upd f i (f k)) k (f i)) := by
  have h1 := h.1 i hi
  have h2 := h.1 k hk
  constructor
  · intro a ha
    unfold upd
    split
    · exact h1
    · split
      · exact h2
      · exact h.1 a ha
  · intro a b ha hb e
    have key : ∀ x, (upd (upd f i (f k)) k (f i)) x = f (if x = k then i else if x = i then k else x) := by
      intro x
      unfold upd
      split
      · rfl
      · split <;> rfl
    rw [key, key] at e
    have q := h.2 _ _ (by split; exact hi; split; exact hk; exact ha) (by split; exact hi; split; exact hk; exact hb) e
    by_cases a1 : a = k
    · rw [if_pos a1] at q
      by_cases b1 : b = k
      · omega
      · rw [if_neg b1] at q
        by_cases b2 : b = i
        · rw [if_pos b2] at q; omega
        · rw [if_neg b2] at q; omega
    · rw [if_neg a1] at q
      by_cases a2 : a = i
      · rw [if_pos a2] at q
        by_cases b1 : b = k
        · rw [if_pos b1] at q; omega
        · rw [if_neg b1] at q
          by_cases b2 : b = i
          · omega
          · rw [if_neg b2] at q; omega
      · rw [if_neg a2] at q
        by_cases b1 : b = k
        · rw [if_pos b1] at q; omega
        · rw [if_neg b1] at q
          by_cases b2 : b = i
          · rw [if_pos b2] at q; omega
          · rw [if_neg b2] at q; exact q

theorem put_calls (y : S36) (l : List S36) (A : Option Addr) (c base : Nat) (ok : Nat → Prop) (w : World) (hl : l.length ≤ 1000000) (hR : Kd.R k36 36 w base ok (.slice A l.length c) l) :
    Calls Try.prog 21 #[.slice A l.length c, .agg #[.int .i64 y.f0, .int .i64 y.f1, .int .i64 y.f2]] w fun e w' => ∃ A' c', e = .returned (.slice A' (insM y l).length c') ∧ Kd.R k36 36 w' w.heap.size (fun _ => True) (.slice A' (insM y l).length c') (insM y l) ∧ Below w.heap.size w w' := by
  obtain ⟨_, hc, hC⟩ := Kd.R_reads' hR
  obtain ⟨q, hq⟩ := (put_ev y l hl).rounds
  refine (fastiref20_Put.calls q A c l y.f0 y.f1 y.f2 _ w hC hc hq).mono ?_
  rintro e w' ⟨v, rfl, hr, hb⟩
  obtain ⟨A', c', rfl⟩ := Kd.R_slice hr
  exact ⟨A', c', rfl, hr, hb⟩
theorem insL_le (L : List S36) : (insL L).Pairwise mLe := by
  unfold insL
  suffices h : ∀ (acc : List S36), acc.Pairwise mLe → (L.foldl (fun acc y => insM y acc) acc).Pairwise mLe from h [] List.Pairwise.nil
  induction L with
  | nil => intro acc h; exact h
  | cons y L ih => intro acc h; exact ih _ (insM_le h)
theorem likes_len {f : Nat → Int} {l L : List S36} (h : Likes f l L) : l.length = L.length := by
  induction h with
  | nil => rfl
  | snoc _ _ ih => rw [List.length_append, List.length_append, ih]; rfl

set_option maxRecDepth 100000 in
set_option maxHeartbeats 8000000 in
theorem ren_no (n k : Int) (A : Option Addr) (len cap : Nat) (u : Int) (w : World) (hno : ¬ okNK n k) :
    Calls Try.prog 6 #[.int .i64 n, .int .i64 k, .slice A len cap, .int .u32 u] w fun e w' => e = .returned (.bool true) ∧ Below w.heap.size w w' := by
  have hq := fun W => right_no hno W
  have F := Lib.hid hq
  clear hq hno
  go_enter Try.func6, Try.ntmps6
  go_wp2_with fail
  refine (sane20_calls _).mono ?_
  rintro e w1 ⟨rfl, hb1⟩
  have H1 := Lib.hid hb1
  clear hb1
  go_wp2_with fail
  refine (F.out _).mono ?_
  rintro e w4 ⟨rfl, hb4⟩
  have H4 := Lib.hid (H1.out.trans (hb4.mono H1.out.size))
  clear hb4 H1
  go_wp2_with fail
  go_ret
  exact ⟨rfl, H4.out⟩

set_option maxRecDepth 100000 in
set_option maxHeartbeats 8000000 in
theorem ren_yes (n k : Int) (A2 : Option Addr) (len2 cap2 : Nat) (u : Int) (w : World) (hok : okNK n k) (_hu : 0 ≤ u ∧ u ≤ 4294967295)
    (hby : ∀ i, i < len2 → ∃ ad z, A2 = some ad ∧ w.cell? (ad.add i) = some (.int .u8 z) ∧ 0 ≤ z ∧ z ≤ 255) :
    Calls Try.prog 6 #[.int .i64 n, .int .i64 k, .slice A2 len2 cap2, .int .u32 u] w fun e w' => e = .returned (.bool true) ∧ Below w.heap.size w w' := by
  obtain ⟨N, rfl⟩ : ∃ N : Nat, n = (N : Int) := ⟨n.toNat, by have := hok.1; omega⟩
  have hm := fun W => make_list N k W hok
  have hq := fun W => right_yes hok W
  have hml := makeF_len hok
  have hrob := make_ok hok
  obtain ⟨m, hmm⟩ : ∃ m, makeF N k = m := ⟨_, rfl⟩
  rw [hmm] at hm hml hrob
  have hall : ∀ t, t < m.length → okR N (40 : Nat) (rdN m t) := by
    intro t ht
    have := (robinOK_iff.1 hrob).2.1 _ (List.getElem_mem ht)
    have hRb : (roundsF N k).1 ≤ 38 := by
      obtain ⟨q1, q2, q3⟩ := rds_le N hok.1 hok.2.1
      unfold roundsF
      rw [if_pos hok]
      by_cases hk : k = 1
      · simp [hk]; omega
      · simp [hk]; omega
    rw [rdN, rd_nat _ ht]
    exact ⟨this.1, by have := this.2.1; omega, this.2.2⟩
  obtain ⟨i3, hi3, hz0, hz1, hz2⟩ := info_parts info3
  have b1 := hok.1
  have b2 := hok.2.1
  have F := Lib.hid (And.intro hm (And.intro hq (And.intro hall (And.intro hrob (And.intro hby hok)))))
  clear hm hq hall hrob hmm hby hok
  go_enter Try.func6, Try.ntmps6
  go_wp2_with fail
  refine (sane20_calls _).mono ?_
  rintro e w1 ⟨rfl, hb1⟩
  have H1 := Lib.hid hb1
  clear hb1
  go_wp2_with fail
  refine (F.out.2.1 _).mono ?_
  rintro e w2 ⟨rfl, hb2⟩
  have H2 := Lib.hid (H1.out.trans (hb2.mono H1.out.size))
  clear hb2 H1
  go_wp2_with fail
  refine (F.out.1 _).mono ?_
  rintro e w5 ⟨A, c, rfl, hc5, hk5, _, hb5⟩
  have H5 := Lib.hid (And.intro (H2.out.trans (hb5.mono H2.out.size)) hk5)
  clear hb5 H2 hc5 hk5
  go_wp2_with (at_make; refine wpList_make_full _ rfl _ _ 40 rfl w5.heap.size 3 i3 (.int .i64 0) 1 Try.underlying40 hi3 hz0 hz1 .i64 .i64 N N N rfl rfl rfl rfl (by rw [hz2]; omega) (by unfold maxLen; omega) (Nat.le_refl _) ?_; intro w7 how7 hg7)
  have t7 := tab_made how7 (show (Value.int .i64 0).cells = ((List.range 1).map fun _ => Value.int .i64 0).toArray from rfl) (by decide) rfl
  rw [Nat.mul_one] at t7
  have hb7 : Below w5.heap.size w5 w7 := (Below.refl _ w5).grown hg7 (Nat.le_refl _) (fun _ e => by cases e)
  have H7 := Lib.hid (And.intro t7 hb7)
  clear how7 hg7 t7 hb7
  go_wp2_with fail
  go_loopw [36] (fun i wr => ∃ j : Nat, j ≤ N ∧ i = .int .i64 j ∧ ∃ f, Tab wr w5.heap.size N 3 f ∧ PermF j f ∧ Below w5.heap.size w5 wr)
    (fun i _ => N - (intOf i).toNat)
  case atStart => exact ⟨0, Nat.zero_le _, rfl, _, H7.out.1, ⟨fun a h => by omega, fun a b h => by omega⟩, H7.out.2⟩
  case round =>
    clear H7
    obtain ⟨j, hj, rfl, f, hT, hP, hbel⟩ := hrel
    by_cases hlt : j < N
    · have g1 := hT.cell hlt
      have g2 := hT.free j
      have t1 := hT.set j (j : Int)
      have p1 := permF_id hP
      have hb1 := hbel.setCell (p := ⟨w5.heap.size, j, none⟩) (Nat.le_refl _) (.int .i64 (j : Int))
      have T := Lib.hid (And.intro t1 (And.intro p1 hb1))
      clear hT hP hbel t1 p1 hb1
      by_cases hl2 : j < len2
      · obtain ⟨ad, z, e, hz, z0, z1⟩ := F.out.2.2.2.2.1 j hl2
        subst e
        obtain ⟨K, hK⟩ : ∃ K : Nat, z % ((j : Int) + 1) = K := ⟨(z % ((j : Int) + 1)).toNat, by rw [Int.toNat_of_nonneg (Int.emod_nonneg _ (by omega))]⟩
        have hKj : K ≤ j := by
          have := Int.emod_lt_of_pos z (show 0 < (j : Int) + 1 by omega)
          omega
        have hKt : z.tmod ((j : Int) + 1) = K := by rw [Int.tmod_eq_emod_of_nonneg z0]; exact hK
        go_upto_region 13 with fail
        obtain ⟨W1, hW1⟩ : ∃ W1, wr.setCell { block := w5.heap.size, off := j } (Value.int IntKind.i64 ↑j) = W1 := ⟨_, rfl⟩
        have T1 := T.out
        rw [hW1] at T1 ⊢
        clear hW1
        obtain ⟨t1, p1, hb1⟩ := T1
        have hadb : ad.block < w.heap.size := by
          have := World.block_lt_of_cell? w _ hz
          rwa [add_block] at this
        have hz1' := (((H5.out.1.trans (hb1.mono H5.out.1.size)).cell (p := ad.add j) (by rw [add_block]; exact hadb))).trans hz
        obtain ⟨f1, hf1⟩ : ∃ f1, upd f j (j : Int) = f1 := ⟨_, rfl⟩
        rw [hf1] at t1 p1
        have k1 := t1.cell (i := K) (by omega)
        have k2 := t1.cell (i := j) (by omega)
        have k3 := t1.free K
        have k4 := t1.free j
        have e1 : f1 j = j := by rw [← hf1]; simp [upd]
        rw [e1] at k2
        have hps := permF_swap p1 (show (j : Int) < ((j + 1 : Nat) : Int) by omega) (show (K : Int) < ((j + 1 : Nat) : Int) by omega)
        rw [e1] at hps
        have E1 := Lib.hid e1
        have X := Lib.hid (And.intro t1 (And.intro hps hb1))
        clear t1 p1 hps hb1 hf1 e1 T hz g1 g2
        by_cases hKe : K = j
        · have hf : f1 K = j := by rw [hKe]; exact E1.out
          rw [hf] at k1 X
          have hKe1 : (K : Int) = (j : Int) := by omega
          rw [hKe1] at hK hKt
          rw [hKe] at X
          clear hKe hKe1 k1 k3 hf
          go_wp2_with fail
          refine ⟨⟨j + 1, by omega, by simp, _, (X.out.1.set j (j : Int)).set j (j : Int), X.out.2.1, (X.out.2.2.setCell (p := ⟨w5.heap.size, j, none⟩) (Nat.le_refl _) _).setCell (p := ⟨w5.heap.size, j, none⟩) (Nat.le_refl _) _⟩, ?_⟩
          simp only [intOf]
          omega
        · have hKe2 : ¬ j = K := fun e => hKe e.symm
          go_wp2_with fail
          refine ⟨⟨j + 1, by omega, by simp, _, (X.out.1.set j (f1 K)).set K (j : Int), X.out.2.1, (X.out.2.2.setCell (p := ⟨w5.heap.size, j, none⟩) (Nat.le_refl _) _).setCell (p := ⟨w5.heap.size, K, none⟩) (Nat.le_refl _) _⟩, ?_⟩
          simp only [intOf]
          omega
      · go_wp2_with fail
        refine ⟨⟨j + 1, by omega, by simp, _, T.out.1, T.out.2.1, T.out.2.2⟩, ?_⟩
        simp only [intOf]
        omega
    · obtain rfl : j = N := by omega
      clear hlt hj
      obtain ⟨wo, hwo⟩ : ∃ wo, wo = wr := ⟨_, rfl⟩
      subst hwo
      have T := Lib.hid (And.intro hT (And.intro hP hbel))
      clear hT hP hbel
      go_wp2_with fail
      go_loopw [14, 15, 69] (fun s14 s15 i wr => ∃ q : Nat, q ≤ m.length ∧ i = .int .i64 q ∧ ∃ (L2 : List S36) (A3 A4 : Option Addr) (c3 c4 : Nat), s14 = .slice A3 (insL ((m.take q).map (renM f))).length c3 ∧ s15 = .slice A4 (insL L2).length c4 ∧
          Kd.R k36 36 wr w5.heap.size (fun _ => True) s14 (insL ((m.take q).map (renM f))) ∧ Kd.R k36 36 wr w5.heap.size (fun _ => True) s15 (insL L2) ∧ Likes f (m.take q) L2 ∧ Tab wr w5.heap.size j 3 f ∧ Below w5.heap.size w5 wr)
        (fun _ _ i _ => m.length - (intOf i).toNat)
      case atStart => exact ⟨0, Nat.zero_le _, rfl, [], none, none, 0, 0, rfl, rfl, Kd.R_nil _ _ _ _ _, Kd.R_nil _ _ _ _ _, Likes.nil, T.out.1, T.out.2.2⟩
      case round =>
        obtain ⟨q, hq, rfl, L2, A3, A4, c3, c4, rfl, rfl, hR3, hR4, hlk, hT, hbel⟩ := hrel
        by_cases hlt : q < m.length
        · obtain ⟨ad, e, e0, e1, e2⟩ := at_T36 (Kd.C_below H5.out.2 hbel) q (by omega) (by omega)
          simp only [Int.toNat_natCast] at e0 e1 e2
          subst e
          have hx : okR j (40 : Nat) (rd_T36 m (q : Int)) := F.out.2.2.1 q hlt
          have hts : m.take (q + 1) = m.take q ++ [rd_T36 m (q : Int)] := by rw [List.take_succ_eq_append_getElem hlt, rd_nat m hlt]
          generalize rd_T36 m (q : Int) = x at hx hts e0 e1 e2
          obtain ⟨x1, x2, ⟨x3, x4⟩, ⟨x5, x6⟩, x7⟩ := hx
          obtain ⟨h, hh⟩ : ∃ h : Nat, x.f1 = h := ⟨x.f1.toNat, by omega⟩
          obtain ⟨a, ha⟩ : ∃ a : Nat, x.f2 = a := ⟨x.f2.toNat, by omega⟩
          obtain ⟨r, hr⟩ : ∃ r : Int, x.f0 = r := ⟨_, rfl⟩
          have hren : renM f x = ⟨r, f h, f a⟩ := by unfold renM; rw [hh, ha, hr]; rfl
          have hls : ∀ y, (y = renM f x ∨ y = swapM (renM f x)) → Likes f (m.take (q + 1)) (L2 ++ [y]) := fun y hy => by rw [hts]; exact Likes.snoc hlk hy
          have hl3 : insL ((m.take (q + 1)).map (renM f)) = insM ⟨r, f h, f a⟩ (insL ((m.take q).map (renM f))) := by rw [hts, List.map_append, List.map_cons, List.map_nil, insL_snoc, hren]
          rw [hh] at e1 x4
          rw [ha] at e2 x6
          rw [hr] at e0
          have n1 : (insL ((m.take q).map (renM f))).length ≤ 1000 := by rw [(insL_perm _).length_eq, List.length_map, List.length_take]; omega
          have n2 : (insL L2).length ≤ 1000 := by rw [(insL_perm _).length_eq, ← likes_len hlk, List.length_take]; omega
          generalize hl1 : insL ((m.take q).map (renM f)) = l1 at hR3 hl3 n1 ⊢
          obtain ⟨l2, hl2⟩ : ∃ l2, insL L2 = l2 := ⟨_, rfl⟩
          rw [hl2] at hR4 n2 ⊢
          rw [hren] at hls
          have U := Lib.hid (And.intro hR3 (And.intro hR4 (And.intro hls (And.intro hl3 (And.intro hT (And.intro hbel hl2))))))
          clear hR3 hR4 hls hl3 hT hbel hlk hren hts hl1 hl2 x1 x2 x3 x5 x7 hh ha hr
          go_upto_region 23 with fail
          obtain ⟨W1, hW1⟩ : ∃ W1, wr.alloc (Obj.cells #[Value.int IntKind.i64 r, Value.int IntKind.i64 ↑h, Value.int IntKind.i64 ↑a] 36) = W1 := ⟨_, rfl⟩
          have hx1 : W1.heap[wr.heap.size]? = some (.cells #[Value.int IntKind.i64 r, Value.int IntKind.i64 ↑h, Value.int IntKind.i64 ↑a] 36 (0, 0)) := by rw [← hW1]; exact World.alloc_heap_new wr _
          have t1 : Tab W1 w5.heap.size j 3 f := by rw [← hW1]; exact U.out.2.2.2.2.1.alloc _
          have hb1 : Below wr.heap.size wr W1 := by rw [← hW1]; exact (Below.refl _ wr).alloc (Nat.le_refl _) _
          rw [hW1]
          clear hW1
          have n5 : w5.heap.size < wr.heap.size := U.out.2.2.2.2.1.lt
          have g1 := t1.cell (i := h) (by omega)
          have g2 := t1.cell (i := a) (by omega)
          have k0 : W1.cell? ⟨wr.heap.size, 0, none⟩ = some (.int .i64 r) := by simp [World.cell?, hx1]
          have k1 : W1.cell? ⟨wr.heap.size, 1, none⟩ = some (.int .i64 (h : Int)) := by simp [World.cell?, hx1]
          have k2 : W1.cell? ⟨wr.heap.size, 2, none⟩ = some (.int .i64 (a : Int)) := by simp [World.cell?, hx1]
          have k3 : W1.frozen? ⟨wr.heap.size, 1, none⟩ = false := by simp [World.frozen?, hx1]
          have k4 : W1.frozen? ⟨wr.heap.size, 2, none⟩ = false := by simp [World.frozen?, hx1]
          have X := Lib.hid (And.intro hx1 (And.intro t1 hb1))
          clear hx1 t1 hb1
          go_region
          go_upto_region 24 with fail
          obtain ⟨W2, hW2⟩ : ∃ W2, ((W1.setCell { block := wr.heap.size, off := 1 } (Value.int IntKind.i64 (f h))).setCell { block := wr.heap.size, off := 2 } (Value.int IntKind.i64 (f a))).drew = W2 := ⟨_, rfl⟩
          have hx2 : W2.heap[wr.heap.size]? = some (.cells #[Value.int IntKind.i64 r, Value.int IntKind.i64 (f h), Value.int IntKind.i64 (f a)] 36 (0, 0)) := by
            rw [← hW2]
            exact heap_setCell_in (heap_setCell_in X.out.1 _) _
          have t2 : Tab W2 w5.heap.size j 3 f := by rw [← hW2]; exact (X.out.2.1.other _ _ (by show w5.heap.size ≠ wr.heap.size; omega)).other _ _ (by show w5.heap.size ≠ wr.heap.size; omega)
          have hb2 : Below wr.heap.size wr W2 := by rw [← hW2]; exact ((X.out.2.2.setCell (p := ⟨wr.heap.size, 1, none⟩) (Nat.le_refl _) _).setCell (p := ⟨wr.heap.size, 2, none⟩) (Nat.le_refl _) _).drew
          rw [hW2]
          clear hW2 g1 g2 k0 k1 k2 k3 k4 X
          have k0 : W2.cell? ⟨wr.heap.size, 0, none⟩ = some (.int .i64 r) := by simp [World.cell?, hx2]
          have k1 : W2.cell? ⟨wr.heap.size, 1, none⟩ = some (.int .i64 (f h)) := by simp [World.cell?, hx2]
          have k2 : W2.cell? ⟨wr.heap.size, 2, none⟩ = some (.int .i64 (f a)) := by simp [World.cell?, hx2]
          have hR3 := Kd.R_below U.out.1 hb2
          have hR4 := Kd.R_below U.out.2.1 hb2
          obtain ⟨_, hc3, hC3⟩ := Kd.R_reads' hR3
          obtain ⟨qq, hqq⟩ := (put_ev ⟨r, f h, f a⟩ l1 (by omega)).rounds
          have hput := fastiref20_Put.calls qq A3 c3 l1 r (f h) (f a) _ W2 hC3 hc3 hqq
          obtain ⟨l1', hl1'⟩ : ∃ l1', insM ⟨r, f h, f a⟩ l1 = l1' := ⟨_, rfl⟩
          rw [hl1'] at hput
          have HL1 := Lib.hid (U.out.2.2.2.1.trans hl1')
          have n3 : l1'.length ≤ 1001 := by rw [← hl1', insM_len]; omega
          clear hl1'
          have P := Lib.hid hput
          have Y := Lib.hid (And.intro hx2 (And.intro t2 (And.intro hb2 hR4)))
          have hsz2 : wr.heap.size < W2.heap.size := (Array.getElem?_eq_some_iff.1 hx2).1
          clear hput hR3 hR4 hC3 hqq hx2 t2 hb2 hc3
          go_wp2_with fail
          refine P.out.mono ?_
          rintro e W3 ⟨v3, rfl, hR3, hb3⟩
          obtain ⟨A5, c5', hv5⟩ := Kd.R_slice hR3
          rw [hv5] at hR3 ⊢
          have hx3 := (hb3.block _ hsz2).trans Y.out.1
          have t3 := Y.out.2.1.below hb3
          have hR4 := Kd.R_below Y.out.2.2.2 hb3
          have hb23 := Y.out.2.2.1.trans (hb3.mono (Nat.le_of_lt hsz2))
          have k0 : W3.cell? ⟨wr.heap.size, 0, none⟩ = some (.int .i64 r) := by simp [World.cell?, hx3]
          have k1 : W3.cell? ⟨wr.heap.size, 1, none⟩ = some (.int .i64 (f h)) := by simp [World.cell?, hx3]
          have k2 : W3.cell? ⟨wr.heap.size, 2, none⟩ = some (.int .i64 (f a)) := by simp [World.cell?, hx3]
          have k3 : W3.frozen? ⟨wr.heap.size, 1, none⟩ = false := by simp [World.frozen?, hx3]
          have k4 : W3.frozen? ⟨wr.heap.size, 2, none⟩ = false := by simp [World.frozen?, hx3]
          have Z := Lib.hid (And.intro hx3 (And.intro t3 (And.intro hR3 (And.intro hR4 (And.intro hb23 hv5)))))
          clear hx3 t3 hR3 hR4 hb23 hb3 P Y hv5
          go_upto_region 25 with fail
          go_wp2_with fail
          · -- venues exchanged
            have hR4 := Kd.R_far (Kd.R_far (Kd.R_below (Kd.R_bound U.out.2.1) Z.out.2.2.2.2.1) (p := ⟨wr.heap.size, 1, none⟩) (fun k hk e => by have := hk.2.2.1; simp at e; omega) (.int .i64 (f a))) (p := ⟨wr.heap.size, 2, none⟩) (fun k hk e => by have := hk.2.2.1; simp at e; omega) (.int .i64 (f h))
            have hR3 := Kd.R_far (Kd.R_far (Kd.R_bound Z.out.2.2.1) (p := ⟨wr.heap.size, 1, none⟩) (fun k hk e => by have := hk.2.1; simp at e; omega) (.int .i64 (f a))) (p := ⟨wr.heap.size, 2, none⟩) (fun k hk e => by have := hk.2.1; simp at e; omega) (.int .i64 (f h))
            have t4 := (Z.out.2.1.other ⟨wr.heap.size, 1, none⟩ (.int .i64 (f a)) (by show w5.heap.size ≠ wr.heap.size; omega)).other ⟨wr.heap.size, 2, none⟩ (.int .i64 (f h)) (by show w5.heap.size ≠ wr.heap.size; omega)
            have hb4 := (Z.out.2.2.2.2.1.setCell (p := ⟨wr.heap.size, 1, none⟩) (Nat.le_refl _) (.int .i64 (f a))).setCell (p := ⟨wr.heap.size, 2, none⟩) (Nat.le_refl _) (.int .i64 (f h))
            generalize (W3.setCell { block := wr.heap.size, off := 1 } (Value.int IntKind.i64 (f a))).setCell { block := wr.heap.size, off := 2 } (Value.int IntKind.i64 (f h)) = W4 at hR4 hR3 t4 hb4 ⊢
            obtain ⟨l2', hl2'⟩ : ∃ l2', insM ⟨r, f a, f h⟩ l2 = l2' := ⟨_, rfl⟩
            have hput := put_calls ⟨r, f a, f h⟩ l2 A4 c4 _ _ _ (by omega) hR4
            rw [hl2'] at hput
            have hlk := U.out.2.2.1 ⟨r, f a, f h⟩ (.inr rfl)
            have hin : insL (L2 ++ [⟨r, f a, f h⟩]) = l2' := by rw [insL_snoc, U.out.2.2.2.2.2.2, hl2']
            have hbel4 := U.out.2.2.2.2.2.1.trans (hb4.mono U.out.2.2.2.2.2.1.size)
            have P := Lib.hid (And.intro hput (And.intro hlk (And.intro hin (And.intro hR3 (And.intro t4 (And.intro hbel4 hb4.size))))))
            clear hput hlk hin hR3 hR4 t4 hb4 hbel4 hl2' k0 k1 k2 k3 k4 Z
            refine P.out.1.mono ?_
            rintro e W5 ⟨A6, c6, rfl, hR6, hb5⟩
            have V := Lib.hid (And.intro hR6 hb5)
            clear hR6 hb5
            go_wp2_with fail
            refine ⟨⟨q + 1, by omega, by simp, L2 ++ [⟨r, f a, f h⟩], A5, A6, c5', c6, by rw [HL1.out], by rw [P.out.2.2.1], ?_, ?_, P.out.2.1, P.out.2.2.2.2.1.below V.out.2, P.out.2.2.2.2.2.1.trans (V.out.2.mono P.out.2.2.2.2.2.1.size)⟩, ?_⟩
            · rw [HL1.out]
              exact Kd.R_mono (Kd.R_lower (Kd.R_below P.out.2.2.2.1 V.out.2) (by omega)) (fun _ _ => trivial)
            · rw [P.out.2.2.1]
              exact Kd.R_lower V.out.1 (by have := P.out.2.2.2.2.2.1.size; omega)
            · simp only [intOf]
              omega
          · -- as they are
            have hR4 := Z.out.2.2.2.1
            have hR3 := Z.out.2.2.1
            have t4 := Z.out.2.1
            have hb4 := Z.out.2.2.2.2.1
            obtain ⟨l2', hl2'⟩ : ∃ l2', insM ⟨r, f h, f a⟩ l2 = l2' := ⟨_, rfl⟩
            have hput := put_calls ⟨r, f h, f a⟩ l2 A4 c4 _ _ _ (by omega) hR4
            rw [hl2'] at hput
            have hlk := U.out.2.2.1 ⟨r, f h, f a⟩ (.inl rfl)
            have hin : insL (L2 ++ [⟨r, f h, f a⟩]) = l2' := by rw [insL_snoc, U.out.2.2.2.2.2.2, hl2']
            have hbel4 := U.out.2.2.2.2.2.1.trans (hb4.mono U.out.2.2.2.2.2.1.size)
            have P := Lib.hid (And.intro hput (And.intro hlk (And.intro hin (And.intro hR3 (And.intro t4 (And.intro hbel4 hb4.size))))))
            clear hput hlk hin hR3 hR4 t4 hb4 hbel4 hl2' k0 k1 k2 k3 k4 Z
            refine P.out.1.mono ?_
            rintro e W5 ⟨A6, c6, rfl, hR6, hb5⟩
            have V := Lib.hid (And.intro hR6 hb5)
            clear hR6 hb5
            go_wp2_with fail
            refine ⟨⟨q + 1, by omega, by simp, L2 ++ [⟨r, f h, f a⟩], A5, A6, c5', c6, by rw [HL1.out], by rw [P.out.2.2.1], ?_, ?_, P.out.2.1, P.out.2.2.2.2.1.below V.out.2, P.out.2.2.2.2.2.1.trans (V.out.2.mono P.out.2.2.2.2.2.1.size)⟩, ?_⟩
            · rw [HL1.out]
              exact Kd.R_mono (Kd.R_lower (Kd.R_below P.out.2.2.2.1 V.out.2) (by omega)) (fun _ _ => trivial)
            · rw [P.out.2.2.1]
              exact Kd.R_lower V.out.1 (by have := P.out.2.2.2.2.2.1.size; omega)
            · simp only [intOf]
              omega
        · obtain rfl : q = m.length := by omega
          rw [List.take_length] at hlk hR3 ⊢
          have hok := F.out.2.2.2.2.2
          have o1 : checkF j k (insL (m.map (renM f))) = 0 := by
            unfold checkF
            rw [if_pos hok, if_pos]
            have hl := likes_map f m m.length (Nat.le_refl _)
            rw [List.take_length] at hl
            exact like_ok F.out.2.2.2.1 T.out.2.1 hl (.inr rfl) (insL_perm _) (insL_le _)
          have hlen1 : (insL (m.map (renM f))).length ≤ 1000 := by rw [(insL_perm _).length_eq, List.length_map]; omega
          have hlen2 : (insL L2).length ≤ 1000 := by rw [(insL_perm _).length_eq, ← likes_len hlk]; omega
          have o2 : k = 1 → checkF j k (insL L2) = 0 := fun hk => by
            unfold checkF
            rw [if_pos hok, if_pos]
            exact like_ok F.out.2.2.2.1 T.out.2.1 hlk (.inl hk) (insL_perm _) (insL_le _)
          generalize insL (m.map (renM f)) = l1 at hR3 o1 hlen1 ⊢
          generalize insL L2 = l2 at hR4 o2 hlen2 ⊢
          obtain ⟨_, hc3, hC3⟩ := Kd.R_reads' hR3
          obtain ⟨_, hc4, hC4⟩ := Kd.R_reads' hR4
          have hck1 := robin_Check.calls j k A3 c3 l1 0 wr hC3 hc3 (by unfold robin_Check.f; rw [if_pos ⟨by omega, by omega, by omega⟩, o1])
          have Z := Lib.hid (And.intro hck1 (And.intro o2 (And.intro hC4 (And.intro hc4 hbel))))
          clear hck1 o1 o2 hC3 hC4 hc3 hc4 hR3 hR4 hlk hT hbel hok
          go_wp2_with fail
          refine Z.out.1.mono ?_
          rintro e W2 ⟨rfl, hb2⟩
          by_cases hk : k = 1
          · have hck2 := robin_Check.calls j k A4 c4 l2 0 W2 (Kd.C_below Z.out.2.2.1 hb2) Z.out.2.2.2.1 (by unfold robin_Check.f; rw [if_pos ⟨by omega, by omega, by omega⟩, Z.out.2.1 hk])
            subst hk
            have V := Lib.hid (And.intro hck2 hb2)
            clear hck2 hb2
            go_wp2_with fail
            refine V.out.1.mono ?_
            rintro e W3 ⟨rfl, hb3⟩
            have X := Lib.hid hb3
            clear hb3
            go_wp2_with fail
            go_ret
            exact ⟨rfl, H5.out.1.trans ((Z.out.2.2.2.2.trans ((V.out.2.trans (X.out.mono V.out.2.size)).mono Z.out.2.2.2.2.size)).mono H5.out.1.size)⟩
          · have hk1 : (k != 1) = true := by simp [hk]
            have hk2 : (k == 1) = false := by simp [hk]
            have V := Lib.hid hb2
            clear hb2 hk
            go_wp2_with fail
            go_ret
            exact ⟨rfl, H5.out.1.trans ((Z.out.2.2.2.2.trans (V.out.mono Z.out.2.2.2.2.size)).mono H5.out.1.size)⟩
theorem robinRenamed_walk (n k : Int) (A : Option Addr) (len cap : Nat) (u : Int) (w : World) (_w0 : (Lit.int .i64 n).wf = true) (_w1 : (Lit.int .i64 k).wf = true)
    (hby : ∀ j, j < len → ∃ ad z, A = some ad ∧ w.cell? (ad.add j) = some (.int .u8 z) ∧ (Lit.int .u8 z).wf = true) (w3 : (Lit.int .u32 u).wf = true) :
    Calls Try.prog 6 #[.int .i64 n, .int .i64 k, .slice A len cap, .int .u32 u] w fun e w' => e = .returned (.bool true) ∧ Below w.heap.size w w' := by
  by_cases hok : okNK n k
  · refine ren_yes n k A len cap u w hok ?_ fun i hi => ?_
    · have h1 : IntKind.u32.min = 0 := rfl
      have h2 : IntKind.u32.max = 4294967295 := rfl
      simpa only [Lit.wf, h1, h2, Bool.and_eq_true, decide_eq_true_eq] using w3
    · obtain ⟨ad, z, h1, h2, h3⟩ := hby i hi
      have h4 : IntKind.u8.min = 0 := rfl
      have h5 : IntKind.u8.max = 255 := rfl
      simp only [Lit.wf, h4, h5, Bool.and_eq_true, decide_eq_true_eq] at h3
      exact ⟨ad, z, h1, h2, h3⟩
  · exact ren_no n k A len cap u w hok
end Go.Proofs.Ytihmfpefmmdecaa.All
