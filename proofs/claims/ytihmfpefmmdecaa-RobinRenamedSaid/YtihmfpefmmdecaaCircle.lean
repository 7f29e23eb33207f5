/- Contract of the iterator of robin.circle.all: the rounds of the circle, each in order. -/
import Derived.Test.YtihmfpefmmdecaaTurned
import Derived.Test.YtihmfpefmmdecaaRange
import Derived.Stop.RegionWithIn
namespace Go.Proofs.Ytihmfpefmmdecaa.All
open Go.RowKit Go.Proofs Go.Sort Go.Proofs.YtihmfpefmmdecaaW.PrintWords Go.Proofs.YtihmfpefmmdecaaW.PrintLast
attribute [local go_sem] Oper.semAt_some

def addM (r a b : Int) (home : Bool) : S36 := if home = true then ⟨r, a, b⟩ else ⟨r, b, a⟩

set_option maxHeartbeats 2000000 in
theorem add_calls (r a b : Int) (home : Bool) (L R base : Nat) (v : Value) (xs : List S36) (w : World) (hL : Boxed w L 22 v) (hR : Boxed w R 3 (.int .i64 r)) (ho : w.ownsRow base 36 3 v xs.length (flatM xs))
    (hb : base ≤ w.heap.size) (hLb : base ≤ L) (hne : L ≠ R) (hlen : xs.length ≤ 1000) :
    Calls Try.prog 93 #[.int .i64 a, .int .i64 b, .bool home, .pointer (some ⟨L, 0, none⟩), .pointer (some ⟨R, 0, none⟩)] w fun e w' => e = .returned (.tuple #[]) ∧
      ∃ v', Boxed w' L 22 v' ∧ Boxed w' R 3 (.int .i64 r) ∧ w'.ownsRow base 36 3 v' (xs.length + 1) (flatM (xs ++ [addM r a b home])) ∧ Below base w w' := by
  obtain ⟨i0, hi, hz0, hz1, hz2⟩ := info_parts info36
  have cL := hL.cell
  have cR := hR.cell
  have fin : ∀ (m : S36) (v' : Value) (w1 : World), w1.ownsRow base 36 3 v' (xs.length + 1) (flatM xs ++ mcells m) → (w.alloc (.cells (mcells m).toArray 36)).grownBy w1 v.ownBlock →
      ∃ g cap, v' = .slice (some ⟨g, 0, none⟩) (xs.length + 1) cap ∧ w1.cell? ⟨L, 0, none⟩ = some v ∧ w1.frozen? ⟨L, 0, none⟩ = false ∧
        (Boxed (w1.setCell ⟨L, 0, none⟩ v') L 22 v' ∧ Boxed (w1.setCell ⟨L, 0, none⟩ v') R 3 (.int .i64 r) ∧ (w1.setCell ⟨L, 0, none⟩ v').ownsRow base 36 3 v' (xs.length + 1) (flatM (xs ++ [m])) ∧ Below base w (w1.setCell ⟨L, 0, none⟩ v')) := by
    intro m v' w1 hown' hgrow
    obtain ⟨g, cap, hv⟩ := ownsRow_succ hown'
    obtain ⟨hv1, hv2, hr2, hk2, hb2⟩ := hL.appended (by decide) ho hb hLb hown' hgrow
    have hR1 : Boxed w1 R 3 (.int .i64 r) := (hR.alloc _).kept hgrow (hR.not_row (by decide) ho)
    exact ⟨g, cap, hv, hv1.cell, hv1.frozen, hv2, hR1.other (Ne.symm hne) _, by rw [flatM_snoc]; exact hr2, hb2⟩
  have FIN := Lib.hid fin
  clear fin hL hR
  cases home with
  | true =>
    go_enter Try.func93, Try.ntmps93
    go_wp2_with (at_builtin; refine wpList_append_own _ rfl _ _ 22 rfl base 36 i0 (.agg #[.int .i64 0, .int .i64 0, .int .i64 0]) 3 24 Try.underlying22 hi hz0 hz1 hz2 rfl (by decide) _ _ _ rfl (ho.alloc _) ⟨w.heap.size, 0, none⟩ 1 1 (mcells ⟨r, a, b⟩) rfl rfl ?c1 ?c2 ?c3 ?c4 ?c5 ?_)
    case c1 => exact news_cells _ (mcells ⟨r, a, b⟩) 36 rfl
    case c2 => exact mcells_one _
    case c3 => unfold maxLen; omega
    case c4 => omega
    case c5 => simp; omega
    · intro v' w1 hown' hgrow _
      obtain ⟨g, cap, rfl, cc, cf, hfin⟩ := FIN.out ⟨r, a, b⟩ v' w1 hown' hgrow
      have F := Lib.hid hfin
      clear hfin hown' hgrow FIN ho cL cR
      go_wp2
      go_end0
      exact ⟨rfl, _, F.out.1, F.out.2.1, F.out.2.2.1, F.out.2.2.2⟩
  | false =>
    go_enter Try.func93, Try.ntmps93
    go_wp2_with (at_builtin; refine wpList_append_own _ rfl _ _ 22 rfl base 36 i0 (.agg #[.int .i64 0, .int .i64 0, .int .i64 0]) 3 24 Try.underlying22 hi hz0 hz1 hz2 rfl (by decide) _ _ _ rfl (ho.alloc _) ⟨w.heap.size, 0, none⟩ 1 1 (mcells ⟨r, b, a⟩) rfl rfl ?d1 ?d2 ?d3 ?d4 ?d5 ?_)
    case d1 => exact news_cells _ (mcells ⟨r, b, a⟩) 36 rfl
    case d2 => exact mcells_one _
    case d3 => unfold maxLen; omega
    case d4 => omega
    case d5 => simp; omega
    · intro v' w1 hown' hgrow _
      obtain ⟨g, cap, rfl, cc, cf, hfin⟩ := FIN.out ⟨r, b, a⟩ v' w1 hown' hgrow
      have F := Lib.hid hfin
      clear hfin hown' hgrow FIN ho cL cR
      go_wp2
      go_end0
      exact ⟨rfl, _, F.out.1, F.out.2.1, F.out.2.2.1, F.out.2.2.2⟩

def rds (n : Int) : Int := n - 1 + n % 2
theorem rds_le (n : Int) (h1 : 2 ≤ n) (h2 : n ≤ 20) : 1 ≤ rds n ∧ rds n ≤ 19 ∧ rds n % 2 = 1 := by unfold rds; omega
def headL (n r : Int) : List S36 := if n % 2 = 0 then [addM r (n - 1) r (r % 2 == 1)] else []
def pairR (n r : Int) (i : Nat) : S36 := addM r ((r + ((i : Int) + 1)) % rds n) ((r - ((i : Int) + 1) + rds n) % rds n) (((i : Int) + 1) % 2 == 1)
def partL (n r : Int) (j : Nat) : List S36 := headL n r ++ (List.range j).map (pairR n r)
def circleL (n r : Int) : List S36 := partL n r ((rds n).toNat / 2)
theorem partL_succ (n r : Int) (j : Nat) : partL n r (j + 1) = partL n r j ++ [pairR n r j] := by simp [partL, List.range_succ]
theorem partL_len (n r : Int) (j : Nat) : (partL n r j).length ≤ j + 1 := by
  unfold partL headL
  split <;> simp

theorem all_calls (n r : Int) (w : World) :
    Calls Try.prog 60 #[.agg #[.int .i64 n, .int .i64 r]] w fun e w' => e = .returned (.func (.func 92) #[] #[.pointer (some ⟨w.heap.size, 0, none⟩)]) ∧ w' = w.alloc (.cells #[.int .i64 n, .int .i64 r] 92) := by
  go_enter Try.func60, Try.ntmps60
  go_wp2
  go_ret
  exact ⟨rfl, rfl⟩

/-- What is handed over: the round, the slice, the meetings that it holds. -/
abbrev Rnd := Int × Value × List S36
def GoodR (n : Int) (x : Rnd) : Prop := x.2.2.Perm (circleL n x.1) ∧ x.2.2.Pairwise mLe
def UpTo (n : Int) (k : Nat) (xs : List Rnd) : Prop := xs.map (·.1) = (List.range k).map (fun i : Nat => (i : Int)) ∧ ∀ x ∈ xs, GoodR n x
def RdR (x : Rnd) (B : Nat) (W : World) : Prop := W.ownsRow B 36 3 x.2.1 x.2.2.length (flatM x.2.2)

/-- One block stays as it lay, and the heap grows. -/
def KB (b : Nat) (A B : World) : Prop := A.heap.size ≤ B.heap.size ∧ (b < A.heap.size → B.heap[b]? = A.heap[b]?)
theorem KB.refl (b : Nat) (A : World) : KB b A A := ⟨Nat.le_refl _, fun _ => rfl⟩
theorem KB.trans {b : Nat} {A B C : World} (h : KB b A B) (k : KB b B C) : KB b A C := ⟨Nat.le_trans h.1 k.1, fun hb => (k.2 (Nat.lt_of_lt_of_le hb h.1)).trans (h.2 hb)⟩
theorem KB.of_below {b n : Nat} {A B : World} (hb : b < n) (h : Below n A B) : KB b A B := ⟨h.size, fun _ => h.block b hb⟩
theorem KB.cell {b : Nat} {A B : World} (h : KB b A B) (hb : b < A.heap.size) (i : Nat) : B.cell? ⟨b, i, none⟩ = A.cell? ⟨b, i, none⟩ := by
  unfold World.cell?
  simp only [h.2 hb]
theorem KB.put {b : Nat} {w : World} (hb : b < w.heap.size) (W : World) (l : Nat) (o o' : Obj) (hl : w.heap.size ≤ l) (_h : W.heap[l]? = some o) (_ : o.isCells = false) (_ : o.isWalk = false) : KB b W (W.putObj l o') := by
  have := belowK_b (n₀ := w.heap.size) (w := w) (Nat.le_refl _) W l o o' hl ‹_› ‹_› ‹_›
  exact KB.of_below hb this

theorem owns_low {w : World} {base lo : Nat} {v : Value} {n : Nat} {xs : List Value} (hl : lo ≤ base) (h : w.ownsRow base 36 3 v n xs) : w.ownsRow lo 36 3 v n xs := by
  obtain ⟨h1, h | ⟨g, cap, cur, h2, h3, h4⟩⟩ := h
  · exact ⟨h1, .inl h⟩
  · exact ⟨h1, .inr ⟨g, cap, cur, h2, Nat.le_trans hl h3, h4⟩⟩

theorem upTo_succ {n : Int} {k : Nat} {xs : List Rnd} {v : Value} {ys : List S36} (h : UpTo n k xs) (hg : GoodR n ((k : Int), v, ys)) : UpTo n (k + 1) (xs ++ [((k : Int), v, ys)]) := by
  refine ⟨by rw [List.map_append, h.1, List.range_succ, List.map_append]; rfl, fun x hx => ?_⟩
  rcases List.mem_append.1 hx with hx | hx
  · exact h.2 x hx
  · rw [List.mem_singleton.1 hx]
    exact hg

theorem yes_no {e : Ending} {A B C : Prop} (h : (e = .returned (.bool true) ∧ A ∧ B) ∨ (e = .returned (.bool false) ∧ C)) : ∃ b, e = .returned (.bool b) ∧ (b = true → A ∧ B) ∧ (b = false → C) := by
  rcases h with ⟨h, hab⟩ | ⟨h, hc⟩
  · exact ⟨true, h, (fun _ => hab), (fun h => by cases h)⟩
  · exact ⟨false, h, (fun h => by cases h), fun _ => hc⟩

set_option maxRecDepth 100000 in
set_option maxHeartbeats 4000000 in
theorem all1_in (m : Nat) (hm : 1 ≤ m) (l Bc : Nat) (n : Int) (h1 : 2 ≤ n) (h2 : n ≤ 20) (J Jx : List Rnd → World → Prop) (W : World) (hJ : AbidesFrom W.heap.size J)
    (hY : ∀ pre x W0 W1, J pre W0 → Below W0.heap.size W0 W1 → RdR x W0.heap.size W1 → (∃ k : Nat, k ≤ rds n ∧ UpTo n k (pre ++ [x])) → YieldAt Fence.wide (m - 1) Try.prog l #[.int .i64 x.1, x.2.1] W1 fun e W' =>
      (e = .returned (.bool true) ∧ J (pre ++ [x]) W' ∧ KB Bc W1 W') ∨ (e = .returned (.bool false) ∧ Jx (pre ++ [x]) W'))
    (hBc : Bc < W.heap.size) (c0 : W.cell? ⟨Bc, 0, none⟩ = some (.int .i64 n)) (c1 : W.cell? ⟨Bc, 1, none⟩ = some (.int .i64 (rds n))) (h0 : J [] W) :
    CallsIn Fence.wide m Try.prog 92 #[.func (.yield l) #[] #[], .pointer (some ⟨Bc, 0, none⟩)] W fun e W' => (∃ v, e = .returned v) ∧
      ((∃ xs, (∃ k : Nat, (k : Int) = rds n ∧ UpTo n k xs) ∧ J xs W') ∨ (∃ pre, (∃ k : Nat, k ≤ rds n ∧ UpTo n k pre) ∧ Jx pre W')) := by
  obtain ⟨q1, q2, q3⟩ := rds_le n h1 h2
  obtain ⟨R, hR⟩ : ∃ R, rds n = R := ⟨_, rfl⟩
  rw [hR] at c1 q1 q2 q3 hY ⊢
  have HR := Lib.hid hR
  clear hR
  have HJ := Lib.hid hJ
  have HY := Lib.hid hY
  clear hJ hY
  refine callsIn_of_wp Try.func92 rfl trivial ?_ rfl
  simp only [Try.ntmps92, List.size_toArray, List.length_cons, List.length_nil, Nat.reduceAdd, Nat.reduceSub, Array.replicate_succ, Array.replicate_zero, List.push_toArray, List.append_toArray, List.nil_append, List.cons_append]
  gi_wp2
  gi_loopw [9] (fun i wr => ∃ k : Nat, k ≤ R ∧ i = .int .i64 k ∧ ∃ xs, J xs wr ∧ UpTo n k xs ∧ KB Bc W wr)
    (fun i _ => (R - (intOf i)).toNat)
  case atStart => exact ⟨0, by omega, rfl, [], h0, ⟨rfl, by simp⟩, KB.refl _ _⟩
  case round =>
    obtain ⟨k, hk, rfl, xs, hJs, hU, hnx⟩ := hrel
    have d0 := (hnx.cell hBc 0).trans c0
    have d1 := (hnx.cell hBc 1).trans c1
    obtain ⟨wo, hwo⟩ : ∃ wo, wo = wr := ⟨_, rfl⟩
    subst hwo
    by_cases hlt : (k : Int) < R
    · by_cases hpar : n % 2 = 0
      · have hB2 : Bc < wo.heap.size := by have := hnx.1; omega
        have hB3 : Bc < wo.heap.size + 1 := by omega
        have bR : Boxed ((wo.alloc (.cells #[.int .i64 k] 3)).alloc (.cells #[.slice none 0 0] 22)) wo.heap.size 3 (.int .i64 k) := (Boxed.new wo 3 _).alloc _
        have bL : Boxed ((wo.alloc (.cells #[.int .i64 k] 3)).alloc (.cells #[.slice none 0 0] 22)) (wo.heap.size + 1) 22 (.slice none 0 0) := by
          have := Boxed.new (wo.alloc (.cells #[.int .i64 k] 3)) 22 (.slice none 0 0)
          simpa using this
        have hb1 : Below wo.heap.size wo ((wo.alloc (.cells #[.int .i64 k] 3)).alloc (.cells #[.slice none 0 0] 22)) := ((Below.refl _ wo).alloc (Nat.le_refl _) _).alloc (by simp) _
        have ha := add_calls k (n - 1) k ((k : Int) % 2 == 1) (wo.heap.size + 1) wo.heap.size wo.heap.size (.slice none 0 0) [] _ bL bR (World.ownsRow_nil _ _ _ _) hb1.size (by omega) (by omega) (by simp)
        have F := Lib.hid (And.intro bR (And.intro bL (And.intro hb1 ha)))
        clear bR bL hb1 ha
        gi_wp2_with fail
        refine ⟨trivial, callsIn_wide.2 (F.out.2.2.2.mono ?_)⟩
        rintro e W1 ⟨rfl, v1, bL1, bR1, ho1, hb2⟩
        have hb1 := F.out.2.2.1.trans hb2
        have e0 : [] ++ [addM k (n - 1) k ((k : Int) % 2 == 1)] = partL n k 0 := by simp [partL, headL, hpar]
        rw [e0] at ho1
        have ho2 : W1.ownsRow wo.heap.size 36 3 v1 (partL n k 0).length (flatM (partL n k 0)) := by
          have e2 : ([] : List S36).length + 1 = (partL n k 0).length := by rw [← e0]; rfl
          rw [← e2]
          exact ho1
        have G := Lib.hid (And.intro bR1 (And.intro bL1 (And.intro hb1 ho2)))
        clear F bL1 bR1 hb1 hb2 ho1 ho2 e0
        gi_wp2_with fail
        refine wpIn_wide.2 ?_
        go_loopw [6] (fun i wx => ∃ j : Nat, 2 * (j : Int) + 1 ≤ R ∧ i = .int .i64 ((j : Int) + 1) ∧ ∃ v, Boxed wx wo.heap.size 3 (.int .i64 k) ∧ Boxed wx (wo.heap.size + 1) 22 v ∧ Below wo.heap.size wo wx ∧ wx.ownsRow wo.heap.size 36 3 v (partL n k j).length (flatM (partL n k j)))
          (fun i _ => (R - intOf i).toNat)
        case atStart => exact ⟨0, by omega, rfl, v1, G.out⟩
        case round =>
          obtain ⟨j, hj, rfl, v2, bR2, bL2, hb2, ho2⟩ := hrel
          have e0 := (hb2.cell (p := ⟨Bc, 0, none⟩) hB2).trans d0
          have e1 := (hb2.cell (p := ⟨Bc, 1, none⟩) hB2).trans d1
          by_cases hjl : 2 * ((j : Int) + 1) < R
          · have cR := bR2.cell
            have cL := bL2.cell
            have hR0 : (R : Int) ≠ 0 := by omega
            have H2 := Lib.hid (And.intro bR2 (And.intro bL2 (And.intro hb2 ho2)))
            clear bR2 bL2 hb2 ho2
            go_wp2_with fail
            refine tail_region 19 mixed (by kernel_rfl) ?_
            intro W3 hW3
            have f1 : W3.cell? ⟨Bc, 1, none⟩ = some (.int .i64 R) := by rw [hW3]; simpa [go_sem] using e1
            have fR : W3.cell? ⟨wo.heap.size, 0, none⟩ = some (.int .i64 k) := by rw [hW3]; simpa [go_sem] using cR
            have bR3 : Boxed W3 wo.heap.size 3 (.int .i64 k) := by rw [hW3]; exact H2.out.1
            have bL3 : Boxed W3 (wo.heap.size + 1) 22 v2 := by rw [hW3]; exact H2.out.2.1
            have hb3 : Below wo.heap.size wo W3 := by rw [hW3]; exact H2.out.2.2.1.drew
            have ho3 : W3.ownsRow wo.heap.size 36 3 v2 (partL n k j).length (flatM (partL n k j)) := by rw [hW3]; exact H2.out.2.2.2.drew
            clear hW3
            have ha := add_calls k (((k : Int) + ((j : Int) + 1)) % R) (((k : Int) - ((j : Int) + 1) + R) % R) (((j : Int) + 1) % 2 == 1) (wo.heap.size + 1) wo.heap.size wo.heap.size v2 (partL n k j) _ bL3 bR3 ho3 hb3.size (by omega) (by omega) (by have := partL_len n k j; omega)
            have F := Lib.hid (And.intro hb3 ha)
            clear bR3 bL3 ho3 hb3 ha
            simp only [List.take_succ_cons, List.take_zero, List.drop_succ_cons, List.drop_zero]
            iterate 19 still_step
            refine wpStill_nil ?_
            go_wp2_with fail
            refine F.out.2.mono ?_
            rintro e W4 ⟨rfl, v3, bL4, bR4, ho4, hb4⟩
            have hb5 := F.out.1.trans hb4
            have ep : partL n k j ++ [addM k (((k : Int) + ((j : Int) + 1)) % R) (((k : Int) - ((j : Int) + 1) + R) % R) (((j : Int) + 1) % 2 == 1)] = partL n k (j + 1) := by
              rw [partL_succ, pairR, HR.out]
            rw [ep] at ho4
            have ho5 : W4.ownsRow wo.heap.size 36 3 v3 (partL n k (j + 1)).length (flatM (partL n k (j + 1))) := by
              have e2 : (partL n k j).length + 1 = (partL n k (j + 1)).length := by rw [partL_succ]; simp
              rw [← e2]
              exact ho4
            have G2 := Lib.hid (And.intro bR4 (And.intro bL4 (And.intro hb5 ho5)))
            clear F bL4 bR4 hb4 hb5 ho4 ho5 ep
            go_wp2_with fail
            refine ⟨⟨j + 1, by omega, by simp, v3, G2.out.1, G2.out.2.1, G2.out.2.2.1, G2.out.2.2.2⟩, ?_⟩
            simp only [intOf]
            omega
          · have cR := bR2.cell
            have cL := bL2.cell
            go_wp2_with fail
            have hj2 : partL n k j = circleL n k := by rw [circleL, HR.out]; congr 1; omega
            have hzl : (partL n k j).length ≤ 1000000 := by have := partL_len n k j; omega
            generalize partL n k j = zs at hj2 hzl ho2
            have HZ := Lib.hid hj2
            clear hj2
            obtain ⟨A2, cap2, rfl, hcap, hk2⟩ := reads_own ho2
            have hso := sorted_calls cap2 A2 zs wr.drew hzl hk2
            clear hcap hzl
            have hsz : wo.heap.size < wr.heap.size := Array.getElem?_eq_some_iff.1 bR2 |>.1
            have F := Lib.hid (And.intro hb2 (And.intro hso (And.intro hJs (And.intro hnx hU))))
            clear hb2 ho2 bR2 bL2 hso hJs hnx hU hk2 d0 d1 c0 c1 e0 e1
            gi_wp2_with fail
            gi_region_with (first
              | (refine ⟨trivial, callsIn_wide.2 (F.out.2.1.mono ?_)⟩
                 rintro e W5 ⟨v5, ys, rfl, hl5, hp5, hs5, ho5, hb5⟩
                 have hb6 := F.out.1.drew.trans (hb5.mono (Nat.le_of_lt hsz))
                 have cR5 := (hb5.cell (p := ⟨wo.heap.size, 0, none⟩) hsz).trans cR
                 obtain ⟨fn, tmps, assign, body, hy, hRY⟩ := HY.out xs ((k : Int), v5, ys) wo W5 F.out.2.2.1 hb6 (by rw [RdR]; rw [hl5]; exact owns_low (Nat.le_of_lt hsz) ho5) ⟨k + 1, by omega, upTo_succ F.out.2.2.2.2 ⟨by rw [← HZ.out]; exact hp5, hs5⟩⟩
                 have hG : GoodR n ((k : Int), v5, ys) := ⟨by rw [← HZ.out]; exact hp5, hs5⟩
                 clear hp5 hs5 ho5 hb5)
              | (refine hRY.mono ?_
                 rintro e W6 h6
                 obtain ⟨b, rfl, ht, hf⟩ := yes_no h6
                 clear h6))
            all_goals (
              cases b with
              | true =>
                obtain ⟨hJ6, hb7⟩ := ht rfl
                have hb8 := F.out.2.2.2.1.trans ((KB.of_below hB2 hb6).trans hb7)
                have hU6 := upTo_succ (v := v5) F.out.2.2.2.2 (by assumption : GoodR n ((k : Int), v5, ys))
                clear ht hf
                gi_wp2_with fail
                go_roundw
                case rel => exact ⟨k + 1, by omega, by simp, _, hJ6, hU6, hb8⟩
                case measure => simp [intOf]; omega
              | false =>
                have hJx6 := hf rfl
                have hU6 := upTo_succ (v := v5) F.out.2.2.2.2 (by assumption : GoodR n ((k : Int), v5, ys))
                clear ht hf
                gi_wp2_with fail
                refine bodyPost_ret (results_none rfl _ _ _) rfl ?_
                exact ⟨⟨_, rfl⟩, .inr ⟨_, ⟨k + 1, by omega, hU6⟩, hJx6⟩⟩)
      · have hpar' : (n % 2 == 0) = false := by simp [hpar]
        have hB2 : Bc < wo.heap.size := by have := hnx.1; omega
        have hB3 : Bc < wo.heap.size + 1 := by omega
        have bR : Boxed ((wo.alloc (.cells #[.int .i64 k] 3)).alloc (.cells #[.slice none 0 0] 22)) wo.heap.size 3 (.int .i64 k) := (Boxed.new wo 3 _).alloc _
        have bL : Boxed ((wo.alloc (.cells #[.int .i64 k] 3)).alloc (.cells #[.slice none 0 0] 22)) (wo.heap.size + 1) 22 (.slice none 0 0) := by
          have := Boxed.new (wo.alloc (.cells #[.int .i64 k] 3)) 22 (.slice none 0 0)
          simpa using this
        have hb1 : Below wo.heap.size wo ((wo.alloc (.cells #[.int .i64 k] 3)).alloc (.cells #[.slice none 0 0] 22)) := ((Below.refl _ wo).alloc (Nat.le_refl _) _).alloc (by simp) _
        have e0 : partL n k 0 = [] := by simp [partL, headL, hpar]
        have ho2 : ((wo.alloc (.cells #[.int .i64 k] 3)).alloc (.cells #[.slice none 0 0] 22)).ownsRow wo.heap.size 36 3 (.slice none 0 0) (partL n k 0).length (flatM (partL n k 0)) := by
          rw [e0]
          exact World.ownsRow_nil _ _ _ _
        have G := Lib.hid (And.intro bR (And.intro bL (And.intro hb1 ho2)))
        clear bR bL hb1 ho2 e0
        gi_wp2_with fail
        refine wpIn_wide.2 ?_
        go_loopw [6] (fun i wx => ∃ j : Nat, 2 * (j : Int) + 1 ≤ R ∧ i = .int .i64 ((j : Int) + 1) ∧ ∃ v, Boxed wx wo.heap.size 3 (.int .i64 k) ∧ Boxed wx (wo.heap.size + 1) 22 v ∧ Below wo.heap.size wo wx ∧ wx.ownsRow wo.heap.size 36 3 v (partL n k j).length (flatM (partL n k j)))
          (fun i _ => (R - intOf i).toNat)
        case atStart => exact ⟨0, by omega, rfl, .slice none 0 0, G.out⟩
        case round =>
          obtain ⟨j, hj, rfl, v2, bR2, bL2, hb2, ho2⟩ := hrel
          have e0 := (hb2.cell (p := ⟨Bc, 0, none⟩) hB2).trans d0
          have e1 := (hb2.cell (p := ⟨Bc, 1, none⟩) hB2).trans d1
          by_cases hjl : 2 * ((j : Int) + 1) < R
          · have cR := bR2.cell
            have cL := bL2.cell
            have hR0 : (R : Int) ≠ 0 := by omega
            have H2 := Lib.hid (And.intro bR2 (And.intro bL2 (And.intro hb2 ho2)))
            clear bR2 bL2 hb2 ho2
            go_wp2_with fail
            refine tail_region 19 mixed (by kernel_rfl) ?_
            intro W3 hW3
            have f1 : W3.cell? ⟨Bc, 1, none⟩ = some (.int .i64 R) := by rw [hW3]; simpa [go_sem] using e1
            have fR : W3.cell? ⟨wo.heap.size, 0, none⟩ = some (.int .i64 k) := by rw [hW3]; simpa [go_sem] using cR
            have bR3 : Boxed W3 wo.heap.size 3 (.int .i64 k) := by rw [hW3]; exact H2.out.1
            have bL3 : Boxed W3 (wo.heap.size + 1) 22 v2 := by rw [hW3]; exact H2.out.2.1
            have hb3 : Below wo.heap.size wo W3 := by rw [hW3]; exact H2.out.2.2.1.drew
            have ho3 : W3.ownsRow wo.heap.size 36 3 v2 (partL n k j).length (flatM (partL n k j)) := by rw [hW3]; exact H2.out.2.2.2.drew
            clear hW3
            have ha := add_calls k (((k : Int) + ((j : Int) + 1)) % R) (((k : Int) - ((j : Int) + 1) + R) % R) (((j : Int) + 1) % 2 == 1) (wo.heap.size + 1) wo.heap.size wo.heap.size v2 (partL n k j) _ bL3 bR3 ho3 hb3.size (by omega) (by omega) (by have := partL_len n k j; omega)
            have F := Lib.hid (And.intro hb3 ha)
            clear bR3 bL3 ho3 hb3 ha
            simp only [List.take_succ_cons, List.take_zero, List.drop_succ_cons, List.drop_zero]
            iterate 19 still_step
            refine wpStill_nil ?_
            go_wp2_with fail
            refine F.out.2.mono ?_
            rintro e W4 ⟨rfl, v3, bL4, bR4, ho4, hb4⟩
            have hb5 := F.out.1.trans hb4
            have ep : partL n k j ++ [addM k (((k : Int) + ((j : Int) + 1)) % R) (((k : Int) - ((j : Int) + 1) + R) % R) (((j : Int) + 1) % 2 == 1)] = partL n k (j + 1) := by
              rw [partL_succ, pairR, HR.out]
            rw [ep] at ho4
            have ho5 : W4.ownsRow wo.heap.size 36 3 v3 (partL n k (j + 1)).length (flatM (partL n k (j + 1))) := by
              have e2 : (partL n k j).length + 1 = (partL n k (j + 1)).length := by rw [partL_succ]; simp
              rw [← e2]
              exact ho4
            have G2 := Lib.hid (And.intro bR4 (And.intro bL4 (And.intro hb5 ho5)))
            clear F bL4 bR4 hb4 hb5 ho4 ho5 ep
            go_wp2_with fail
            refine ⟨⟨j + 1, by omega, by simp, v3, G2.out.1, G2.out.2.1, G2.out.2.2.1, G2.out.2.2.2⟩, ?_⟩
            simp only [intOf]
            omega
          · have cR := bR2.cell
            have cL := bL2.cell
            go_wp2_with fail
            have hj2 : partL n k j = circleL n k := by rw [circleL, HR.out]; congr 1; omega
            have hzl : (partL n k j).length ≤ 1000000 := by have := partL_len n k j; omega
            generalize partL n k j = zs at hj2 hzl ho2
            have HZ := Lib.hid hj2
            clear hj2
            obtain ⟨A2, cap2, rfl, hcap, hk2⟩ := reads_own ho2
            have hso := sorted_calls cap2 A2 zs wr.drew hzl hk2
            clear hcap hzl
            have hsz : wo.heap.size < wr.heap.size := Array.getElem?_eq_some_iff.1 bR2 |>.1
            have F := Lib.hid (And.intro hb2 (And.intro hso (And.intro hJs (And.intro hnx hU))))
            clear hb2 ho2 bR2 bL2 hso hJs hnx hU hk2 d0 d1 c0 c1 e0 e1
            gi_wp2_with fail
            gi_region_with (first
              | (refine ⟨trivial, callsIn_wide.2 (F.out.2.1.mono ?_)⟩
                 rintro e W5 ⟨v5, ys, rfl, hl5, hp5, hs5, ho5, hb5⟩
                 have hb6 := F.out.1.drew.trans (hb5.mono (Nat.le_of_lt hsz))
                 have cR5 := (hb5.cell (p := ⟨wo.heap.size, 0, none⟩) hsz).trans cR
                 obtain ⟨fn, tmps, assign, body, hy, hRY⟩ := HY.out xs ((k : Int), v5, ys) wo W5 F.out.2.2.1 hb6 (by rw [RdR]; rw [hl5]; exact owns_low (Nat.le_of_lt hsz) ho5) ⟨k + 1, by omega, upTo_succ F.out.2.2.2.2 ⟨by rw [← HZ.out]; exact hp5, hs5⟩⟩
                 have hG : GoodR n ((k : Int), v5, ys) := ⟨by rw [← HZ.out]; exact hp5, hs5⟩
                 clear hp5 hs5 ho5 hb5)
              | (refine hRY.mono ?_
                 rintro e W6 h6
                 obtain ⟨b, rfl, ht, hf⟩ := yes_no h6
                 clear h6))
            all_goals (
              cases b with
              | true =>
                obtain ⟨hJ6, hb7⟩ := ht rfl
                have hb8 := F.out.2.2.2.1.trans ((KB.of_below hB2 hb6).trans hb7)
                have hU6 := upTo_succ (v := v5) F.out.2.2.2.2 (by assumption : GoodR n ((k : Int), v5, ys))
                clear ht hf
                gi_wp2_with fail
                go_roundw
                case rel => exact ⟨k + 1, by omega, by simp, _, hJ6, hU6, hb8⟩
                case measure => simp [intOf]; omega
              | false =>
                have hJx6 := hf rfl
                have hU6 := upTo_succ (v := v5) F.out.2.2.2.2 (by assumption : GoodR n ((k : Int), v5, ys))
                clear ht hf
                gi_wp2_with fail
                refine bodyPost_ret (results_none rfl _ _ _) rfl ?_
                exact ⟨⟨_, rfl⟩, .inr ⟨_, ⟨k + 1, by omega, hU6⟩, hJx6⟩⟩)
    · obtain rfl : (k : Int) = R := by omega
      gi_wp2
      go_end0
      exact ⟨⟨_, rfl⟩, .inl ⟨_, ⟨k, by simp, hU⟩, hJs⟩⟩

theorem all_seq (m : Nat) (hm : 1 ≤ m) (Bc : Nat) (n : Int) (h1 : 2 ≤ n) (h2 : n ≤ 20) (w : World) (hBc : Bc < w.heap.size) (c0 : w.cell? ⟨Bc, 0, none⟩ = some (.int .i64 n)) (c1 : w.cell? ⟨Bc, 1, none⟩ = some (.int .i64 (rds n))) :
    Range.SeqR m Try.prog 92 #[.pointer (some ⟨Bc, 0, none⟩)] (fun x : Rnd => #[.int .i64 x.1, x.2.1]) RdR (KB Bc) (fun xs => ∃ k : Nat, (k : Int) = rds n ∧ UpTo n k xs) (fun pre => ∃ k : Nat, k ≤ rds n ∧ UpTo n k pre) w := fun l J Jx W hW hJ _ hY h0 =>
  all1_in m hm l Bc n h1 h2 J Jx W hJ hY (Nat.lt_of_lt_of_le hBc hW.size) ((hW.cell (p := ⟨Bc, 0, none⟩) hBc).trans c0) ((hW.cell (p := ⟨Bc, 1, none⟩) hBc).trans c1) h0

end Go.Proofs.Ytihmfpefmmdecaa.All
