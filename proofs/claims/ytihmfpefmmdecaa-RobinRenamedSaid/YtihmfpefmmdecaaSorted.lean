/- Contract of robin.sorted: it hands back a new slice that holds the same meetings, in order. -/
import Derived.RangeFuncNested
import Derived.RangeFuncBound
import Derived.RangeFuncCalls
import Derived.RangeFuncLeaves
import Derived.RangeFuncBox
import Derived.OwnWalkIn
import Derived.TacticsInMore
import Derived.LoopNIn
import Derived.LoopIn
import Derived.Test.YtihmfpefmmdecaaSortRow
import Derived.Test.YtihmfpefmmdecaaShelf
import Derived.Test.YtihmfpefmmdecaaLeaf
namespace Go.Proofs.Ytihmfpefmmdecaa.All
open Go.RowKit Go.Proofs Go.Sort Go.Proofs.YtihmfpefmmdecaaW.PrintWords Go.Proofs.YtihmfpefmmdecaaW.PrintLast
attribute [local go_sem] Oper.semAt_some

def mv (x : S36) : Value := .agg #[.int .i64 x.f0, .int .i64 x.f1, .int .i64 x.f2]
def mcells (x : S36) : List Value := [.int .i64 x.f0, .int .i64 x.f1, .int .i64 x.f2]
def flatM (xs : List S36) : List Value := xs.flatMap mcells

theorem add_block (ad : Addr) (j : Nat) : (ad.add j).block = ad.block := by unfold Addr.add; split <;> rfl

/-- What has come when k rounds are over. -/
theorem take_snocM (zs : List S36) {k : Nat} (hk : k < zs.length) : zs.take (k + 1) = zs.take k ++ [rd_T36 zs k] := by
  rw [List.take_succ_eq_append_getElem hk]
  simp [rd_T36, List.getD_eq_getElem?_getD, hk]

set_option maxRecDepth 100000 in
set_option maxHeartbeats 2000000 in
theorem values1_in (n : Nat) (h1 : 1 ≤ n) (l Bs n₀ cap : Nat) (A : Option Addr) (zs : List S36) (hA : ∀ ad, A = some ad → 0 < zs.length → ad.block < n₀) (J Jx : List S36 → World → Prop)
    (hreach : zs.length * 24 ≤ 140737488351232)
    (hY : ∀ pre x W, J pre W → pre.length < zs.length → YieldAt Fence.wide (n - 1) Try.prog l #[mv x] W fun e W' =>
      (e = .returned (.bool true) ∧ J (pre ++ [x]) W' ∧ Below n₀ W W') ∨ (e = .returned (.bool false) ∧ Jx (pre ++ [x]) W'))
    (W : World) (hJ : AbidesFrom W.heap.size J) (hn : n₀ ≤ W.heap.size) (hBs : W.cell? ⟨Bs, 0, none⟩ = some (.slice A zs.length cap)) (hc : Kd.C k36 W A zs.length zs) (h0 : J [] W) :
    CallsIn Fence.wide n Try.prog 109 #[.func (.yield l) #[] #[], .pointer (some ⟨Bs, 0, none⟩)] W fun e W' => (∃ v, e = .returned v) ∧
      ((∃ ys, ys = zs ∧ J ys W') ∨ (∃ pre, pre <+: zs ∧ Jx pre W')) := by
  refine callsIn_of_wp Try.func109 rfl trivial ?_ rfl
  simp only [Try.ntmps109, List.size_toArray, List.length_cons, List.length_nil, Nat.reduceAdd, Nat.reduceSub, Array.replicate_succ, Array.replicate_zero, List.push_toArray, List.append_toArray, List.nil_append, List.cons_append]
  gi_wp2
  gi_loopw [7] (fun i wr => ∃ k : Nat, k ≤ zs.length ∧ i = .int .i64 k ∧ J (zs.take k) wr ∧ Below n₀ W wr)
    (fun i _ => zs.length - (intOf i).toNat)
  case atStart => exact ⟨0, Nat.zero_le _, rfl, by simpa using h0, Below.refl _ _⟩
  case round =>
    obtain ⟨k, hk, rfl, hJs, hnx⟩ := hrel
    by_cases hlt : k < zs.length
    · obtain ⟨ad, e, c0, c1, c2⟩ := at_T36 hc k (by omega) (by omega)
      have hb := hA ad e (by omega)
      have d0 := (hnx.cell (p := ad.add ((k : Int).toNat * 3)) (by rw [add_block]; exact hb)).trans c0
      have d1 := (hnx.cell (p := ⟨(ad.add ((k : Int).toNat * 3)).block, (ad.add ((k : Int).toNat * 3)).off + 1, none⟩) (by rw [add_block]; exact hb)).trans c1
      have d2 := (hnx.cell (p := ⟨(ad.add ((k : Int).toNat * 3)).block, (ad.add ((k : Int).toNat * 3)).off + 2, none⟩) (by rw [add_block]; exact hb)).trans c2
      subst e
      clear c0 c1 c2 hc
      simp only [Int.toNat_natCast] at d0 d1 d2
      have hJ2 : J (zs.take k) (wr.alloc (.cells #[.int .i64 (rd_T36 zs k).f0, .int .i64 (rd_T36 zs k).f1, .int .i64 (rd_T36 zs k).f2] 36)) := hJ _ _ _ none hJs (World.grownBy_alloc _ _ _) (fun r h => by cases h)
      obtain ⟨fn, tmps, assign, body, hy, hR⟩ := hY _ (rd_T36 zs k) _ hJ2 (by rw [List.length_take]; omega)
      unfold mv at hy
      gi_wp2
      refine hR.mono ?_
      rintro e W3 (⟨rfl, hJ3, hk3⟩ | ⟨rfl, hJx3⟩)
      · gi_wp2
        go_roundw
        case rel => exact ⟨k + 1, by omega, by simp, by rw [take_snocM zs hlt]; exact hJ3, hnx.trans (((Below.refl _ _).alloc (Nat.le_trans hn hnx.size) _).trans hk3)⟩
        case measure => simp [intOf]; omega
      · gi_wp2
        refine bodyPost_ret (results_none rfl _ _ _) rfl ?_
        exact ⟨⟨_, rfl⟩, .inr ⟨_, by rw [← take_snocM zs hlt]; exact List.take_prefix _ _, hJx3⟩⟩
    · obtain rfl : k = zs.length := by omega
      gi_wp2
      go_end0
      exact ⟨⟨_, rfl⟩, .inl ⟨_, rfl, by rw [List.take_length] at hJs; exact hJs⟩⟩

theorem values_calls (A : Option Addr) (len cap : Nat) (w : World) :
    Calls Try.prog 95 #[.slice A len cap] w fun e w' => e = .returned (.func (.func 109) #[] #[.pointer (some ⟨w.heap.size, 0, none⟩)]) ∧ w' = w.alloc (.cells #[.slice A len cap] 22) := by
  go_enter Try.func95, Try.ntmps95
  go_wp2
  go_ret
  exact ⟨rfl, rfl⟩

theorem values_stops (n : Nat) (h1 : 1 ≤ n) (Bs n₀ cap : Nat) (A : Option Addr) (zs : List S36) (hA : ∀ ad, A = some ad → 0 < zs.length → ad.block < n₀) (hreach : zs.length * 24 ≤ 140737488351232)
    (w : World) (hBs : Bs < w.heap.size) (hn : n₀ ≤ w.heap.size) (hB : w.cell? ⟨Bs, 0, none⟩ = some (.slice A zs.length cap)) (hc : Kd.C k36 w A zs.length zs) :
    SeqStopsK Fence.wide n Try.prog 109 #[.pointer (some ⟨Bs, 0, none⟩)] (fun x : S36 => #[mv x]) (Below n₀) (fun ys => ys = zs) (fun pre => pre <+: zs) zs.length w := fun l J Jx W hW hJ _ hY h0 =>
  values1_in n h1 l Bs n₀ cap A zs hA J Jx hreach hY W hJ (Nat.le_trans hn hW.size) ((hW.cell (p := ⟨Bs, 0, none⟩) hBs).trans hB) (Kd.C_below hc hW) h0

theorem cells_kept {X Y : World} {row : Option Nat} {B : Nat} {cs : Array Value} {t : TypeId} {fr : Nat × Nat} (h : X.heap[B]? = some (.cells cs t fr)) (hg : X.grownBy Y row)
    (hr : ∀ r, row = some r → ∃ o : Obj, X.heap[r]? = some o ∧ o.isCells = false) : Y.heap[B]? = some (.cells cs t fr) := by
  refine (hg.block B (Array.getElem?_eq_some_iff.1 h).1 (fun e => ?_)).trans h
  obtain ⟨o, ho, hc⟩ := hr B e.symm
  rw [h] at ho
  cases ho
  cases hc

theorem flatM_snoc (pre : List S36) (x : S36) : flatM (pre ++ [x]) = flatM pre ++ mcells x := by simp [flatM]

set_option maxRecDepth 100000 in
set_option maxHeartbeats 4000000 in
theorem appendSeq_calls (Bs cap : Nat) (A : Option Addr) (zs : List S36) (w : World) (hA : ∀ ad, A = some ad → 0 < zs.length → ad.block < w.heap.size) (hreach : zs.length * 24 ≤ 140737488351232)
    (hBs : Bs < w.heap.size) (hB : w.cell? ⟨Bs, 0, none⟩ = some (.slice A zs.length cap)) (hc : Kd.C k36 w A zs.length zs) :
    Calls Try.prog 113 #[.slice none 0 0, .func (.func 109) #[] #[.pointer (some ⟨Bs, 0, none⟩)]] w fun e w' => ∃ v, e = .returned v ∧ w'.ownsRow w.heap.size 36 3 v zs.length (flatM zs) ∧ Below w.heap.size w w' := by
  refine (callsIn_wide (n := 9)).1 ?_
  refine callsIn_of_wp_marks Try.func113 rfl trivial ?_ rfl
  simp only [Try.ntmps113, List.size_toArray, List.length_cons, List.length_nil, Nat.reduceAdd, Nat.reduceSub, Array.replicate_succ, Array.replicate_zero, List.push_toArray, List.append_toArray, List.nil_append, List.cons_append]
  gi_wp2
  have b0 := Boxed.new w 22 (.slice none 0 0)
  have hB0 : Below w.heap.size w (w.alloc (.cells #[.slice none 0 0] 22)) := (Below.refl _ w).alloc (Nat.le_refl _) _
  have hsz : (w.alloc (.cells #[.slice none 0 0] 22)).heap.size = w.heap.size + 1 := by simp
  have hB1 := (hB0.cell (p := ⟨Bs, 0, none⟩) hBs).trans hB
  have hc1 := Kd.C_below hc hB0
  obtain ⟨W0, hW0⟩ : ∃ W0, w.alloc (.cells #[.slice none 0 0] 22) = W0 := ⟨_, rfl⟩
  rw [hW0] at b0 hB0 hsz hB1 hc1 ⊢
  clear hW0
  refine wpIn_rangeFunc_ownH rfl (by omega) (gf := 109) (lb := #[.pointer (some ⟨Bs, 0, none⟩)]) rfl trivial (enters_of Try.func109 (by kernel_rfl) rfl)
    (values_stops 8 (by omega) Bs w.heap.size cap A zs hA hreach W0 (by omega) (by omega) hB1 hc1) belowK_t (belowK_b (by omega)) (Below.refl _ _) (fun _ => rfl)
    (fun pre W => (∃ v, Boxed W w.heap.size 22 v ∧ W.ownsRow w.heap.size 36 3 v pre.length (flatM pre) ∧ True) ∧ Below w.heap.size w W)
    (fun _ _ _ => False)
    (OwnFrom.and (Own.from (holdsRow_own _ _ _ _ _ (fun pre : List S36 => pre.length) (fun pre => flatM pre) (fun _ _ => True)) _) (ownFrom_below (Nat.le_refl _) (by omega)))
    (fun _ _ _ _ _ hs _ _ => hs)
    ⟨⟨_, b0, World.ownsRow_nil _ _ _ _, trivial⟩, hB0⟩
    (fun x a' W => ∃ Bx, w.heap.size < Bx ∧ W.heap[Bx]? = some (.cells #[.int .i64 x.f0, .int .i64 x.f1, .int .i64 x.f2] 36 (0, 0)) ∧ a' = { tmps := #[.slice none 0 0, .func (.func 109) #[] #[.pointer (some ⟨Bs, 0, none⟩)], .pointer (some ⟨w.heap.size, 0, none⟩), undef, .slice none 0 0, .pointer (some ⟨Bx, 0, none⟩), .func (.func 109) #[] #[.pointer (some ⟨Bs, 0, none⟩)], .agg #[.int .i64 x.f0, .int .i64 x.f1, .int .i64 x.f2], undef, undef, undef, undef, undef], defers := [] })
    (fun x a' _ X Y row hs hg hr => by obtain ⟨Bx, h1, h2, h3⟩ := hs; exact ⟨Bx, h1, cells_kept h2 hg (fun r e => (hr r e).2), h3⟩)
    ?assign ?body ?done ?stop
  case assign =>
    rintro l pre x W K ⟨⟨v, bv, ov, _⟩, hBW⟩ hK
    unfold mv
    gi_wp2
    exact hK _ _ ((KeepsOthers.alloc _ _).from _) ((Below.refl _ W).alloc hBW.size _) ⟨⟨v, bv.alloc _, ov.alloc _, trivial⟩, hBW.alloc hBW.size _⟩ ⟨W.heap.size, bv.lt, World.alloc_heap_new W _, rfl⟩
  case body =>
    rintro l pre x a' W hl _ ⟨⟨v, bv, ov, _⟩, hBW⟩ ⟨Bx, hBx, hx, rfl⟩ hlen
    have cv := bv.cell
    have x0 : W.cell? ⟨Bx, 0, none⟩ = some (.int .i64 x.f0) := by simp [World.cell?, hx]
    have x1 : W.cell? ⟨Bx, 1, none⟩ = some (.int .i64 x.f1) := by simp [World.cell?, hx]
    have x2 : W.cell? ⟨Bx, 2, none⟩ = some (.int .i64 x.f2) := by simp [World.cell?, hx]
    obtain ⟨i0, hi, hz0, hz1, hz2⟩ := info_parts info36
    clear hx hB hc hB1 hc1 hB0 b0
    gi_wp2_with (gi_at_builtin; refine wpListIn_append_own _ rfl _ _ 22 rfl w.heap.size 36 i0 (.agg #[.int .i64 0, .int .i64 0, .int .i64 0]) 3 24 Try.underlying22 hi hz0 hz1 hz2 rfl (by decide) _ _ _ rfl (ov.alloc _) ⟨W.heap.size, 0, none⟩ 1 1 (mcells x) rfl rfl ?c1 ?c2 ?c3 ?c4 ?c5 ?_)
    case c1 =>
      intro j u hj
      match j, hj with
      | 0, hj => simp [mcells] at hj; subst hj; simp [go_sem, Addr.add]
      | 1, hj => simp [mcells] at hj; subst hj; simp [go_sem, Addr.add]
      | 2, hj => simp [mcells] at hj; subst hj; simp [go_sem, Addr.add]
      | j + 3, hj => simp [mcells] at hj
    case c2 => intro u hu; simp [mcells] at hu; rcases hu with rfl | rfl | rfl <;> rfl
    case c3 => unfold maxLen; omega
    case c4 => omega
    case c5 => have := hBW.size; simp; omega
    · intro v' w1 hown' hgrow _
      obtain ⟨g', cap', rfl⟩ := ownsRow_succ hown'
      obtain ⟨hv1, hv2, hr2, hk2, hb2⟩ := bv.appended (by decide) ov hBW.size (Nat.le_refl _) hown' hgrow
      have hc1 := hv1.cell
      have hf1 := hv1.frozen
      clear hown' hgrow ov bv cv
      gi_wp2
      exact ⟨hk2.from _, hb2, ⟨⟨_, hv2, by rw [flatM_snoc, List.length_append]; exact hr2, trivial⟩, hBW.trans hb2⟩⟩
  case done =>
    rintro D ys W hD rfl ⟨⟨v, bv, ov, _⟩, hBW⟩ hK
    have cv := bv.cell
    clear hB hc hB1 hc1 hB0 b0
    gi_wp2
    refine ⟨by simp, .inl ⟨_, _, rfl, run_takeDeferred hK, ?_⟩⟩
    exact ⟨_, results_tmp rfl _ _ _, _, rfl, ownsRow_putObj ov _ hK rfl, hBW.trans (belowK_b (w := w) (Nat.le_refl _) W D _ _ (by omega) hK rfl rfl)⟩
  case stop =>
    rintro D c pre W _ _ h _
    exact h.elim

theorem collect_calls (Bs cap : Nat) (A : Option Addr) (zs : List S36) (w : World) (hA : ∀ ad, A = some ad → 0 < zs.length → ad.block < w.heap.size) (hreach : zs.length * 24 ≤ 140737488351232)
    (hBs : Bs < w.heap.size) (hB : w.cell? ⟨Bs, 0, none⟩ = some (.slice A zs.length cap)) (hc : Kd.C k36 w A zs.length zs) :
    Calls Try.prog 107 #[.func (.func 109) #[] #[.pointer (some ⟨Bs, 0, none⟩)]] w fun e w' => ∃ v, e = .returned v ∧ w'.ownsRow w.heap.size 36 3 v zs.length (flatM zs) ∧ Below w.heap.size w w' := by
  have h := appendSeq_calls Bs cap A zs w hA hreach hBs hB hc
  have H := Lib.hid h
  clear h hB hc
  go_enter Try.func107, Try.ntmps107
  go_wp2_with fail
  refine H.out.mono ?_
  rintro e w' ⟨v, rfl, ho, hb⟩
  go_wp2
  go_ret
  exact ⟨_, rfl, ho, hb⟩

/-! ### the sort -/
instance : Inhabited S36 := ⟨z36⟩
def ordM (x y : S36) : Int := ordI x.f0 x.f1 y.f0 y.f1
/-- x does not come behind y. -/
def mLe (x y : S36) : Prop := x.f0 < y.f0 ∨ x.f0 = y.f0 ∧ x.f1 ≤ y.f1
def mLt (x y : S36) : Prop := x.f0 < y.f0 ∨ x.f0 = y.f0 ∧ x.f1 < y.f1
instance (x y : S36) : Decidable (mLt x y) := by unfold mLt; exact inferInstance
theorem ordI_neg (a b c d : Int) : ordI a b c d < 0 ↔ a < c ∨ a = c ∧ b < d := by
  unfold ordI orI cmpI
  by_cases h1 : a < c
  · simp [h1]
  · by_cases h2 : c < a
    · simp [h1, h2]; omega
    · have : a = c := by omega
      subst this
      by_cases h3 : b < d
      · simp [h3]
      · by_cases h4 : d < b
        · simp [h3, h4]
        · simp [h3, h4]
theorem ltM (x y : S36) : ltOf ordM x y = decide (mLt x y) := by
  unfold ltOf ordM
  exact decide_eq_decide.2 (ordI_neg _ _ _ _)
theorem swoM : SWO (ltOf ordM) where
  irrefl x := by rw [ltM]; simp [mLt]
  trans x y z h1 h2 := by
    have a1 : mLt x y := of_decide_eq_true ((ltM x y).symm.trans h1)
    have a2 : mLt y z := of_decide_eq_true ((ltM y z).symm.trans h2)
    rw [ltM]
    unfold mLt at a1 a2
    exact decide_eq_true (by unfold mLt; omega)
  ntrans x y z h1 h2 := by
    have a1 : ¬ mLt x y := of_decide_eq_false ((ltM x y).symm.trans h1)
    have a2 : ¬ mLt y z := of_decide_eq_false ((ltM y z).symm.trans h2)
    rw [ltM]
    unfold mLt at a1 a2
    exact decide_eq_false (by unfold mLt; omega)

theorem isAgg36 : ∀ w, (isAgg 36).run Try.prog w = .ok true w := fun w => by kernel_rfl
theorem sizeOf36 : ∀ w, (Go.sizeOf 36).run Try.prog w = .ok 3 w := fun w => by kernel_rfl

theorem flat_toM (xs : List S36) : flatM xs = xs.flatMap mcells := rfl

theorem sortFunc_calls (v : Value) (base : Nat) (zs : List S36) (w : World) (ho : w.ownsRow base 36 3 v zs.length (flatM zs)) (hz : zs.length ≤ 1000000) :
    Calls Try.prog 108 #[v, .func (.func 50) #[] #[]] w fun e w' => e = .returned (.tuple #[]) ∧ ∃ ys, ys.length = zs.length ∧ ys.Perm zs ∧ ys.Pairwise mLe ∧ w'.ownsRow base 36 3 v zs.length (flatM ys) ∧ w.grownBy w' v.ownBlock := by
  rcases ho.2 with ⟨rfl, h0⟩ | ⟨g, cap, cur, rfl, hb, hg, hnc, hm, hcs, hx⟩
  · have hzs : zs = [] := List.eq_nil_of_length_eq_zero h0
    subst hzs
    refine (AnyF.slices_SortFunc_none Try.sortM none 0 (.func (.func 50) #[] #[]) w).mono ?_
    rintro e w' ⟨rfl, rfl⟩
    exact ⟨rfl, [], rfl, List.Perm.refl _, List.Pairwise.nil, ho, ⟨rfl, rfl, rfl, Nat.le_refl _, fun _ _ _ => rfl⟩⟩
  · have hblk := (Array.getElem?_eq_some_iff.1 hg).1
    have hH := SortRow.holds_of_own (α := S36) mcells (fun _ => rfl) (by decide) (d := zs.toArray) ho (by simp)
    have hcon := AnyQ.slices_SortFunc Try.sortM 3 isAgg36 sizeOf36 mcells (fun _ => rfl) (fun x v hv => by simp [mcells] at hv; rcases hv with rfl | rfl | rfl <;> rfl) ordM swoM 50 #[] g 0 cap zs.toArray w
      (enters_of Try.func50 (by kernel_rfl) rfl) (fun _ _ _ _ x y => order_calls x.f0 x.f1 x.f2 y.f0 y.f1 y.f2 _) hH hblk (by simp; omega)
    change Calls Try.prog 108 _ _ _ at hcon
    rw [List.size_toArray] at hcon
    refine hcon.mono ?_
    rintro e w' ⟨rfl, d', n, os, hp, hs, rfl⟩
    obtain ⟨hsz0, _, hpe⟩ := hp
    have hsz : d'.size = zs.length := by simpa using hsz0
    have e1 : d'.extract 0 zs.length = d' := by rw [← hsz]; exact Array.extract_size
    have e2 : (zs.toArray.extract 0 zs.length).toList = zs := by simp
    rw [e1, e2] at hpe
    refine ⟨rfl, d'.toList, by rw [Array.length_toList, hsz], hpe, ?_, SortRow.own_sorted mcells (fun _ => rfl) (by decide) ho n d' os hsz, SortRow.sortWorld_grown mcells 3 w g n d' os⟩
    rw [List.pairwise_iff_getElem]
    intro i j hi hj hij
    have h := hs i j (Nat.zero_le _) hij (by simpa [hsz] using hj)
    have hi' : i < d'.size := by simpa using hi
    have hj' : j < d'.size := by simpa using hj
    rw [getElem!_pos d' i hi', getElem!_pos d' j hj', ltM] at h
    have h2 : ¬ mLt d'[j] d'[i] := of_decide_eq_false h
    unfold mLt at h2
    show mLe d'.toList[i] d'.toList[j]
    rw [Array.getElem_toList, Array.getElem_toList]
    unfold mLe
    omega

theorem own_base36 {w : World} {base : Nat} {v : Value} {n : Nat} {xs : List Value} (h : w.ownsRow base 36 3 v n xs) (k : Nat) (hk : v.ownBlock = some k) : base ≤ k := own_base h k hk

theorem sortedFunc_calls (Bs cap : Nat) (A : Option Addr) (zs : List S36) (w : World) (hA : ∀ ad, A = some ad → 0 < zs.length → ad.block < w.heap.size) (hz : zs.length ≤ 1000000)
    (hBs : Bs < w.heap.size) (hB : w.cell? ⟨Bs, 0, none⟩ = some (.slice A zs.length cap)) (hc : Kd.C k36 w A zs.length zs) :
    Calls Try.prog 94 #[.func (.func 109) #[] #[.pointer (some ⟨Bs, 0, none⟩)], .func (.func 50) #[] #[]] w fun e w' =>
      ∃ v ys, e = .returned v ∧ ys.length = zs.length ∧ ys.Perm zs ∧ ys.Pairwise mLe ∧ w'.ownsRow w.heap.size 36 3 v zs.length (flatM ys) ∧ Below w.heap.size w w' := by
  have h := collect_calls Bs cap A zs w hA (by omega) hBs hB hc
  have H := Lib.hid h
  clear h hB hc
  have HZ := Lib.hid hz
  clear hz hA
  go_enter Try.func94, Try.ntmps94
  go_wp2_with fail
  refine H.out.mono ?_
  rintro e w1 ⟨v, rfl, ho, hb⟩
  have HB := Lib.hid hb
  clear hb
  have h2 := sortFunc_calls v w.heap.size zs w1 ho HZ.out
  have H2 := Lib.hid h2
  have HO := Lib.hid ho
  clear h2 ho
  go_wp2_with fail
  refine H2.out.mono ?_
  rintro e w2 ⟨rfl, ys, hl, hp, hs, ho2, hg⟩
  have F := Lib.hid (And.intro hl (And.intro hp (And.intro hs (And.intro ho2 hg))))
  clear hl hp hs ho2 hg
  go_wp2_with fail
  go_ret
  obtain ⟨hl, hp, hs, ho2, hg⟩ := F.out
  exact ⟨v, ys, rfl, hl, hp, hs, ho2, HB.out.grown hg HB.out.size (own_base36 HO.out)⟩

theorem sorted_calls (cap : Nat) (A : Option Addr) (zs : List S36) (w : World) (hz : zs.length ≤ 1000000) (hc : Kd.C k36 w A zs.length zs) :
    Calls Try.prog 61 #[.slice A zs.length cap, .func (.func 50) #[] #[]] w fun e w' =>
      ∃ v ys, e = .returned v ∧ ys.length = zs.length ∧ ys.Perm zs ∧ ys.Pairwise mLe ∧ w'.ownsRow w.heap.size 36 3 v zs.length (flatM ys) ∧ Below w.heap.size w w' := by
  have hA : ∀ ad, A = some ad → 0 < zs.length → ad.block < w.heap.size := fun ad e hp => by
    obtain ⟨ad', e', c0, _⟩ := at_T36 hc 0 (by omega) (by omega)
    rw [e] at e'
    cases e'
    have := World.block_lt_of_cell? w _ c0
    rwa [add_block] at this
  have hb : Below w.heap.size w (w.alloc (.cells #[.slice A zs.length cap] 22)) := (Below.refl _ w).alloc (Nat.le_refl _) _
  have h := sortedFunc_calls w.heap.size cap A zs (w.alloc (.cells #[.slice A zs.length cap] 22)) (fun ad e hp => by have := hA ad e hp; simp; omega) hz (by simp) (by simp [go_sem]) (Kd.C_below hc hb)
  have hv := values_calls A zs.length cap w
  have H := Lib.hid h
  have HB := Lib.hid hb
  have HV := Lib.hid hv
  clear h hb hA hz hc hv
  go_enter Try.func61, Try.ntmps61
  go_wp2_with fail
  refine HV.out.mono ?_
  rintro e w1 ⟨rfl, rfl⟩
  go_wp2_with fail
  refine H.out.mono ?_
  rintro e w2 ⟨v, ys, rfl, hl, hp, hs, ho2, hg⟩
  have F := Lib.hid (And.intro hl (And.intro hp (And.intro hs (And.intro ho2 hg))))
  clear hl hp hs ho2 hg
  go_wp2_with fail
  go_ret
  obtain ⟨hl, hp, hs, ho2, hg⟩ := F.out
  exact ⟨v, ys, rfl, hl, hp, hs, own_weaken ho2 (by simp), HB.out.trans (hg.mono (by simp))⟩

end Go.Proofs.Ytihmfpefmmdecaa.All
