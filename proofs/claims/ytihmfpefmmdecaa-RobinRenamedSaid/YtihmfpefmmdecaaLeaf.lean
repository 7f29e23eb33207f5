/- Contracts of small functions (cmp.Compare, cmp.Or at two numbers, robin.order), and small words on worlds. -/
import Derived.StillTailTactics
import Derived.Sort.Grow
import Derived.Handy
import Derived.Lib.Hide
import Derived.Test.YtihmfpefmmdecaaAllx0
namespace Go.Proofs.Ytihmfpefmmdecaa.All
open Go.RowKit Go.Proofs Go.Sort Go.Proofs.YtihmfpefmmdecaaW.PrintWords Go.Proofs.YtihmfpefmmdecaaW.PrintLast

theorem mixed : Try.prog.follows .mixedOrders = true := by kernel_rfl

theorem tail_region {P : Program} {id : Nat} {Q : Exit → Act → World → Prop} {a : Act} {w : World} {l : List Oper} (n : Nat) (hm : P.follows .mixedOrders = true) (hB : Region.lexTailB .any l.toArray n = true)
    (h : ∀ W, W = w.drew → wpStill P l.toArray W (fun a' => wpList P l.toArray Q (l.drop n) a' W) (l.take n) a) : (Code.region id l.toArray true).wp P Q a w := wp_region_still_tail n hm hB (h w.drew rfl)

theorem ret_i64 {a b : Int} (h : a = b) : Ending.returned (.int .i64 a) = .returned (.int .i64 b) := by rw [h]

def cmpI (a b : Int) : Int := if a < b then -1 else if b < a then 1 else 0
def orI (x y : Int) : Int := if x ≠ 0 then x else y

theorem cmp_calls (x y : Int) (w : World) : Calls Try.prog 85 #[.int .i64 x, .int .i64 y] w fun e w' => e = .returned (.int .i64 (cmpI x y)) ∧ w' = w := by
  unfold cmpI
  by_cases h1 : x < y
  · rw [if_pos h1]
    go_enter Try.func85, Try.ntmps85
    go_wp2
    go_ret
    exact ⟨rfl, rfl⟩
  · rw [if_neg h1]
    by_cases h2 : y < x
    · rw [if_pos h2]
      go_enter Try.func85, Try.ntmps85
      go_wp2
      go_ret
      exact ⟨rfl, rfl⟩
    · rw [if_neg h2]
      go_enter Try.func85, Try.ntmps85
      go_wp2
      go_ret
      exact ⟨rfl, rfl⟩

theorem or2_calls (x y : Int) (b : Nat) (w : World) (h0 : w.cell? ⟨b, 0, none⟩ = some (.int .i64 x)) (h1 : w.cell? ⟨b, 1, none⟩ = some (.int .i64 y)) :
    Calls Try.prog 89 #[.slice (some ⟨b, 0, none⟩) 2 2] w fun e w' => e = .returned (.int .i64 (orI x y)) ∧ w = w' := by
  by_cases hx : x = 0
  · subst hx
    by_cases hy : y = 0
    · subst hy
      go_enter Try.func89, Try.ntmps89
      go_wp2
      go_rounds 3
      go_ret
      exact ⟨rfl, rfl⟩
    · have hy' : (y != 0) = true := by simpa using hy
      go_enter Try.func89, Try.ntmps89
      go_wp2
      go_rounds 3
      go_ret
      exact ⟨rfl, rfl⟩
  · have hx' : (x != 0) = true := by simpa using hx
    go_enter Try.func89, Try.ntmps89
    go_wp2
    go_rounds 3
    go_ret
    exact ⟨ret_i64 (by simp [orI, hx]), rfl⟩

def ordI (a1 a2 b1 b2 : Int) : Int := orI (cmpI a1 b1) (cmpI a2 b2)

set_option maxRecDepth 100000 in
theorem order_calls (a1 a2 a3 b1 b2 b3 : Int) (w : World) :
    Calls Try.prog 50 #[.agg #[.int .i64 a1, .int .i64 a2, .int .i64 a3], .agg #[.int .i64 b1, .int .i64 b2, .int .i64 b3]] w fun e w' => e = .returned (.int .i64 (ordI a1 a2 b1 b2)) ∧ ∃ q os, w' = grow (w.drewN q) os := by
  unfold ordI
  have c1 := fun W => cmp_calls a1 b1 W
  have c2 := fun W => cmp_calls a2 b2 W
  generalize cmpI a1 b1 = x at *
  generalize cmpI a2 b2 = y at *
  go_enter Try.func50, Try.ntmps50
  go_wp2_with fail
  refine tail_region 10 mixed (by kernel_rfl) ?_
  intro W hW
  have k1 : W.cell? ⟨w.heap.size, 0, none⟩ = some (.int .i64 a1) := by rw [hW]; simp [go_sem]
  have k2 : W.cell? ⟨w.heap.size, 1, none⟩ = some (.int .i64 a2) := by rw [hW]; simp [go_sem]
  have k3 : W.cell? ⟨w.heap.size + 1, 0, none⟩ = some (.int .i64 b1) := by rw [hW]; simp [go_sem]
  have k4 : W.cell? ⟨w.heap.size + 1, 1, none⟩ = some (.int .i64 b2) := by rw [hW]; simp [go_sem]
  have HW := Lib.hid hW
  clear hW
  simp only [List.take_succ_cons, List.take_zero, List.drop_succ_cons, List.drop_zero]
  still_step
  still_step
  still_step
  still_step
  still_call (c1 _)
  still_step
  still_step
  still_step
  still_step
  still_call (c2 _)
  refine wpStill_nil ?_
  have e1 : W.heap.size = w.heap.size + 2 := by rw [HW.out]; simp
  have E1 := Lib.hid e1
  clear e1
  have c3 := or2_calls x y W.heap.size (W.alloc (Obj.cells #[Value.int IntKind.i64 x, Value.int IntKind.i64 y] 3)) (by simp [go_sem]) (by simp [go_sem])
  go_wp2_with (go_at_call 89; refine c3.mono ?_; rintro e w' ⟨rfl, rfl⟩)
  go_ret
  refine ⟨rfl, 1, #[.cells #[.int .i64 a1, .int .i64 a2, .int .i64 a3] 36, .cells #[.int .i64 b1, .int .i64 b2, .int .i64 b3] 36, .cells #[.int .i64 x, .int .i64 y] 3], ?_⟩
  rw [HW.out]
  rfl

end Go.Proofs.Ytihmfpefmmdecaa.All
