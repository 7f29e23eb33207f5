/- robin.Check as a function of lists, for the printed texts. -/
import Derived.Test.YtihmfpefmmdecaaCheck
namespace Go.Proofs.Ytihmfpefmmdecaa.All
open Go.RowKit Go.Proofs Go.Sort Go.Proofs.YtihmfpefmmdecaaW.PrintWords Go.Proofs.YtihmfpefmmdecaaW.PrintLast

set_option maxRecDepth 100000 in
set_option maxHeartbeats 4000000 in
theorem check_no (n k : Int) (A : Option Addr) (cap : Nat) (m : List S36) (w : World) (hn : -9223372036854775808 ≤ n) (hn' : n ≤ 9223372036854775807) (hno : ¬ okNK n k) :
    Calls Try.prog 16 #[.int .i64 n, .int .i64 k, .slice A m.length cap] w fun e w' => e = .returned (.int .i64 (checkF n k m)) ∧ Below w.heap.size w w' := by
  have ho := of_no n k (w.alloc (.cells #[.int .i64 n] 3)) hno hn hn'
  have hv : checkF n k m = 1 := by unfold checkF; rw [if_neg hno]
  have F := Lib.hid (And.intro ho hv)
  clear ho hv hno
  go_enter Try.func16, Try.ntmps16
  go_wp2_with fail
  refine F.out.1.mono ?_
  rintro e w1 ⟨r, rfl, rfl⟩
  go_wp2_with fail
  go_ret
  exact ⟨ret_i64 F.out.2.symm, (((Below.refl _ w).alloc (Nat.le_refl _) _).alloc (by simp) _).alloc (by simp; omega) _⟩

/-- What Check answers, where the number is an int and there are at most 1000 meetings. -/
noncomputable def robin_Check.f (a0 a1 : Int) (l2 : List S36) : Option Int := if -9223372036854775808 ≤ a0 ∧ a0 ≤ 9223372036854775807 ∧ l2.length ≤ 1000 then some (checkF a0 a1 l2) else none

theorem robin_Check.calls (a0 : Int) (a1 : Int) (A2 : Option Addr) (c2 : Nat) (l2 : List S36) (r : Int) (w : World) (hr2 : Kd.C k36 w A2 l2.length l2) (_hc2 : l2.length ≤ c2) (h : robin_Check.f a0 a1 l2 = some r) :
    Calls Try.prog 16 #[.int .i64 a0, .int .i64 a1, .slice A2 l2.length c2] w fun e w' => e = .returned (.int .i64 r) ∧ Below w.heap.size w w' := by
  unfold robin_Check.f at h
  split at h
  · rename_i hb
    obtain ⟨h1, h2, h3⟩ := hb
    cases h
    by_cases hok : okNK a0 a1
    · exact check_yes a0 a1 A2 c2 l2 w h1 h2 h3 hr2 hok
    · exact check_no a0 a1 A2 c2 l2 w h1 h2 hok
  · cases h
end Go.Proofs.Ytihmfpefmmdecaa.All
