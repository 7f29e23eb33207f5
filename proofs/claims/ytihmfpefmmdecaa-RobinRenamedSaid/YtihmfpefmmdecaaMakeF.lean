/- robin.Make's contract with the list itself. -/
import Derived.Test.YtihmfpefmmdecaaOk
import Derived.Test.YtihmfpefmmdecaaMake
namespace Go.Proofs.Ytihmfpefmmdecaa.All
open Go.RowKit Go.Proofs Go.Sort Go.Proofs.YtihmfpefmmdecaaW.PrintWords Go.Proofs.YtihmfpefmmdecaaW.PrintLast

theorem make_list (n k : Int) (w : World) (h : okNK n k) :
    Calls Try.prog 18 #[.int .i64 n, .int .i64 k] w fun e w' => ∃ A c, e = .returned (.tuple #[.slice A (makeF n k).length c, .int .i64 0]) ∧ (makeF n k).length ≤ c ∧ Kd.C k36 w' A (makeF n k).length (makeF n k) ∧ w'.ownsRow w.heap.size 36 3 (.slice A (makeF n k).length c) (makeF n k).length (flatM (makeF n k)) ∧ Below w.heap.size w w' := by
  refine (make_yes n k w h).mono ?_
  rintro e w' ⟨v, ys, rfl, hp, hs, ho, hb⟩
  obtain rfl := make_unique h hp hs
  obtain ⟨A, c, rfl, hc, hr⟩ := reads_own ho
  exact ⟨A, c, rfl, hc, hr, ho, hb⟩

theorem makeF_len {n k : Int} (h : okNK n k) : (makeF n k).length ≤ 380 := by
  have h1 := (sortM_perm (rawL n k)).length_eq
  have h2 : okAll (fun n k => decide ((rawL n k).length ≤ 380)) = true := by decide +kernel
  have h3 := of_decide_eq_true (okAll_use h2 h)
  unfold makeF
  omega
end Go.Proofs.Ytihmfpefmmdecaa.All
