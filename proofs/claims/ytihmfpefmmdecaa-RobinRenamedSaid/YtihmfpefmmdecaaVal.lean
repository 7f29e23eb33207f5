/- What robin.Make makes, as lists that the kernel reckons: for each number and kind that is permitted. -/
import Derived.Test.YtihmfpefmmdecaaCkH
namespace Go.Proofs.Ytihmfpefmmdecaa.All
open Go.RowKit Go.Proofs Go.Sort Go.Proofs.YtihmfpefmmdecaaW.PrintWords Go.Proofs.YtihmfpefmmdecaaW.PrintLast

theorem rd_nat (l : List S36) {j : Nat} (h : j < l.length) : rd_T36 l (j : Int) = l[j] := rd_get l h
abbrev rdN (m : List S36) (t : Nat) : S36 := rd_T36 m (t : Int)

def insM (x : S36) : List S36 → List S36
  | [] => [x]
  | y :: ys => if mLt x y then x :: y :: ys else y :: insM x ys
def sortM (l : List S36) : List S36 := l.foldr insM []
theorem insM_perm (x : S36) (l : List S36) : (insM x l).Perm (x :: l) := by
  induction l with
  | nil => exact List.Perm.refl _
  | cons y ys ih =>
    unfold insM
    split
    · exact List.Perm.refl _
    · exact (List.Perm.cons y ih).trans (List.Perm.swap x y ys)
theorem sortM_perm (l : List S36) : (sortM l).Perm l := by
  induction l with
  | nil => exact List.Perm.refl _
  | cons x l ih => exact (insM_perm x _).trans (List.Perm.cons x ih)
def makeF (n k : Int) : List S36 := sortM (rawL n k)
def strictB : List S36 → Bool
  | [] => true
  | [_] => true
  | x :: y :: r => decide (mLt x y) && strictB (y :: r)
theorem strict_of : ∀ (l : List S36), strictB l = true → l.Pairwise mLt
  | [], _ => List.Pairwise.nil
  | [x], _ => List.pairwise_singleton _ _
  | x :: y :: r, h => by
    unfold strictB at h
    rw [Bool.and_eq_true] at h
    have ih := strict_of (y :: r) h.2
    have hxy : mLt x y := of_decide_eq_true h.1
    refine List.pairwise_cons.2 ⟨fun z hz => ?_, ih⟩
    rcases List.mem_cons.1 hz with rfl | hz
    · exact hxy
    · exact mLt_trans hxy ((List.pairwise_cons.1 ih).1 z hz)
/-- A test at every permitted number and kind. -/
def okAll (P : Int → Int → Bool) : Bool := (List.range 19).all fun i => (List.range 3).all fun j => P ((i : Int) + 2) ((j : Int) + 1)
theorem okAll_use {P : Int → Int → Bool} (h : okAll P = true) {n k : Int} (hok : okNK n k) : P n k = true := by
  obtain ⟨h1, h2, h3, h4⟩ := hok
  unfold okAll at h
  rw [List.all_eq_true] at h
  have h5 := h (n - 2).toNat (List.mem_range.2 (by omega))
  rw [List.all_eq_true] at h5
  have h6 := h5 (k - 1).toNat (List.mem_range.2 (by omega))
  rw [show (((n - 2).toNat : Nat) : Int) + 2 = n by omega, show (((k - 1).toNat : Nat) : Int) + 1 = k by omega] at h6
  exact h6
theorem make_strictB : okAll (fun n k => strictB (makeF n k)) = true := by decide +kernel
theorem make_strict {n k : Int} (hok : okNK n k) : (makeF n k).Pairwise mLt := strict_of _ (okAll_use make_strictB hok)
theorem make_unique {n k : Int} (hok : okNK n k) {ys : List S36} (hp : ys.Perm (rawL n k)) (hs : ys.Pairwise mLe) : ys = makeF n k :=
  (eq_of_strict (make_strict hok) hs ((sortM_perm _).trans hp.symm)).symm
end Go.Proofs.Ytihmfpefmmdecaa.All
