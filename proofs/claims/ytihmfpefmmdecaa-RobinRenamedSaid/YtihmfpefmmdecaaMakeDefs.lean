/- The leaves below robin.Make: the circle's record, the rounds that a round plays, and what is made, as lists. -/
import Derived.Test.YtihmfpefmmdecaaCircle
namespace Go.Proofs.Ytihmfpefmmdecaa.All
open Go.RowKit Go.Proofs Go.Sort Go.Proofs.YtihmfpefmmdecaaW.PrintWords Go.Proofs.YtihmfpefmmdecaaW.PrintLast

def okNK (n k : Int) : Prop := 2 ≤ n ∧ n ≤ 20 ∧ 1 ≤ k ∧ k ≤ 3
instance (n k : Int) : Decidable (okNK n k) := by unfold okNK; exact inferInstance

theorem of_yes (n k : Int) (w : World) (h : okNK n k) :
    Calls Try.prog 48 #[.int .i64 n, .int .i64 k] w fun e w' => e = .returned (.tuple #[.agg #[.int .i64 n, .int .i64 (rds n)], .bool true]) ∧ w' = w.alloc (.cells #[.int .i64 n, .int .i64 (rds n)] 92) := by
  obtain ⟨h1, h2, h3, h4⟩ := h
  unfold rds
  go_enter Try.func48, Try.ntmps48
  go_wp2
  exact bodyPost_ret (v := .tuple #[.agg #[.int .i64 n, .int .i64 (n - 1 + n % 2)], .bool true]) (by simp [results, Try.results48, go_sem]) rfl ⟨rfl, rfl⟩

theorem of_no (n k : Int) (w : World) (h : ¬ okNK n k) (hn : -9223372036854775808 ≤ n) (hn' : n ≤ 9223372036854775807) :
    Calls Try.prog 48 #[.int .i64 n, .int .i64 k] w fun e w' => ∃ r, e = .returned (.tuple #[.agg #[.int .i64 n, .int .i64 r], .bool false]) ∧ w' = w.alloc (.cells #[.int .i64 n, .int .i64 r] 92) := by
  by_cases h1 : 2 ≤ n
  · by_cases h2 : n ≤ 20
    · by_cases h3 : 1 ≤ k
      · have h4 : ¬ k ≤ 3 := fun h4 => h ⟨h1, h2, h3, h4⟩
        go_enter Try.func48, Try.ntmps48
        go_wp2
        exact bodyPost_ret (v := .tuple #[.agg #[.int .i64 n, .int .i64 _], .bool false]) (by simp [results, Try.results48, go_sem]) rfl ⟨_, rfl, rfl⟩
      · go_enter Try.func48, Try.ntmps48
        go_wp2
        exact bodyPost_ret (v := .tuple #[.agg #[.int .i64 n, .int .i64 _], .bool false]) (by simp [results, Try.results48, go_sem]) rfl ⟨_, rfl, rfl⟩
    · go_enter Try.func48, Try.ntmps48
      go_wp2
      all_goals exact bodyPost_ret (v := .tuple #[.agg #[.int .i64 n, .int .i64 _], .bool false]) (by simp [results, Try.results48, go_sem]) rfl ⟨_, rfl, rfl⟩
  · go_enter Try.func48, Try.ntmps48
    go_wp2
    all_goals exact bodyPost_ret (v := .tuple #[.agg #[.int .i64 n, .int .i64 _], .bool false]) (by simp [results, Try.results48, go_sem]) rfl ⟨_, rfl, rfl⟩

/-- The rounds in which the meetings of round 'r' are played. -/
def pairF (n k r : Int) : Int × Int := if k = 2 then (2 * r, 2 * r + 1) else if k = 3 then (r, rds n + r) else (r, -1)

theorem pair_calls (n k r : Int) (w : World) (h0 : 0 ≤ r) (h1 : r ≤ 100) (h2 : 2 ≤ n) (h3 : n ≤ 20) :
    Calls Try.prog 51 #[.agg #[.int .i64 n, .int .i64 (rds n)], .int .i64 r, .int .i64 k] w fun e w' => e = .returned (.tuple #[.int .i64 (pairF n k r).1, .int .i64 (pairF n k r).2]) ∧ ∃ q, w' = (w.alloc (.cells #[.int .i64 n, .int .i64 (rds n)] 92)).drewN q := by
  obtain ⟨q1, q2, q3⟩ := rds_le n h2 h3
  generalize hR : rds n = R at q1 q2 q3 ⊢
  unfold pairF
  rw [hR]
  clear hR
  by_cases hk : k = 2
  · subst hk
    go_enter Try.func51, Try.ntmps51
    go_wp2
    go_ret2
    exact ⟨rfl, 0, rfl⟩
  · by_cases hk3 : k = 3
    · subst hk3
      go_enter Try.func51, Try.ntmps51
      go_wp2
      go_quiet (fail)
      go_wp2
      go_ret2
      exact ⟨rfl, _, rfl⟩
    · rw [if_neg hk, if_neg hk3]
      go_enter Try.func51, Try.ntmps51
      go_wp2
      go_ret2
      exact ⟨rfl, 0, rfl⟩

def setR (r : Int) (x : S36) : S36 := ⟨r, x.f1, x.f2⟩
/-- What the body adds for one round. -/
def stepL (n k r : Int) (zs : List S36) : List S36 := zs.map (setR (pairF n k r).1) ++ if (pairF n k r).2 ≥ 0 then zs.map (turnM (pairF n k r).2) else []
def rawL (n k : Int) : List S36 := (List.range (rds n).toNat).flatMap fun r : Nat => stepL n k r (circleL n r)
def rawOf (n k : Int) (pre : List Rnd) : List S36 := pre.flatMap fun x => stepL n k x.1 x.2.2

theorem circleL_len (n r : Int) (h1 : 2 ≤ n) (h2 : n ≤ 20) : (circleL n r).length ≤ 10 := by
  have := partL_len n r ((rds n).toNat / 2)
  have := rds_le n h1 h2
  unfold circleL
  omega

theorem stepL_perm {n k r : Int} {ys zs : List S36} (h : ys.Perm zs) : (stepL n k r ys).Perm (stepL n k r zs) := by
  unfold stepL
  refine (h.map _).append ?_
  split
  · exact h.map _
  · exact List.Perm.refl _

theorem stepL_len {n k r : Int} {zs : List S36} : (stepL n k r zs).length ≤ 2 * zs.length := by
  unfold stepL
  split <;> simp <;> omega

theorem rawOf_snoc (n k : Int) (pre : List Rnd) (x : Rnd) : rawOf n k (pre ++ [x]) = rawOf n k pre ++ stepL n k x.1 x.2.2 := by simp [rawOf]

theorem rawOf_perm {n k : Int} : ∀ (xs : List Rnd) (is : List Nat), xs.map (·.1) = is.map (fun i : Nat => (i : Int)) → (∀ x ∈ xs, GoodR n x) → (rawOf n k xs).Perm (is.flatMap fun r : Nat => stepL n k r (circleL n r)) := by
  intro xs
  induction xs with
  | nil =>
    intro is h _
    cases is with
    | nil => exact List.Perm.refl _
    | cons i is => simp at h
  | cons x xs ih =>
    intro is h hg
    cases is with
    | nil => simp at h
    | cons i is =>
      simp only [List.map_cons, List.cons.injEq] at h
      simp only [rawOf, List.flatMap_cons]
      refine List.Perm.append ?_ (ih is h.2 (fun y hy => hg y (List.mem_cons_of_mem _ hy)))
      have := (hg x List.mem_cons_self).1
      rw [← h.1]
      exact stepL_perm this

theorem rawOf_upTo {n k : Int} {j : Nat} {xs : List Rnd} (h : UpTo n j xs) (hj : (j : Int) = rds n) : (rawOf n k xs).Perm (rawL n k) := by
  have := rawOf_perm (n := n) (k := k) xs (List.range j) h.1 h.2
  rw [rawL, ← hj]
  exact this

theorem rawOf_len {n k : Int} (h1 : 2 ≤ n) (h2 : n ≤ 20) : ∀ (xs : List Rnd), (∀ x ∈ xs, GoodR n x) → (rawOf n k xs).length ≤ 20 * xs.length := by
  intro xs
  induction xs with
  | nil => intro _; simp [rawOf]
  | cons x xs ih =>
    intro hg
    simp only [rawOf, List.flatMap_cons, List.length_append, List.length_cons]
    have a := ih (fun y hy => hg y (List.mem_cons_of_mem _ hy))
    have b := (hg x List.mem_cons_self).1.length_eq
    have c := circleL_len n x.1 h1 h2
    have d := stepL_len (n := n) (k := k) (r := x.1) (zs := x.2.2)
    unfold rawOf at a
    omega

theorem upTo_len {n : Int} {j : Nat} {xs : List Rnd} (h : UpTo n j xs) : xs.length = j := by
  have := congrArg List.length h.1
  simpa using this

end Go.Proofs.Ytihmfpefmmdecaa.All
