/- How many meetings a round robin has; rounds as parts of it. -/
import Derived.Test.YtihmfpefmmdecaaOk
namespace Go.Proofs.Ytihmfpefmmdecaa.All
open Go.RowKit Go.Proofs Go.Sort Go.Proofs.YtihmfpefmmdecaaW.PrintWords Go.Proofs.YtihmfpefmmdecaaW.PrintLast

theorem filter_apart {α : Type} (p q : α → Bool) : ∀ (m : List α), (∀ x ∈ m, ¬ (p x = true ∧ q x = true)) → (m.filter p ++ m.filter q).Perm (m.filter fun x => p x || q x)
  | [], _ => List.Perm.refl _
  | x :: m, h => by
    have ih := filter_apart p q m (fun y hy => h y (List.mem_cons_of_mem _ hy))
    have hx := h x List.mem_cons_self
    by_cases hp : p x = true
    · have hq : ¬ q x = true := fun hq => hx ⟨hp, hq⟩
      rw [List.filter_cons_of_pos hp, List.filter_cons_of_neg hq, List.filter_cons_of_pos (by simp [hp])]
      exact List.Perm.cons x ih
    · by_cases hq : q x = true
      · rw [List.filter_cons_of_neg hp, List.filter_cons_of_pos hq, List.filter_cons_of_pos (by simp [hq])]
        exact List.perm_middle.trans (List.Perm.cons x ih)
      · rw [List.filter_cons_of_neg hp, List.filter_cons_of_neg hq, List.filter_cons_of_neg (by simp [hp, hq])]
        exact ih

theorem flatMap_same {α β : Type} (f g : α → List β) : ∀ (l : List α), (∀ x ∈ l, f x = g x) → l.flatMap f = l.flatMap g
  | [], _ => rfl
  | x :: l, h => by rw [List.flatMap_cons, List.flatMap_cons, h x List.mem_cons_self, flatMap_same f g l (fun y hy => h y (List.mem_cons_of_mem _ hy))]

/-- The rounds below j, one after the other. -/
theorem part_perm (m : List S36) : ∀ (j : Nat), ((List.range j).flatMap fun r : Nat => ofR m r).Perm (m.filter fun x => decide (0 ≤ x.f0 ∧ x.f0 < (j : Int))) := by
  intro j
  induction j with
  | zero =>
    rw [List.range_zero, List.flatMap_nil, List.filter_eq_nil_iff.2]
    intro x _
    simp
  | succ j ih =>
    rw [List.range_succ, List.flatMap_append]
    refine (ih.append_right _).trans ?_
    have e : ([j].flatMap fun r : Nat => ofR m r) = m.filter fun x => decide (x.f0 = (j : Int)) := by
      simp only [List.flatMap_cons, List.flatMap_nil, List.append_nil, ofR]
      rfl
    rw [e]
    refine (filter_apart _ _ m ?_).trans (List.Perm.of_eq ?_)
    · rintro x _ ⟨h1, h2⟩
      have := of_decide_eq_true h1
      have := of_decide_eq_true h2
      omega
    · congr 1
      funext x
      rw [← Bool.decide_or, decide_eq_decide]
      omega

theorem part_all (m : List S36) (j : Nat) (h : ∀ x ∈ m, 0 ≤ x.f0 ∧ x.f0 < (j : Int)) : ((List.range j).flatMap fun r : Nat => ofR m r).Perm m := by
  refine (part_perm m j).trans (List.Perm.of_eq ?_)
  rw [List.filter_eq_self]
  intro x hx
  exact decide_eq_true (h x hx)

theorem flatMap_len {α β : Type} (f g : α → List β) (l : List α) (h : ∀ x ∈ l, (f x).length = (g x).length) : (l.flatMap f).length = (l.flatMap g).length := by
  induction l with
  | nil => rfl
  | cons x l ih =>
    rw [List.flatMap_cons, List.flatMap_cons, List.length_append, List.length_append, h x List.mem_cons_self, ih (fun y hy => h y (List.mem_cons_of_mem _ hy))]

theorem metL_len_eq (n k : Int) (m : List S36) (j : Nat) : (metL n k m j).length = ((List.range j).flatMap fun r : Nat => ofR m (pairF n k r).1).length := by
  unfold metL
  induction (List.range j) with
  | nil => rfl
  | cons x l ih => rw [List.flatMap_cons, List.flatMap_cons, List.length_append, List.length_append, ih, List.length_map]

theorem metL_single {n : Int} {m : List S36} (j : Nat) : metL n 1 m j = ((List.range j).flatMap fun r : Nat => ofR m r).map keyM := by
  unfold metL
  rw [List.map_flatMap]
  rfl

/-- No meeting lies outside: there are at most twice as many as pairs met. -/
theorem len_double {n k : Int} {m : List S36} (h2 : 2 ≤ n ∧ n ≤ 20) (hk : k = 2 ∨ k = 3) (hr : ∀ x ∈ m, 0 ≤ x.f0 ∧ x.f0 < 2 * rds n) (ht : ∀ r : Nat, (r : Int) < rds n → twin n k m r) :
    m.length = 2 * (metL n k m (rds n).toNat).length := by
  obtain ⟨q1, q2, q3⟩ := rds_le n h2.1 h2.2
  obtain ⟨R, hR⟩ : ∃ R : Nat, (R : Int) = rds n := ⟨(rds n).toNat, by omega⟩
  have hRt : (rds n).toNat = R := by omega
  rw [hRt, metL_len_eq]
  have h1 := (part_all m (2 * R) (fun x hx => by have := hr x hx; omega)).length_eq
  have hlen : ∀ r ∈ List.range R, (ofR m (pairF n k r).2).length = (ofR m (pairF n k r).1).length := by
    intro r hr2
    have := List.mem_range.1 hr2
    have h := ht r (by omega)
    unfold twin at h
    have h3 : 0 ≤ (pairF n k r).2 := by
      unfold pairF
      rcases hk with rfl | rfl
      · simp; omega
      · simp; omega
    have := (h h3).length_eq
    rw [List.length_map] at this
    exact this
  have h4 := flatMap_len (fun r : Nat => ofR m (pairF n k r).2) (fun r : Nat => ofR m (pairF n k r).1) (List.range R) hlen
  rw [← h1]
  rcases hk with rfl | rfl
  · -- rounds 2 r and 2 r + 1
    have e : ∀ j : Nat, ((List.range (2 * j)).flatMap fun r : Nat => ofR m r).length = ((List.range j).flatMap fun r : Nat => ofR m (pairF n 2 r).1).length + ((List.range j).flatMap fun r : Nat => ofR m (pairF n 2 r).2).length := by
      intro j
      induction j with
      | zero => rfl
      | succ j ih =>
        rw [show 2 * (j + 1) = 2 * j + 1 + 1 from by omega, List.range_succ, List.range_succ, List.range_succ, List.flatMap_append, List.flatMap_append, List.flatMap_append, List.flatMap_append]
        simp only [List.length_append, ih, List.flatMap_cons, List.flatMap_nil, List.append_nil]
        have e1 : ((2 * j : Nat) : Int) = (pairF n 2 j).1 := by simp [pairF]
        have e2 : ((2 * j + 1 : Nat) : Int) = (pairF n 2 j).2 := by simp [pairF]
        rw [e1, e2]
        omega
    rw [e R, h4]
    omega
  · -- rounds r and R + r
    have e : ((List.range (2 * R)).flatMap fun r : Nat => ofR m r) = ((List.range R).flatMap fun r : Nat => ofR m (pairF n 3 r).1) ++ ((List.range R).flatMap fun r : Nat => ofR m (pairF n 3 r).2) := by
      rw [show 2 * R = R + R from by omega, List.range_add, List.flatMap_append, List.flatMap_map]
      congr 1
      apply flatMap_same
      intro r _
      have : ((R + r : Nat) : Int) = (pairF n 3 r).2 := by
        simp [pairF]
        omega
      rw [this]
    rw [e, List.length_append, h4]
    omega

theorem len_ok {n k : Int} {m : List S36} (hok : okNK n k) (h : robinOK n k m) : (m.length : Int) ≤ n * (n - 1) := by
  obtain ⟨h1, h2, h3, h4, h5, h6⟩ := robinOK_iff.1 h
  obtain ⟨a, b, c, d⟩ := hok
  obtain ⟨q1, q2, q3⟩ := rds_le n a b
  obtain ⟨g1, g2⟩ := nn_bound a b
  by_cases hk : k = 1
  · subst hk
    have hR : (roundsF n 1).1 = rds n := by
      unfold roundsF
      rw [if_pos ⟨a, b, c, d⟩]
      rfl
    rw [hR] at h2
    have e := (part_all m (rds n).toNat (fun x hx => by have := h2 x hx; exact ⟨this.1, by have := this.2.1; omega⟩)).length_eq
    rw [metL_single, List.length_map, e] at h6
    omega
  · have hR : (roundsF n k).1 = 2 * rds n := by
      unfold roundsF
      rw [if_pos ⟨a, b, c, d⟩, if_neg hk]
    rw [hR] at h2
    have e := len_double ⟨a, b⟩ (show k = 2 ∨ k = 3 by omega) (fun x hx => by have := h2 x hx; exact ⟨this.1, this.2.1⟩) h5
    omega

theorem len_exact {n k : Int} {m : List S36} (hok : okNK n k) (h : robinOK n k m) : (m.length : Int) = if k = 1 then n * (n - 1) / 2 else 2 * (n * (n - 1) / 2) := by
  obtain ⟨h1, h2, h3, h4, h5, h6⟩ := robinOK_iff.1 h
  obtain ⟨a, b, c, d⟩ := hok
  obtain ⟨q1, q2, q3⟩ := rds_le n a b
  by_cases hk : k = 1
  · subst hk
    have hR : (roundsF n 1).1 = rds n := by
      unfold roundsF
      rw [if_pos ⟨a, b, c, d⟩]
      rfl
    rw [hR] at h2
    have e := (part_all m (rds n).toNat (fun x hx => by have := h2 x hx; exact ⟨this.1, by have := this.2.1; omega⟩)).length_eq
    rw [metL_single, List.length_map, e] at h6
    rw [if_pos rfl]
    exact h6
  · have hR : (roundsF n k).1 = 2 * rds n := by
      unfold roundsF
      rw [if_pos ⟨a, b, c, d⟩, if_neg hk]
    rw [hR] at h2
    have e := len_double ⟨a, b⟩ (show k = 2 ∨ k = 3 by omega) (fun x hx => by have := h2 x hx; exact ⟨this.1, this.2.1⟩) h5
    rw [if_neg hk]
    omega
end Go.Proofs.Ytihmfpefmmdecaa.All
