/- The reference of layer 20 answers as robin.Check does: checkF. -/
import Derived.Test.YtihmfpefmmdecaaRef20b
import Derived.Test.YtihmfpefmmdecaaAllx11
namespace Go.Proofs.Ytihmfpefmmdecaa.All
open Go.RowKit Go.Proofs Go.Sort Go.Proofs.YtihmfpefmmdecaaW.PrintWords Go.Proofs.YtihmfpefmmdecaaW.PrintLast

theorem filter_apart {α : Type} (p q : α → Bool) : ∀ (m : List α), (∀ x ∈ m, ¬ (p x = true ∧ q x = true)) → (m.filter p ++ m.filter q).Perm (m.filter fun x => p x || q x)
  | [], _ => List.Perm.refl _
  | x :: m, h => by
    have ih := filter_apart p q m (fun y hy => h y (List.mem_cons_of_mem _ hy))
    have hx := h x List.mem_cons_self
    by_cases hp : p x = true
    · have hq : ¬ q x = true := fun hq => hx ⟨hp, hq⟩
      rw [List.filter_cons_of_pos hp, List.filter_cons_of_neg hq, List.filter_cons_of_pos (by simp [hp])]
      exact List.Perm.cons x ih
    · by_cases hq : q x = true
      · rw [List.filter_cons_of_neg hp, List.filter_cons_of_pos hq, List.filter_cons_of_pos (by simp [hq])]
        exact List.perm_middle.trans (List.Perm.cons x ih)
      · rw [List.filter_cons_of_neg hp, List.filter_cons_of_neg hq, List.filter_cons_of_neg (by simp [hp, hq])]
        exact ih

theorem flatMap_same {α β : Type} (f g : α → List β) : ∀ (l : List α), (∀ x ∈ l, f x = g x) → l.flatMap f = l.flatMap g
  | [], _ => rfl
  | x :: l, h => by rw [List.flatMap_cons, List.flatMap_cons, h x List.mem_cons_self, flatMap_same f g l (fun y hy => h y (List.mem_cons_of_mem _ hy))]

/-- The rounds below j, one after the other. -/
theorem part_perm (m : List S36) : ∀ (j : Nat), ((List.range j).flatMap fun r : Nat => ofR m r).Perm (m.filter fun x => decide (0 ≤ x.f0 ∧ x.f0 < (j : Int))) := by
  intro j
  induction j with
  | zero =>
    rw [List.range_zero, List.flatMap_nil, List.filter_eq_nil_iff.2]
    intro x _
    simp
  | succ j ih =>
    rw [List.range_succ, List.flatMap_append]
    refine (ih.append_right _).trans ?_
    have e : ([j].flatMap fun r : Nat => ofR m r) = m.filter fun x => decide (x.f0 = (j : Int)) := by
      simp only [List.flatMap_cons, List.flatMap_nil, List.append_nil, ofR]
      rfl
    rw [e]
    refine (filter_apart _ _ m ?_).trans (List.Perm.of_eq ?_)
    · rintro x _ ⟨h1, h2⟩
      have := of_decide_eq_true h1
      have := of_decide_eq_true h2
      omega
    · congr 1
      funext x
      rw [← Bool.decide_or, decide_eq_decide]
      omega

theorem part_all (m : List S36) (j : Nat) (h : ∀ x ∈ m, 0 ≤ x.f0 ∧ x.f0 < (j : Int)) : ((List.range j).flatMap fun r : Nat => ofR m r).Perm m := by
  refine (part_perm m j).trans (List.Perm.of_eq ?_)
  rw [List.filter_eq_self]
  intro x hx
  exact decide_eq_true (h x hx)

theorem flatMap_len {α β : Type} (f g : α → List β) (l : List α) (h : ∀ x ∈ l, (f x).length = (g x).length) : (l.flatMap f).length = (l.flatMap g).length := by
  induction l with
  | nil => rfl
  | cons x l ih =>
    rw [List.flatMap_cons, List.flatMap_cons, List.length_append, List.length_append, h x List.mem_cons_self, ih (fun y hy => h y (List.mem_cons_of_mem _ hy))]

theorem metL_len_eq (n k : Int) (m : List S36) (j : Nat) : (metL n k m j).length = ((List.range j).flatMap fun r : Nat => ofR m (pairF n k r).1).length := by
  unfold metL
  induction (List.range j) with
  | nil => rfl
  | cons x l ih => rw [List.flatMap_cons, List.flatMap_cons, List.length_append, List.length_append, ih, List.length_map]

theorem metL_single {n : Int} {m : List S36} (j : Nat) : metL n 1 m j = ((List.range j).flatMap fun r : Nat => ofR m r).map keyM := by
  unfold metL
  rw [List.map_flatMap]
  rfl

/-- No meeting lies outside: there are at most twice as many as pairs met. -/
theorem len_double {n k : Int} {m : List S36} (h2 : 2 ≤ n ∧ n ≤ 20) (hk : k = 2 ∨ k = 3) (hr : ∀ x ∈ m, 0 ≤ x.f0 ∧ x.f0 < 2 * rds n) (ht : ∀ r : Nat, (r : Int) < rds n → twin n k m r) :
    m.length = 2 * (metL n k m (rds n).toNat).length := by
  obtain ⟨q1, q2, q3⟩ := rds_le n h2.1 h2.2
  obtain ⟨R, hR⟩ : ∃ R : Nat, (R : Int) = rds n := ⟨(rds n).toNat, by omega⟩
  have hRt : (rds n).toNat = R := by omega
  rw [hRt, metL_len_eq]
  have h1 := (part_all m (2 * R) (fun x hx => by have := hr x hx; omega)).length_eq
  have hlen : ∀ r ∈ List.range R, (ofR m (pairF n k r).2).length = (ofR m (pairF n k r).1).length := by
    intro r hr2
    have := List.mem_range.1 hr2
    have h := ht r (by omega)
    unfold twin at h
    have h3 : 0 ≤ (pairF n k r).2 := by
      unfold pairF
      rcases hk with rfl | rfl
      · simp; omega
      · simp; omega
    have := (h h3).length_eq
    rw [List.length_map] at this
    exact this
  have h4 := flatMap_len (fun r : Nat => ofR m (pairF n k r).2) (fun r : Nat => ofR m (pairF n k r).1) (List.range R) hlen
  rw [← h1]
  rcases hk with rfl | rfl
  · -- rounds 2 r and 2 r + 1
    have e : ∀ j : Nat, ((List.range (2 * j)).flatMap fun r : Nat => ofR m r).length = ((List.range j).flatMap fun r : Nat => ofR m (pairF n 2 r).1).length + ((List.range j).flatMap fun r : Nat => ofR m (pairF n 2 r).2).length := by
      intro j
      induction j with
      | zero => rfl
      | succ j ih =>
        rw [show 2 * (j + 1) = 2 * j + 1 + 1 from by omega, List.range_succ, List.range_succ, List.range_succ, List.flatMap_append, List.flatMap_append, List.flatMap_append, List.flatMap_append]
        simp only [List.length_append, ih, List.flatMap_cons, List.flatMap_nil, List.append_nil]
        have e1 : ((2 * j : Nat) : Int) = (pairF n 2 j).1 := by simp [pairF]
        have e2 : ((2 * j + 1 : Nat) : Int) = (pairF n 2 j).2 := by simp [pairF]
        rw [e1, e2]
        omega
    rw [e R, h4]
    omega
  · -- rounds r and R + r
    have e : ((List.range (2 * R)).flatMap fun r : Nat => ofR m r) = ((List.range R).flatMap fun r : Nat => ofR m (pairF n 3 r).1) ++ ((List.range R).flatMap fun r : Nat => ofR m (pairF n 3 r).2) := by
      rw [show 2 * R = R + R from by omega, List.range_add, List.flatMap_append, List.flatMap_map]
      congr 1
      apply flatMap_same
      intro r _
      have : ((R + r : Nat) : Int) = (pairF n 3 r).2 := by
        simp [pairF]
        omega
      rw [this]
    rw [e, List.length_append, h4]
    omega

theorem len_ok {n k : Int} {m : List S36} (hok : okNK n k) (h : robinOK n k m) : (m.length : Int) ≤ n * (n - 1) := by
  obtain ⟨h1, h2, h3, h4, h5, h6⟩ := robinOK_iff.1 h
  obtain ⟨a, b, c, d⟩ := hok
  obtain ⟨q1, q2, q3⟩ := rds_le n a b
  obtain ⟨g1, g2⟩ := nn_bound a b
  by_cases hk : k = 1
  · subst hk
    have hR : (roundsF n 1).1 = rds n := by
      unfold roundsF
      rw [if_pos ⟨a, b, c, d⟩]
      rfl
    rw [hR] at h2
    have e := (part_all m (rds n).toNat (fun x hx => by have := h2 x hx; exact ⟨this.1, by have := this.2.1; omega⟩)).length_eq
    rw [metL_single, List.length_map, e] at h6
    omega
  · have hR : (roundsF n k).1 = 2 * rds n := by
      unfold roundsF
      rw [if_pos ⟨a, b, c, d⟩, if_neg hk]
    rw [hR] at h2
    have e := len_double ⟨a, b⟩ (show k = 2 ∨ k = 3 by omega) (fun x hx => by have := h2 x hx; exact ⟨this.1, this.2.1⟩) h5
    omega

theorem rounds_f {n k : Int} (hok : okNK n k) : fastiref20_Rounds.f n k = some ((roundsF n k).1, 0) := by
  obtain ⟨a, b, c, d⟩ := hok
  have hh : fastiref20_half.f n = some (rds n) := by
    unfold fastiref20_half.f rds
    have e1 : wrap64 (n - 1) = n - 1 := by unfold wrap64; omega
    have e2 : Int.tmod n 2 = n % 2 := Int.tmod_eq_emod_of_nonneg (by omega)
    rw [e1, e2]
    have e3 : wrap64 (n - 1 + n % 2) = n - 1 + n % 2 := by unfold wrap64; omega
    rw [e3]
  obtain ⟨q1, q2, q3⟩ := rds_le n a b
  have e4 : wrap64 (2 * rds n) = 2 * rds n := by unfold wrap64; omega
  have hf : fastiref20_fine.f n k = some true := by
    unfold fastiref20_fine.f
    rw [if_pos (by omega), if_pos (by omega)]
    by_cases h1 : k = 1
    · rw [if_pos h1]
    · rw [if_neg h1]
      by_cases h2 : k = 2
      · rw [if_pos h2]
      · rw [if_neg h2]
        have : k = 3 := by omega
        simp [this]
  have hR : (roundsF n k).1 = if k = 1 then rds n else 2 * rds n := by
    unfold roundsF
    rw [if_pos ⟨a, b, c, d⟩]
  rw [hR]
  unfold fastiref20_Rounds.f
  rw [hf]
  simp only [Option.bind_some, if_true]
  rw [hh]
  simp only [Option.bind_some]
  by_cases h1 : k = 1
  · rw [if_pos h1, if_pos h1]
  · rw [if_neg h1, if_neg h1, e4]
theorem half_f {n : Int} (a : 2 ≤ n) (b : n ≤ 20) : fastiref20_half.f n = some (rds n) := by
  unfold fastiref20_half.f rds
  have e1 : wrap64 (n - 1) = n - 1 := by unfold wrap64; omega
  have e2 : Int.tmod n 2 = n % 2 := Int.tmod_eq_emod_of_nonneg (by omega)
  rw [e1, e2]
  have e3 : wrap64 (n - 1 + n % 2) = n - 1 + n % 2 := by unfold wrap64; omega
  rw [e3]
theorem rounds_no {n k : Int} (hno : ¬ okNK n k) : fastiref20_Rounds.f n k = some (0, 1) := by
  have hf : fastiref20_fine.f n k = some false := by
    unfold fastiref20_fine.f
    by_cases h1 : n ≥ 2
    · rw [if_pos h1]
      by_cases h2 : n ≤ 20
      · rw [if_pos h2]
        have h3 : ¬ (1 ≤ k ∧ k ≤ 3) := fun h => hno ⟨h1, h2, h⟩
        rw [if_neg (by omega), if_neg (by omega)]
        have : k ≠ 3 := by omega
        simp [this]
      · rw [if_neg h2]
    · rw [if_neg h1]
  unfold fastiref20_Rounds.f
  rw [hf]
  simp

theorem nodup_perm {α : Type} {l m : List α} (h : l.Perm m) : l.Nodup ↔ m.Nodup := h.nodup_iff
theorem movedL_keys (l : List S36) (r : Int) : ((movedL l r false []).map keyM).Perm (l.map keyM) := by
  refine ((movedL_perm r false l []).map keyM).trans ?_
  rw [List.nil_append, List.map_map]
  exact List.Perm.refl _

/-- The loop over the rounds of both halves. -/
theorem check_l0 {n k : Int} {m : List S36} (h2 : 2 ≤ n ∧ n ≤ 20) (hk : k = 2 ∨ k = 3) (hm : m.length ≤ 400) (hs : m.Pairwise mLt) : ∀ (d r : Nat) (sg : List S36), ((r : Int) + (d : Int)) = rds n → (sg.map keyM).Perm (metL n k m r) →
    ∃ c, Ev (fun q => fastiref20_Check.l0 q n k m sg (r : Int)) c ∧ (c = 0 ∨ c = 200) ∧ (c = 0 ↔ (∀ r' : Nat, r ≤ r' → (r' : Int) < rds n → twin n k m r') ∧ (metL n k m (rds n).toNat).Nodup ∧ ((metL n k m (rds n).toNat).length : Int) = n * (n - 1) / 2) := by
  obtain ⟨q1, q2, q3⟩ := rds_le n h2.1 h2.2
  have st : ∀ (q : Nat) (sg : List S36) (r : Int), fastiref20_Check.l0 (q + 1) n k m sg r = if r < rds n then (if k = 2 then fastiref20_Check.j2 q n k m sg r (wrap64 (2 * r)) (wrap64 (wrap64 (2 * r) + 1)) else fastiref20_Check.j2 q n k m sg r r (wrap64 (rds n + r))) else (fastiref20_once.f q n sg).bind fun t => if t = true then some 0 else some 200 := by
    intro q sg r
    simp only [fastiref20_Check.l0]
    rw [half_f h2.1 h2.2]
    rfl
  intro d
  induction d with
  | zero =>
    intro r sg hr hp
    have hsl : sg.length ≤ 100000 := by
      have e1 := hp.length_eq
      rw [List.length_map] at e1
      have e2 := metL_len n k m r
      have : r * m.length ≤ 19 * 400 := Nat.mul_le_mul (by omega) hm
      omega
    obtain ⟨c, e, hc⟩ := once_ev n sg hsl h2.1 h2.2
    have hRt : (rds n).toNat = r := by omega
    have base : ∀ x : Int, Ev (fun q => if c = true then some (0 : Int) else some 200) x → Ev (fun q => fastiref20_Check.l0 q n k m sg (r : Int)) x := fun x hx =>
      Ev.step (fun q => st q sg r) (Ev.no (by omega) (Ev.bind e hx))
    have hiff : c = true ↔ (∀ r' : Nat, r ≤ r' → (r' : Int) < rds n → twin n k m r') ∧ (metL n k m (rds n).toNat).Nodup ∧ ((metL n k m (rds n).toNat).length : Int) = n * (n - 1) / 2 := by
      rw [hc, nodup_perm hp, hRt, ← hp.length_eq, List.length_map]
      exact ⟨fun h => ⟨fun r' a b => by omega, h⟩, fun h => h.2⟩
    cases c with
    | true => exact ⟨0, base 0 (Ev.yes rfl (Ev.is rfl)), .inl rfl, ⟨fun _ => hiff.1 rfl, fun _ => rfl⟩⟩
    | false => exact ⟨200, base 200 (Ev.no (by simp) (Ev.is rfl)), .inr rfl, ⟨fun h => absurd h (by decide), fun h => absurd (hiff.2 h) (by simp)⟩⟩
  | succ d ih =>
    intro r sg hr hp
    have hsl : sg.length ≤ 100000 := by
      have e1 := hp.length_eq
      rw [List.length_map] at e1
      have e2 := metL_len n k m r
      have : r * m.length ≤ 19 * 400 := Nat.mul_le_mul (by omega) hm
      omega
    obtain ⟨pa, hpa⟩ : ∃ pa, (pairF n k r).1 = pa := ⟨_, rfl⟩
    obtain ⟨pb, hpb⟩ : ∃ pb, (pairF n k r).2 = pb := ⟨_, rfl⟩
    have hb0 : 0 ≤ pb := by
      rw [← hpb]
      unfold pairF
      rcases hk with rfl | rfl
      · simp; omega
      · simp; omega
    have e1 := of_ev m pa (by omega)
    have e2 := of_ev m pb (by omega)
    have la : (ofR m pa).length ≤ 400 := Nat.le_trans (List.length_filter_le _ _) hm
    have lb : (ofR m pb).length ≤ 400 := Nat.le_trans (List.length_filter_le _ _) hm
    have e3 := moved_ev (ofR m pa) r false (by omega)
    have e4 := moved_ev (ofR m pa) pb true (by omega)
    have ml := movedL_len (ofR m pa) r false []
    obtain ⟨c, e5, hc⟩ := same_ev (ofR m pb) (movedL (ofR m pa) pb true []) (by omega)
    have htw : c = true ↔ twin n k m r := by
      rw [hc]
      unfold twin
      rw [hpa, hpb]
      have hperm : (movedL (ofR m pa) pb true []).Perm ((ofR m pa).map (turnM pb)) := by
        have := movedL_perm pb true (ofR m pa) []
        rw [List.nil_append] at this
        exact this
      constructor
      · intro h _
        rw [h]
        exact hperm
      · intro h
        exact eq_of_strict (hs.filter _) (movedL_le pb true _ _ List.Pairwise.nil) ((h hb0).trans hperm.symm)
    -- the round's step, whatever the kind
    have hj2 : ∀ x : Int, Ev (fun q => if c = true then fastiref20_Check.l0 q n k m (sg ++ movedL (ofR m pa) r false []) (wrap64 ((r : Int) + 1)) else some 200) x → Ev (fun q => fastiref20_Check.j2 q n k m sg (r : Int) pa pb) x := fun x hx =>
      Ev.step (fun q => rfl) (Ev.bind e1 (Ev.bind e3 (Ev.yes (by simp at ml; omega) (Ev.bind e2 (Ev.bind e4 (Ev.bind e5 hx))))))
    have hl0 : ∀ x : Int, Ev (fun q => fastiref20_Check.j2 q n k m sg (r : Int) pa pb) x → Ev (fun q => fastiref20_Check.l0 q n k m sg (r : Int)) x := fun x hx => by
      refine Ev.step (fun q => st q sg r) (Ev.yes (by omega) ?_)
      rcases hk with rfl | rfl
      · have e6 : wrap64 (2 * (r : Int)) = pa := by rw [← hpa]; simp [pairF]; unfold wrap64; omega
        have e7 : wrap64 (pa + 1) = pb := by rw [← hpa, ← hpb]; simp [pairF]; unfold wrap64; omega
        refine Ev.yes rfl ?_
        rw [e6, e7]
        exact hx
      · have e6 : (r : Int) = pa := by rw [← hpa]; simp [pairF]
        have e7 : wrap64 (rds n + (r : Int)) = pb := by rw [← hpb]; simp [pairF]; unfold wrap64; omega
        refine Ev.no (by omega) ?_
        rw [e7]
        exact e6 ▸ hx
    cases c with
    | true =>
      have hp' : ((sg ++ movedL (ofR m pa) r false []).map keyM).Perm (metL n k m (r + 1)) := by
        rw [List.map_append, metL_succ, hpa]
        exact hp.append (movedL_keys _ _)
      obtain ⟨c', e', h0, hc'⟩ := ih (r + 1) _ (by omega) hp'
      rw [← wrapN (by omega)] at e'
      refine ⟨c', hl0 _ (hj2 _ (Ev.yes rfl e')), h0, hc'.trans ?_⟩
      refine ⟨fun h => ⟨fun r' a b => ?_, h.2⟩, fun h => ⟨fun r' a b => h.1 r' (by omega) b, h.2⟩⟩
      by_cases hx : r' = r
      · subst hx
        exact htw.1 rfl
      · exact h.1 r' (by omega) b
    | false =>
      refine ⟨200, hl0 _ (hj2 _ (Ev.no (by simp) (Ev.is rfl))), .inr rfl, fun h => absurd h (by decide), fun h => ?_⟩
      exact absurd (htw.2 (h.1 r (Nat.le_refl _) (by omega))) (by simp)

theorem check_ref (n k : Int) (m : List S36) (hm : m.length ≤ 400) : Ev (fun q => fastiref20_Check.f q n k m) (checkF n k m) := by
  by_cases hok : okNK n k
  · have hok' := hok
    obtain ⟨a, b, c, d⟩ := hok
    obtain ⟨q1, q2, q3⟩ := rds_le n a b
    obtain ⟨g1, g2⟩ := nn_bound a b
    have wr : wrap64 (n * wrap64 (n - 1)) = n * (n - 1) := by
      have e1 : wrap64 (n - 1) = n - 1 := by unfold wrap64; omega
      rw [e1]
      unfold wrap64
      omega
    have hbad : ¬ robinOK n k m → checkF n k m = 200 := fun h => by unfold checkF; rw [if_pos hok', if_neg h]
    have hgood : robinOK n k m → checkF n k m = 0 := fun h => by unfold checkF; rw [if_pos hok', if_pos h]
    have j0bad : Ev (fun q => fastiref20_Check.j0 q n k m true) 200 := Ev.step (f := fun _ => some 200) (fun q => rfl) (Ev.is rfl)
    refine Ev.bind (Ev.is (rounds_f hok')) (Ev.yes rfl ?_)
    rw [wr]
    by_cases hl : (m.length : Int) > n * (n - 1)
    · refine Ev.yes hl ?_
      rw [hbad (fun h => by have := len_ok hok' h; omega)]
      exact j0bad
    · refine Ev.no hl ?_
      obtain ⟨cf, ef, hcf⟩ := formed_ev n (roundsF n k).1 m (by omega)
      refine Ev.bind ef ?_
      cases cf with
      | false =>
        rw [hbad (fun h => absurd (hcf.2 h.1) (by simp))]
        exact j0bad
      | true =>
        have hf := hcf.1 rfl
        obtain ⟨s1, s2, s3⟩ := okPre_iff.1 hf
        by_cases hk : k = 1
        · subst hk
          have hR : (roundsF n 1).1 = rds n := by
            unfold roundsF
            rw [if_pos ⟨a, b, c, d⟩]
            rfl
          rw [hR] at s2
          obtain ⟨co, eo, hco⟩ := once_ev n m (by omega) a b
          have hpm := (part_all m (rds n).toNat (fun x hx => by have := s2 x hx; exact ⟨this.1, by have := this.2.1; omega⟩)).map keyM
          rw [← metL_single (n := n)] at hpm
          have hiff : co = true ↔ robinOK n 1 m := by
            rw [hco]
            unfold robinOK
            rw [nodup_perm hpm, hpm.length_eq, List.length_map]
            constructor
            · rintro ⟨x1, x2⟩
              refine ⟨hf, x1, fun r hr h0 => ?_, x2⟩
              exfalso
              simp [pairF] at h0
            · rintro ⟨_, x1, _, x2⟩
              exact ⟨x1, x2⟩
          have hj : ∀ x : Int, Ev (fun q => if co = true then some (0 : Int) else some 200) x → Ev (fun q => fastiref20_Check.j0 q n 1 m (!true)) x := fun x hx =>
            Ev.step (f := fun q => (fastiref20_once.f q n m).bind fun t => if t = true then some 0 else some 200) (fun q => rfl) (Ev.bind eo hx)
          cases co with
          | true =>
            rw [hgood (hiff.1 rfl)]
            exact hj _ (Ev.yes rfl (Ev.is rfl))
          | false =>
            rw [hbad (fun h => absurd (hiff.2 h) (by simp))]
            exact hj _ (Ev.no (by simp) (Ev.is rfl))
        · have hk2 : k = 2 ∨ k = 3 := by omega
          obtain ⟨cl, el, h0, hcl⟩ := check_l0 ⟨a, b⟩ hk2 hm s1 (rds n).toNat 0 [] (by omega) (List.Perm.refl _)
          have hiff : cl = 0 ↔ robinOK n k m := by
            rw [hcl]
            unfold robinOK
            constructor
            · rintro ⟨x1, x2, x3⟩
              exact ⟨hf, x2, fun r hr => x1 r (Nat.zero_le _) hr, x3⟩
            · rintro ⟨_, x2, x1, x3⟩
              exact ⟨fun r _ hr => x1 r hr, x2, x3⟩
          have hj : Ev (fun q => fastiref20_Check.j0 q n k m (!true)) cl := Ev.step (f := fun q => if k = 1 then (fastiref20_once.f q n m).bind fun t => if t = true then some 0 else some 200 else fastiref20_Check.l0 q n k m ([] : List S36) 0) (fun q => rfl) (Ev.no hk el)
          rcases h0 with rfl | rfl
          · rw [hgood (hiff.1 rfl)]
            exact hj
          · rw [hbad (fun h => absurd (hiff.2 h) (by decide))]
            exact hj
  · have : checkF n k m = 1 := by unfold checkF; rw [if_neg hok]
    rw [this]
    refine Ev.bind (Ev.is (rounds_no hok)) (Ev.no (by decide) (Ev.is rfl))
end Go.Proofs.Ytihmfpefmmdecaa.All
