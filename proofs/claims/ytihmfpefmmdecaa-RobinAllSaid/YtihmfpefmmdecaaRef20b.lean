/- What the reference of layer 20 answers: once, formed. -/
import Derived.Test.YtihmfpefmmdecaaRef20
namespace Go.Proofs.Ytihmfpefmmdecaa.All
open Go.RowKit Go.Proofs Go.Sort Go.Proofs.YtihmfpefmmdecaaW.PrintWords Go.Proofs.YtihmfpefmmdecaaW.PrintLast

theorem keyM_eq (x y : S36) : keyM x = keyM y ↔ (x.f1 = y.f1 ∧ x.f2 = y.f2) ∨ (x.f1 = y.f2 ∧ x.f2 = y.f1) := by
  unfold keyM
  rw [Prod.mk.injEq]
  omega

abbrev rdN (m : List S36) (t : Nat) : S36 := rd_T36 m (t : Int)

theorem once_l1 (n : Int) (m : List S36) (hm : m.length ≤ 100000) (i : Nat) (hi : i < m.length) : ∀ (d j : Nat), j + d = i →
    ((∀ t, j ≤ t → t < i → keyM (rdN m i) ≠ keyM (rdN m t)) → ∀ r, Ev (fun k => fastiref20_once.l0 k n m ((i + 1 : Nat) : Int)) r → Ev (fun k => fastiref20_once.l1 k n m (i : Int) (j : Int)) r) ∧
    ((∃ t, j ≤ t ∧ t < i ∧ keyM (rdN m i) = keyM (rdN m t)) → Ev (fun k => fastiref20_once.l1 k n m (i : Int) (j : Int)) false) := by
  intro d
  induction d with
  | zero =>
    intro j hj
    refine ⟨fun _ r h => ?_, fun ⟨t, h1, h2, _⟩ => by omega⟩
    refine Ev.step (fun k => rfl) (Ev.no (by omega) ?_)
    rw [wrapN (by omega)]
    exact h
  | succ d ih =>
    intro j hj
    obtain ⟨ih1, ih2⟩ := ih (j + 1) (by omega)
    have hc := keyM_eq (rdN m i) (rdN m j)
    have wr := wrapN (j := j) (by omega)
    refine ⟨fun hno r h => ?_, fun hex => ?_⟩
    · have hnj := hno j (Nat.le_refl _) (by omega)
      have e := ih1 (fun t h1 h2 => hno t (by omega) h2) r h
      rw [← wr] at e
      refine Ev.step (fun k => rfl) (Ev.yes (by omega) (Ev.yes (by omega) (Ev.yes (by omega) (Ev.yes (by omega) (Ev.yes (by omega) ?_)))))
      rw [ne_eq, hc] at hnj
      by_cases a1 : (rdN m i).f1 = (rdN m j).f1
      · refine Ev.yes a1 (Ev.no (fun a2 => hnj (.inl ⟨a1, a2⟩)) ?_)
        by_cases a3 : (rdN m i).f1 = (rdN m j).f2
        · exact Ev.yes a3 (Ev.no (fun a4 => hnj (.inr ⟨a3, a4⟩)) e)
        · exact Ev.no a3 e
      · refine Ev.no a1 ?_
        by_cases a3 : (rdN m i).f1 = (rdN m j).f2
        · exact Ev.yes a3 (Ev.no (fun a4 => hnj (.inr ⟨a3, a4⟩)) e)
        · exact Ev.no a3 e
    · refine Ev.step (fun k => rfl) (Ev.yes (by omega) (Ev.yes (by omega) (Ev.yes (by omega) (Ev.yes (by omega) (Ev.yes (by omega) ?_)))))
      have hrest : ¬ keyM (rdN m i) = keyM (rdN m j) → Ev (fun k => fastiref20_once.l1 k n m (i : Int) (wrap64 ((j : Int) + 1))) false := by
        intro hn
        rw [wr]
        refine ih2 ?_
        obtain ⟨t, h1, h2, h3⟩ := hex
        refine ⟨t, ?_, h2, h3⟩
        rcases Nat.lt_or_ge j t with h | h
        · exact h
        · obtain rfl : t = j := by omega
          exact absurd h3 hn
      rw [hc] at hrest
      by_cases a1 : (rdN m i).f1 = (rdN m j).f1
      · refine Ev.yes a1 ?_
        by_cases a2 : (rdN m i).f2 = (rdN m j).f2
        · exact Ev.yes a2 (Ev.is rfl)
        · refine Ev.no a2 ?_
          by_cases a3 : (rdN m i).f1 = (rdN m j).f2
          · refine Ev.yes a3 ?_
            by_cases a4 : (rdN m i).f2 = (rdN m j).f1
            · exact Ev.yes a4 (Ev.is rfl)
            · exact Ev.no a4 (hrest (by rintro (⟨_, h⟩ | ⟨_, h⟩); exact a2 h; exact a4 h))
          · exact Ev.no a3 (hrest (by rintro (⟨_, h⟩ | ⟨h, _⟩); exact a2 h; exact a3 h))
      · refine Ev.no a1 ?_
        by_cases a3 : (rdN m i).f1 = (rdN m j).f2
        · refine Ev.yes a3 ?_
          by_cases a4 : (rdN m i).f2 = (rdN m j).f1
          · exact Ev.yes a4 (Ev.is rfl)
          · exact Ev.no a4 (hrest (by rintro (⟨h, _⟩ | ⟨_, h⟩); exact a1 h; exact a4 h))
        · exact Ev.no a3 (hrest (by rintro (⟨h, _⟩ | ⟨h, _⟩); exact a1 h; exact a3 h))

theorem half_game {n : Int} (h1 : 2 ≤ n) (h2 : n ≤ 20) : wrap64 (Int.tdiv (wrap64 (n * (wrap64 (n - 1)))) 2) = n * (n - 1) / 2 := by
  obtain ⟨a, b⟩ := nn_bound h1 h2
  have e1 : wrap64 (n - 1) = n - 1 := by unfold wrap64; omega
  rw [e1]
  have e2 : wrap64 (n * (n - 1)) = n * (n - 1) := by unfold wrap64; omega
  rw [e2, Int.tdiv_eq_ediv_of_nonneg a]
  unfold wrap64
  omega

theorem once_l0 (n : Int) (m : List S36) (hm : m.length ≤ 100000) (h1 : 2 ≤ n) (h2 : n ≤ 20) : ∀ (d i : Nat), i + d = m.length →
    ∃ c, Ev (fun k => fastiref20_once.l0 k n m (i : Int)) c ∧ (c = true ↔ (∀ s, i ≤ s → s < m.length → ∀ t, t < s → keyM (rdN m s) ≠ keyM (rdN m t)) ∧ (m.length : Int) = n * (n - 1) / 2) := by
  intro d
  induction d with
  | zero =>
    intro i hi
    refine ⟨decide ((m.length : Int) = n * (n - 1) / 2), Ev.step (fun k => rfl) (Ev.no (by omega) (Ev.is ?_)), ?_⟩
    · rw [half_game h1 h2]
      rfl
    · rw [decide_eq_true_iff]
      exact ⟨fun h => ⟨fun s a b => by omega, h⟩, fun h => h.2⟩
  | succ d ih =>
    intro i hi
    obtain ⟨c, e, hc⟩ := ih (i + 1) (by omega)
    obtain ⟨l1, l2⟩ := once_l1 n m hm i (by omega) i 0 (by omega)
    by_cases hx : ∃ t, 0 ≤ t ∧ t < i ∧ keyM (rdN m i) = keyM (rdN m t)
    · refine ⟨false, Ev.step (fun k => rfl) (Ev.yes (by omega) (l2 hx)), ?_⟩
      refine ⟨(fun h => by cases h), fun h => ?_⟩
      obtain ⟨t, _, h4, h5⟩ := hx
      exact absurd h5 (h.1 i (Nat.le_refl _) (by omega) t h4)
    · have hx' : ∀ t, 0 ≤ t → t < i → keyM (rdN m i) ≠ keyM (rdN m t) := fun t a b e => hx ⟨t, a, b, e⟩
      refine ⟨c, Ev.step (fun k => rfl) (Ev.yes (by omega) (l1 hx' c e)), hc.trans ?_⟩
      refine ⟨fun h => ⟨fun s a b t g => ?_, h.2⟩, fun h => ⟨fun s a b t g => h.1 s (by omega) b t g, h.2⟩⟩
      by_cases hs : s = i
      · subst hs
        exact hx' t (Nat.zero_le _) g
      · exact h.1 s (by omega) b t g

theorem nodup_rd (m : List S36) : (m.map keyM).Nodup ↔ ∀ s, s < m.length → ∀ t, t < s → keyM (rdN m s) ≠ keyM (rdN m t) := by
  unfold List.Nodup
  rw [List.pairwise_iff_getElem]
  constructor
  · intro h s hs t ht e
    have := h t s (by simp; omega) (by simpa using hs) ht
    rw [List.getElem_map, List.getElem_map] at this
    rw [rdN, rd_nat m hs, rdN, rd_nat m (by omega)] at e
    exact this e.symm
  · intro h i j hi hj hij e
    rw [List.length_map] at hi hj
    have := h j hj i hij
    rw [rdN, rd_nat m hj, rdN, rd_nat m hi] at this
    rw [List.getElem_map, List.getElem_map] at e
    exact this e.symm

theorem once_ev (n : Int) (m : List S36) (hm : m.length ≤ 100000) (h1 : 2 ≤ n) (h2 : n ≤ 20) :
    ∃ c, Ev (fun k => fastiref20_once.f k n m) c ∧ (c = true ↔ (m.map keyM).Nodup ∧ (m.length : Int) = n * (n - 1) / 2) := by
  obtain ⟨c, e, hc⟩ := once_l0 n m hm h1 h2 m.length 0 (by omega)
  refine ⟨c, e, hc.trans ?_⟩
  rw [nodup_rd]
  exact ⟨fun h => ⟨fun s hs => h.1 s (Nat.zero_le _) hs, h.2⟩, fun h => ⟨fun s _ hs => h.1 s hs, h.2⟩⟩

theorem plays_one (y : S36) (t : Int) : Ev (fun k => fastiref20_plays.f k [y] t) (decide (y.f1 = t ∨ y.f2 = t)) := by
  have e0 : rd_T36 [y] 0 = y := rfl
  refine ⟨2, fun k hk => ?_⟩
  obtain ⟨k, rfl⟩ : ∃ j, k = j + 2 := ⟨k - 2, by omega⟩
  unfold fastiref20_plays.f
  simp only [fastiref20_plays.l0]
  rw [if_pos (by simp), if_pos (by omega), e0]
  by_cases a : y.f1 = t
  · rw [if_pos a]
    simp [a]
  · rw [if_neg a]
    by_cases b : y.f2 = t
    · rw [if_pos b]
      simp [b]
    · rw [if_neg b, if_neg (by unfold wrap64; simp)]
      simp [a, b]

def clash (y x : S36) : Prop := y.f0 = x.f0 ∧ ((y.f1 = x.f1 ∨ y.f2 = x.f1) ∨ (y.f1 = x.f2 ∨ y.f2 = x.f2))

theorem cut_one (m : List S36) {j : Nat} (h : j < m.length) : ((m.take (j + 1)).drop j) = [rdN m j] := by
  rw [rdN, rd_nat m h, List.take_succ_eq_append_getElem h, List.drop_append_of_le_length (by rw [List.length_take]; omega)]
  rw [List.drop_of_length_le (by rw [List.length_take]; omega), List.nil_append]

theorem formed_l1 (n R : Int) (m : List S36) (hm : m.length ≤ 100000) (i : Nat) (hi : i < m.length) : ∀ (d j : Nat), j + d = i →
    ((∀ t, j ≤ t → t < i → ¬ clash (rdN m t) (rdN m i)) → ∀ r, Ev (fun k => fastiref20_formed.l0 k n R m ((i + 1 : Nat) : Int)) r → Ev (fun k => fastiref20_formed.l1 k n R m (i : Int) (j : Int) (rdN m i).f0 (rdN m i).f1 (rdN m i).f2) r) ∧
    ((∃ t, j ≤ t ∧ t < i ∧ clash (rdN m t) (rdN m i)) → Ev (fun k => fastiref20_formed.l1 k n R m (i : Int) (j : Int) (rdN m i).f0 (rdN m i).f1 (rdN m i).f2) false) := by
  intro d
  induction d with
  | zero =>
    intro j hj
    refine ⟨fun _ r h => ?_, fun ⟨t, h1, h2, _⟩ => by omega⟩
    refine Ev.step (fun k => rfl) (Ev.no (by omega) ?_)
    rw [wrapN (by omega)]
    exact h
  | succ d ih =>
    intro j hj
    obtain ⟨ih1, ih2⟩ := ih (j + 1) (by omega)
    have wr := wrapN (j := j) (by omega)
    have hcut := cut_one m (show j < m.length by omega)
    have p1 := plays_one (rdN m j) (rdN m i).f1
    have p2 := plays_one (rdN m j) (rdN m i).f2
    refine ⟨fun hno r h => ?_, fun hex => ?_⟩
    · have hnj := hno j (Nat.le_refl _) (by omega)
      have e := ih1 (fun t h1 h2 => hno t (by omega) h2) r h
      refine Ev.step (fun k => rfl) (Ev.yes (by omega) (Ev.yes (by omega) (Ev.yes (by omega) ?_)))
      rw [wr, Int.toNat_natCast, Int.toNat_natCast, hcut]
      by_cases a0 : (rdN m j).f0 = (rdN m i).f0
      · refine Ev.yes a0 (Ev.yes (by omega) (Ev.yes (by omega) (Ev.bind p1 ?_)))
        have b1 : ¬ ((rdN m j).f1 = (rdN m i).f1 ∨ (rdN m j).f2 = (rdN m i).f1) := fun h => hnj ⟨a0, .inl h⟩
        have b2 : ¬ ((rdN m j).f1 = (rdN m i).f2 ∨ (rdN m j).f2 = (rdN m i).f2) := fun h => hnj ⟨a0, .inr h⟩
        rw [decide_eq_false b1]
        refine Ev.no (by simp) (Ev.bind p2 ?_)
        rw [decide_eq_false b2]
        exact Ev.no (by simp) e
      · exact Ev.no a0 e
    · refine Ev.step (fun k => rfl) (Ev.yes (by omega) (Ev.yes (by omega) (Ev.yes (by omega) ?_)))
      rw [wr, Int.toNat_natCast, Int.toNat_natCast, hcut]
      have hrest : ¬ clash (rdN m j) (rdN m i) → Ev (fun k => fastiref20_formed.l1 k n R m (i : Int) ((j + 1 : Nat) : Int) (rdN m i).f0 (rdN m i).f1 (rdN m i).f2) false := by
        intro hn
        refine ih2 ?_
        obtain ⟨t, h1, h2, h3⟩ := hex
        refine ⟨t, ?_, h2, h3⟩
        rcases Nat.lt_or_ge j t with h | h
        · exact h
        · obtain rfl : t = j := by omega
          exact absurd h3 hn
      by_cases a0 : (rdN m j).f0 = (rdN m i).f0
      · refine Ev.yes a0 (Ev.yes (by omega) (Ev.yes (by omega) (Ev.bind p1 ?_)))
        by_cases b1 : (rdN m j).f1 = (rdN m i).f1 ∨ (rdN m j).f2 = (rdN m i).f1
        · rw [decide_eq_true b1]
          exact Ev.yes rfl (Ev.is rfl)
        · rw [decide_eq_false b1]
          refine Ev.no (by simp) (Ev.bind p2 ?_)
          by_cases b2 : (rdN m j).f1 = (rdN m i).f2 ∨ (rdN m j).f2 = (rdN m i).f2
          · rw [decide_eq_true b2]
            exact Ev.yes rfl (Ev.is rfl)
          · rw [decide_eq_false b2]
            exact Ev.no (by simp) (hrest (fun h => h.2.elim b1 b2))
      · exact Ev.no a0 (hrest (fun h => a0 h.1))

/-- The meeting at place s may stand there. -/
def okS (n R : Int) (m : List S36) (s : Nat) : Prop := okR n R (rdN m s) ∧ (0 < s → mLt (rdN m (s - 1)) (rdN m s)) ∧ ∀ t, t < s → ¬ clash (rdN m t) (rdN m s)

theorem formed_l0 (n R : Int) (m : List S36) (hm : m.length ≤ 100000) : ∀ (d i : Nat), i + d = m.length →
    ∃ c, Ev (fun k => fastiref20_formed.l0 k n R m (i : Int)) c ∧ (c = true ↔ ∀ s, i ≤ s → s < m.length → okS n R m s) := by
  intro d
  induction d with
  | zero =>
    intro i hi
    refine ⟨true, Ev.step (fun k => rfl) (Ev.no (by omega) (Ev.is rfl)), ?_⟩
    exact ⟨fun _ s a b => by omega, fun _ => rfl⟩
  | succ d ih =>
    intro i hi
    obtain ⟨c, e, hc⟩ := ih (i + 1) (by omega)
    obtain ⟨l1, l2⟩ := formed_l1 n R m hm i (by omega) i 0 (by omega)
    -- a wrong meeting here
    have bad : ¬ okS n R m i → Ev (fun k => fastiref20_formed.l0 k n R m (i : Int)) false → ∃ c, Ev (fun k => fastiref20_formed.l0 k n R m (i : Int)) c ∧ (c = true ↔ ∀ s, i ≤ s → s < m.length → okS n R m s) := fun hb he =>
      ⟨false, he, (fun h => by cases h), fun h => absurd (h i (Nat.le_refl _) (by omega)) hb⟩
    have jbad : Ev (fun k => fastiref20_formed.j1 k n R m (i : Int) true (rdN m i).f0 (rdN m i).f1 (rdN m i).f2) false := Ev.step (f := fun _ => some false) (fun k => rfl) (Ev.is rfl)
    by_cases a1 : (rdN m i).f0 < 0
    · exact bad (fun h => by have := h.1.1; omega) (Ev.step (fun k => rfl) (Ev.yes (by omega) (Ev.yes (by omega) (Ev.yes a1 jbad))))
    by_cases a2 : (rdN m i).f0 ≥ R
    · exact bad (fun h => by have := h.1.2.1; omega) (Ev.step (fun k => rfl) (Ev.yes (by omega) (Ev.yes (by omega) (Ev.no a1 (Ev.yes a2 jbad)))))
    by_cases a3 : (rdN m i).f1 < 0
    · exact bad (fun h => by have := h.1.2.2.1.1; omega) (Ev.step (fun k => rfl) (Ev.yes (by omega) (Ev.yes (by omega) (Ev.no a1 (Ev.no a2 (Ev.yes a3 jbad))))))
    by_cases a4 : (rdN m i).f1 ≥ n
    · exact bad (fun h => by have := h.1.2.2.1.2; omega) (Ev.step (fun k => rfl) (Ev.yes (by omega) (Ev.yes (by omega) (Ev.no a1 (Ev.no a2 (Ev.no a3 (Ev.yes a4 jbad)))))))
    by_cases a5 : (rdN m i).f2 < 0
    · exact bad (fun h => by have := h.1.2.2.2.1.1; omega) (Ev.step (fun k => rfl) (Ev.yes (by omega) (Ev.yes (by omega) (Ev.no a1 (Ev.no a2 (Ev.no a3 (Ev.no a4 (Ev.yes a5 jbad))))))))
    by_cases a6 : (rdN m i).f2 ≥ n
    · exact bad (fun h => by have := h.1.2.2.2.1.2; omega) (Ev.step (fun k => rfl) (Ev.yes (by omega) (Ev.yes (by omega) (Ev.no a1 (Ev.no a2 (Ev.no a3 (Ev.no a4 (Ev.no a5 (Ev.yes a6 jbad)))))))))
    have go : ∀ r, Ev (fun k => fastiref20_formed.j1 k n R m (i : Int) ((rdN m i).f1 == (rdN m i).f2) (rdN m i).f0 (rdN m i).f1 (rdN m i).f2) r → Ev (fun k => fastiref20_formed.l0 k n R m (i : Int)) r := fun r h =>
      Ev.step (fun k => rfl) (Ev.yes (by omega) (Ev.yes (by omega) (Ev.no a1 (Ev.no a2 (Ev.no a3 (Ev.no a4 (Ev.no a5 (Ev.no a6 h))))))))
    by_cases a7 : (rdN m i).f1 = (rdN m i).f2
    · refine bad (fun h => h.1.2.2.2.2 a7) (go _ ?_)
      rw [beq_iff_eq.2 a7]
      exact jbad
    have hR : okR n R (rdN m i) := ⟨by omega, by omega, ⟨by omega, by omega⟩, ⟨by omega, by omega⟩, a7⟩
    have a7' : ((rdN m i).f1 == (rdN m i).f2) = false := by simp [a7]
    rw [a7'] at go
    have jb2 : Ev (fun k => fastiref20_formed.j2 k n R m (i : Int) true (rdN m i).f0 (rdN m i).f1 (rdN m i).f2) false := Ev.step (f := fun _ => some false) (fun k => rfl) (Ev.is rfl)
    have j2go : ∀ r, Ev (fun k => fastiref20_formed.l1 k n R m (i : Int) 0 (rdN m i).f0 (rdN m i).f1 (rdN m i).f2) r → Ev (fun k => fastiref20_formed.j2 k n R m (i : Int) false (rdN m i).f0 (rdN m i).f1 (rdN m i).f2) r := fun r h =>
      Ev.step (fun k => rfl) h
    -- what is left behind the order's test
    have fin : (0 < i → mLt (rdN m (i - 1)) (rdN m i)) → (∀ r, Ev (fun k => fastiref20_formed.l1 k n R m (i : Int) 0 (rdN m i).f0 (rdN m i).f1 (rdN m i).f2) r → Ev (fun k => fastiref20_formed.l0 k n R m (i : Int)) r) → ∃ c, Ev (fun k => fastiref20_formed.l0 k n R m (i : Int)) c ∧ (c = true ↔ ∀ s, i ≤ s → s < m.length → okS n R m s) := by
      intro hp hgo
      by_cases hx : ∃ t, 0 ≤ t ∧ t < i ∧ clash (rdN m t) (rdN m i)
      · refine bad (fun h => ?_) (hgo _ (l2 hx))
        obtain ⟨t, _, h4, h5⟩ := hx
        exact h.2.2 t h4 h5
      · have hx' : ∀ t, 0 ≤ t → t < i → ¬ clash (rdN m t) (rdN m i) := fun t a b e => hx ⟨t, a, b, e⟩
        refine ⟨c, hgo c (l1 hx' c e), hc.trans ?_⟩
        refine ⟨fun h s a b => ?_, fun h s a b => h s (by omega) b⟩
        by_cases hs : s = i
        · subst hs
          exact ⟨hR, hp, fun t ht => hx' t (Nat.zero_le _) ht⟩
        · exact h s (by omega) b
    by_cases hi0 : i = 0
    · refine fin (fun h => by omega) (fun r h => go r (Ev.step (fun k => rfl) (Ev.no (by omega) (j2go r h))))
    · have wr : wrap64 ((i : Int) - 1) = ((i - 1 : Nat) : Int) := by unfold wrap64; omega
      have hj1 : ∀ r, Ev (fun k => fastiref20_formed.j2 k n R m (i : Int) (!decide (mLt (rdN m (i - 1)) (rdN m i))) (rdN m i).f0 (rdN m i).f1 (rdN m i).f2) r → Ev (fun k => fastiref20_formed.j1 k n R m (i : Int) false (rdN m i).f0 (rdN m i).f1 (rdN m i).f2) r := fun r h => by
        refine Ev.step (fun k => rfl) (Ev.yes (by omega) ?_)
        rw [wr]
        exact Ev.yes (by omega) (Ev.yes (by omega) (Ev.bind (Ev.is (less_eq _ _)) h))
      by_cases hp : mLt (rdN m (i - 1)) (rdN m i)
      · rw [decide_eq_true hp] at hj1
        exact fin (fun _ => hp) (fun r h => go r (hj1 r (j2go r h)))
      · rw [decide_eq_false hp] at hj1
        exact bad (fun h => hp (h.2.1 (by omega))) (go _ (hj1 _ jb2))

theorem mem_busy (m : List S36) {s : Nat} (hs : s < m.length) (a b : Int) : (a, b) ∈ busyL (m.take s) ↔ ∃ t, t < s ∧ a = (rdN m t).f0 ∧ (b = (rdN m t).f1 ∨ b = (rdN m t).f2) := by
  unfold busyL
  rw [List.mem_flatMap]
  constructor
  · rintro ⟨y, hy, hk⟩
    obtain ⟨t, ht, rfl⟩ := List.getElem_of_mem hy
    rw [List.length_take] at ht
    rw [List.getElem_take] at hk
    refine ⟨t, by omega, ?_⟩
    rw [rdN, rd_nat m (by omega)]
    simp [keysB] at hk
    omega
  · rintro ⟨t, ht, h1, h2⟩
    rw [rdN, rd_nat m (by omega)] at h1 h2
    refine ⟨m[t], ?_, ?_⟩
    · rw [List.mem_take_iff_getElem]
      exact ⟨t, by omega, rfl⟩
    · simp [keysB]
      omega

theorem okS_iff {n R : Int} {m : List S36} : okPre n R m m.length ↔ ∀ s, s < m.length → okS n R m s := by
  have key : ∀ s (hs : s < m.length), okAt n R (m.take s) m[s] ↔ okS n R m s := by
    intro s hs
    unfold okAt okS
    have e : rdN m s = m[s] := rd_nat m hs
    rw [e, mem_busy m hs, mem_busy m hs]
    have hp : prevOk (m.take s) m[s] ↔ (0 < s → mLt (rdN m (s - 1)) m[s]) := by
      constructor
      · intro h h0
        have := h (rdN m (s - 1)) (by
          obtain ⟨i, rfl⟩ : ∃ i, s = i + 1 := ⟨s - 1, by omega⟩
          rw [List.take_succ_eq_append_getElem (by omega), List.getLast?_concat, Nat.add_sub_cancel, rdN, rd_nat m (by omega)])
        exact (ord_iff _ _).1 this
      · intro h y hy
        rw [ord_iff]
        by_cases h0 : s = 0
        · subst h0
          simp at hy
        · obtain ⟨i, rfl⟩ : ∃ i, s = i + 1 := ⟨s - 1, by omega⟩
          have h2 := h (by omega)
          rw [List.take_succ_eq_append_getElem (by omega), List.getLast?_concat] at hy
          cases hy
          rw [Nat.add_sub_cancel, rdN, rd_nat m (by omega)] at h2
          exact h2
    rw [hp]
    refine and_congr Iff.rfl (and_congr Iff.rfl ?_)
    unfold clash
    constructor
    · rintro ⟨h1, h2⟩ t ht ⟨h3, h4⟩
      rcases h4 with h4 | h4
      · exact h1 ⟨t, ht, h3.symm, by omega⟩
      · exact h2 ⟨t, ht, h3.symm, by omega⟩
    · intro h
      refine ⟨?_, ?_⟩
      · rintro ⟨t, ht, h3, h4⟩
        exact h t ht ⟨h3.symm, .inl (by omega)⟩
      · rintro ⟨t, ht, h3, h4⟩
        exact h t ht ⟨h3.symm, .inr (by omega)⟩
  unfold okPre
  constructor
  · intro h s hs
    exact (key s hs).1 (h s hs hs)
  · intro h t ht _
    exact (key t ht).2 (h t ht)

theorem formed_ev (n R : Int) (m : List S36) (hm : m.length ≤ 100000) : ∃ c, Ev (fun k => fastiref20_formed.f k n R m) c ∧ (c = true ↔ okPre n R m m.length) := by
  obtain ⟨c, e, hc⟩ := formed_l0 n R m hm m.length 0 (by omega)
  refine ⟨c, e, hc.trans ?_⟩
  rw [okS_iff]
  exact ⟨fun h s hs => h s (Nat.zero_le _) hs, fun h s _ hs => h s hs⟩
end Go.Proofs.Ytihmfpefmmdecaa.All
