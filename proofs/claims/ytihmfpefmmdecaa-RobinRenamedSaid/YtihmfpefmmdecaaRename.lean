/- A round robin stays one when all teams are renamed and, if it is single, venues are exchanged. -/
import Derived.Test.YtihmfpefmmdecaaLen
namespace Go.Proofs.Ytihmfpefmmdecaa.All
open Go.RowKit Go.Proofs Go.Sort Go.Proofs.YtihmfpefmmdecaaW.PrintWords Go.Proofs.YtihmfpefmmdecaaW.PrintLast

def renM (f : Nat → Int) (x : S36) : S36 := ⟨x.f0, f x.f1.toNat, f x.f2.toNat⟩
def swapM (x : S36) : S36 := ⟨x.f0, x.f2, x.f1⟩
/-- f renames the numbers below n. -/
def PermF (n : Int) (f : Nat → Int) : Prop := (∀ a : Nat, (a : Int) < n → 0 ≤ f a ∧ f a < n) ∧ ∀ a b : Nat, (a : Int) < n → (b : Int) < n → f a = f b → a = b
inductive Likes (f : Nat → Int) : List S36 → List S36 → Prop
  | nil : Likes f [] []
  | snoc {l L : List S36} {x y : S36} : Likes f l L → (y = renM f x ∨ y = swapM (renM f x)) → Likes f (l ++ [x]) (L ++ [y])

theorem likes_map (f : Nat → Int) (m : List S36) : ∀ c, c ≤ m.length → Likes f (m.take c) ((m.take c).map (renM f)) := by
  intro c
  induction c with
  | zero => intro _; exact Likes.nil
  | succ c ih =>
    intro h
    rw [List.take_succ_eq_append_getElem (by omega), List.map_append]
    exact Likes.snoc (ih (by omega)) (.inl rfl)

theorem nodup_map_on {α β : Type} (g : α → β) : ∀ (l : List α), (∀ a ∈ l, ∀ b ∈ l, g a = g b → a = b) → l.Nodup → (l.map g).Nodup
  | [], _, _ => List.nodup_nil
  | x :: l, h, hn => by
    rw [List.map_cons, List.nodup_cons]
    obtain ⟨h1, h2⟩ := List.nodup_cons.1 hn
    refine ⟨fun hx => ?_, nodup_map_on g l (fun a ha b hb => h a (List.mem_cons_of_mem _ ha) b (List.mem_cons_of_mem _ hb)) h2⟩
    obtain ⟨y, hy, e⟩ := List.mem_map.1 hx
    rw [h y (List.mem_cons_of_mem _ hy) x List.mem_cons_self e] at hy
    exact h1 hy

def tauP (f : Nat → Int) (p : Int × Int) : Int × Int := (min (f p.1.toNat) (f p.2.toNat), max (f p.1.toNat) (f p.2.toNat))
theorem key_like (f : Nat → Int) {x y : S36} (h : y = renM f x ∨ y = swapM (renM f x)) : keyM y = tauP f (keyM x) := by
  have e : keyM y = (min (f x.f1.toNat) (f x.f2.toNat), max (f x.f1.toNat) (f x.f2.toNat)) := by
    rcases h with rfl | rfl
    · rfl
    · unfold keyM swapM renM
      simp only [Prod.mk.injEq]
      omega
  rw [e]
  unfold tauP keyM
  rcases Int.le_total x.f1 x.f2 with h | h
  · simp only [Int.min_eq_left h, Int.max_eq_right h]
  · simp only [Int.min_eq_right h, Int.max_eq_left h, Prod.mk.injEq]
    omega

theorem likes_busy {f : Nat → Int} {l L : List S36} (h : Likes f l L) : (busyL L).Perm ((busyL l).map fun p => (p.1, f p.2.toNat)) := by
  induction h with
  | nil => exact List.Perm.refl _
  | snoc h0 hy ih =>
    rw [busyL_append, busyL_append, List.map_append]
    refine ih.append ?_
    rw [busyL_one, busyL_one]
    rcases hy with rfl | rfl
    · exact List.Perm.refl _
    · exact List.Perm.swap _ _ _

theorem likes_keys {f : Nat → Int} {l L : List S36} (h : Likes f l L) (r : Int) : (ofR L r).map keyM = ((ofR l r).map keyM).map (tauP f) := by
  induction h with
  | nil => rfl
  | snoc h0 hy ih =>
    rename_i l L x y
    have e : y.f0 = x.f0 := by rcases hy with rfl | rfl <;> rfl
    unfold ofR at ih ⊢
    rw [List.filter_append, List.filter_append, List.map_append, List.map_append, List.map_append, ih]
    congr 1
    by_cases hx : x.f0 = r
    · rw [List.filter_cons_of_pos (by simp [e, hx]), List.filter_cons_of_pos (by simp [hx])]
      simp [key_like f hy]
    · rw [List.filter_cons_of_neg (by simp [e, hx]), List.filter_cons_of_neg (by simp [hx])]
      rfl

theorem likes_met {f : Nat → Int} {l L : List S36} (n k : Int) (h : Likes f l L) (j : Nat) : metL n k L j = (metL n k l j).map (tauP f) := by
  unfold metL
  rw [List.map_flatMap]
  exact flatMap_same _ _ _ (fun r _ => likes_keys h _)

theorem likes_ok {f : Nat → Int} {n R : Int} (hf : PermF n f) {l L : List S36} (h : Likes f l L) : (∀ x ∈ l, okR n R x) → ∀ y ∈ L, okR n R y := by
  induction h with
  | nil => intro _ y hy; cases hy
  | snoc h0 hy ih =>
    rename_i l L x y
    intro hl z hz
    rcases List.mem_append.1 hz with hz | hz
    · exact ih (fun a ha => hl a (List.mem_append_left _ ha)) z hz
    · rw [List.mem_singleton.1 hz]
      obtain ⟨a, b, ⟨c, d⟩, ⟨e, g⟩, q⟩ := hl x (by simp)
      have h1 := hf.1 x.f1.toNat (by omega)
      have h2 := hf.1 x.f2.toNat (by omega)
      have h3 : f x.f1.toNat ≠ f x.f2.toNat := fun e1 => by
        have := hf.2 _ _ (by omega) (by omega) e1
        omega
      rcases hy with rfl | rfl
      · exact ⟨a, b, h1, h2, h3⟩
      · exact ⟨a, b, h2, h1, Ne.symm h3⟩

theorem flatMap_perm' {α β : Type} (f g : α → List β) : ∀ (l : List α), (∀ x ∈ l, (f x).Perm (g x)) → (l.flatMap f).Perm (l.flatMap g)
  | [], _ => List.Perm.refl _
  | x :: l, h => by
    rw [List.flatMap_cons, List.flatMap_cons]
    exact (h x List.mem_cons_self).append (flatMap_perm' f g l (fun y hy => h y (List.mem_cons_of_mem _ hy)))
theorem busy_perm {l m : List S36} (h : l.Perm m) : (busyL l).Perm (busyL m) := h.flatMap_right _
theorem met_perm {l m : List S36} (n k : Int) (h : l.Perm m) (j : Nat) : (metL n k l j).Perm (metL n k m j) := by
  unfold metL
  exact flatMap_perm' _ _ _ (fun r _ => (h.filter _).map _)

theorem strict_of_le : ∀ (l : List S36), l.Pairwise mLe → (busyL l).Nodup → l.Pairwise mLt
  | [], _, _ => List.Pairwise.nil
  | x :: l, h, hb => by
    obtain ⟨h1, h2⟩ := List.pairwise_cons.1 h
    have hb' : busyL (x :: l) = keysB x ++ busyL l := by simp [busyL]
    rw [hb'] at hb
    obtain ⟨b1, b2, b3⟩ := List.nodup_append.1 hb
    refine List.pairwise_cons.2 ⟨fun y hy => ?_, strict_of_le l h2 b2⟩
    have := h1 y hy
    have hne : ¬ (x.f0 = y.f0 ∧ x.f1 = y.f1) := fun e => b3 (x.f0, x.f1) (by simp [keysB]) (y.f0, y.f1) (List.mem_flatMap.2 ⟨y, hy, by simp [keysB]⟩) (by rw [e.1, e.2])
    unfold mLe at this
    unfold mLt
    omega

theorem like_ok {f : Nat → Int} {n k : Int} {m L l : List S36} (h : robinOK n k m) (hf : PermF n f) (hL : Likes f m L) (hk : k = 1 ∨ L = m.map (renM f)) (hp : l.Perm L) (hs : l.Pairwise mLe) : robinOK n k l := by
  obtain ⟨a1, a2, a3, a4, a5, a6⟩ := robinOK_iff.1 h
  have hbm : ∀ p ∈ busyL m, 0 ≤ p.2 ∧ p.2 < n := by
    intro p hp
    obtain ⟨x, hx, hpx⟩ := List.mem_flatMap.1 hp
    obtain ⟨_, _, ⟨c, d⟩, ⟨e, g⟩, _⟩ := a2 x hx
    simp [keysB] at hpx
    rcases hpx with rfl | rfl
    · exact ⟨c, d⟩
    · exact ⟨e, g⟩
  have hmm : ∀ p ∈ metL n k m (rds n).toNat, 0 ≤ p.1 ∧ p.1 < p.2 ∧ p.2 < n := by
    intro p hp
    obtain ⟨r, _, hp⟩ := List.mem_flatMap.1 hp
    obtain ⟨x, hx, rfl⟩ := List.mem_map.1 hp
    obtain ⟨_, _, ⟨c, d⟩, ⟨e, g⟩, q⟩ := a2 x (List.mem_filter.1 hx).1
    unfold keyM
    simp only
    omega
  have hbL : (busyL L).Nodup := by
    refine (likes_busy hL).nodup_iff.2 (nodup_map_on _ _ (fun p hp q hq e => ?_) a3)
    simp only [Prod.mk.injEq] at e
    have h1 := hbm p hp
    have h2 := hbm q hq
    have := hf.2 _ _ (by omega) (by omega) e.2
    exact Prod.ext e.1 (by omega)
  have hb : (busyL l).Nodup := (busy_perm hp).nodup_iff.2 hbL
  have hmL : (metL n k L (rds n).toNat).Nodup := by
    rw [likes_met n k hL]
    refine nodup_map_on _ _ (fun p hp q hq e => ?_) a4
    obtain ⟨p1, p2, p3⟩ := hmm p hp
    obtain ⟨q1, q2, q3⟩ := hmm q hq
    unfold tauP at e
    simp only [Prod.mk.injEq] at e
    have i1 := hf.2 p.1.toNat q.1.toNat (by omega) (by omega)
    have i2 := hf.2 p.2.toNat q.2.toNat (by omega) (by omega)
    have i3 := hf.2 p.1.toNat q.2.toNat (by omega) (by omega)
    have i4 := hf.2 p.2.toNat q.1.toNat (by omega) (by omega)
    have : p.1 = q.1 ∧ p.2 = q.2 := by
      rcases Int.le_total (f p.1.toNat) (f p.2.toNat) with g1 | g1 <;> rcases Int.le_total (f q.1.toNat) (f q.2.toNat) with g2 | g2
      · rw [Int.min_eq_left g1, Int.max_eq_right g1, Int.min_eq_left g2, Int.max_eq_right g2] at e
        have := i1 e.1
        have := i2 e.2
        omega
      · rw [Int.min_eq_left g1, Int.max_eq_right g1, Int.min_eq_right g2, Int.max_eq_left g2] at e
        have := i3 e.1
        have := i4 e.2
        omega
      · rw [Int.min_eq_right g1, Int.max_eq_left g1, Int.min_eq_left g2, Int.max_eq_right g2] at e
        have := i4 e.1
        have := i3 e.2
        omega
      · rw [Int.min_eq_right g1, Int.max_eq_left g1, Int.min_eq_right g2, Int.max_eq_left g2] at e
        have := i2 e.1
        have := i1 e.2
        omega
    exact Prod.ext this.1 this.2
  refine robinOK_iff.2 ⟨strict_of_le l hs hb, fun x hx => likes_ok hf hL a2 x (hp.mem_iff.1 hx), hb, (met_perm n k hp _).nodup_iff.2 hmL, ?_, ?_⟩
  · intro r hr h0
    rcases hk with rfl | rfl
    · exfalso
      simp [pairF] at h0
    · have t := a5 r hr h0
      generalize (pairF n k r).2 = b at t h0 ⊢
      generalize (pairF n k r).1 = a at t ⊢
      have e : ∀ s, ofR (m.map (renM f)) s = (ofR m s).map (renM f) := by
        intro s
        unfold ofR
        rw [List.filter_map]
        rfl
      have h1 := hp.filter (fun x => x.f0 == b)
      have h2 := hp.filter (fun x => x.f0 == a)
      have h1' : (ofR l b).Perm (ofR (m.map (renM f)) b) := h1
      have h2' : (ofR l a).Perm (ofR (m.map (renM f)) a) := h2
      rw [e] at h1' h2'
      refine h1'.trans ((t.map _).trans ?_)
      refine List.Perm.trans ?_ (h2'.map _).symm
      rw [List.map_map, List.map_map]
      exact List.Perm.refl _
  · rw [(met_perm n k hp _).length_eq, likes_met n k hL, List.length_map]
    exact a6

/-- Lists put into order, one after the other. -/
def insL (L : List S36) : List S36 := L.foldl (fun acc y => insM y acc) []
theorem insL_snoc (L : List S36) (y : S36) : insL (L ++ [y]) = insM y (insL L) := by unfold insL; rw [List.foldl_append]; rfl
theorem insL_perm (L : List S36) : (insL L).Perm L := by
  have : ∀ (L acc : List S36), (L.foldl (fun acc y => insM y acc) acc).Perm (acc ++ L) := by
    intro L
    induction L with
    | nil => intro acc; simp
    | cons y L ih =>
      intro acc
      exact (ih (insM y acc)).trans (((insM_perm y acc).append_right L).trans List.perm_middle.symm)
  simpa [insL] using this L []
end Go.Proofs.Ytihmfpefmmdecaa.All
