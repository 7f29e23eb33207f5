/- A row of rows of meetings that the call owns ('by' of robin.Check), and what an append to one of them leaves. -/
import Derived.Test.YtihmfpefmmdecaaMake
import Derived.Test.YtihmfpefmmdecaaCheckLeaf
namespace Go.Proofs.Ytihmfpefmmdecaa.All
open Go.RowKit Go.Proofs Go.Sort Go.Proofs.YtihmfpefmmdecaaW.PrintWords Go.Proofs.YtihmfpefmmdecaaW.PrintLast

theorem heap_setCell_in {W : World} {b i : Nat} {c : Array Value} {t : TypeId} {fr : Nat × Nat} (h : W.heap[b]? = some (.cells c t fr)) (v : Value) : (W.setCell ⟨b, i, none⟩ v).heap[b]? = some (.cells (c.setIfInBounds i v) t fr) := by
  obtain ⟨hlt, hk⟩ := Array.getElem?_eq_some_iff.1 h
  show (W.heap.modify b _)[b]? = _
  rw [Array.getElem?_eq_getElem (by rw [Array.size_modify]; exact hlt), Array.getElem_modify_self, hk]
  rfl

/-- Block Bb holds the slices of the rows ls, apart from each other. -/
def ByAt (n0 : Nat) (W : World) (Bb : Nat) (vs : List Value) (ls : List (List S36)) : Prop :=
  W.heap[Bb]? = some (.cells vs.toArray 22 (0, 0)) ∧ vs.length = ls.length ∧ (∀ (r : Nat) (u : Value) (l : List S36), vs[r]? = some u → ls[r]? = some l → W.ownsRow n0 36 3 u l.length (flatM l)) ∧
    ∀ (r s : Nat) (u v : Value), r ≠ s → vs[r]? = some u → vs[s]? = some v → ApartR u v

theorem row_lt {W : World} {base k : Nat} {v : Value} {xs : List Value} (h : W.ownsRow base 36 3 v k xs) : ∀ g, v.ownBlock = some g → g < W.heap.size := by
  intro g hg
  rcases h.2 with ⟨rfl, _⟩ | ⟨g', cap, cur, rfl, _, h3, _⟩
  · simp [Value.ownBlock] at hg
  · simp [Value.ownBlock] at hg
    subst hg
    exact (Array.getElem?_eq_some_iff.1 h3).1

theorem ByAt.grown {n0 Bb : Nat} {W W' : World} {vs : List Value} {ls : List (List S36)} (h : ByAt n0 W Bb vs ls) (hg : W.grownBy W' none) : ByAt n0 W' Bb vs ls :=
  ⟨(hg.block Bb (Array.getElem?_eq_some_iff.1 h.1).1 (by simp)).trans h.1, h.2.1, fun r u l h1 h2 => owns_grown (h.2.2.1 r u l h1 h2) hg (fun _ e => by cases e), h.2.2.2⟩

/-- Behind an update of a block that holds no cells. -/
theorem ByAt.other {n0 Bb b : Nat} {W W' : World} {vs : List Value} {ls : List (List S36)} (h : ByAt n0 W Bb vs ls) (hg : W.grownBy W' (some b)) (hb : ∀ cs t fr, W.heap[b]? ≠ some (.cells cs t fr)) : ByAt n0 W' Bb vs ls := by
  have hr : ∀ {u : Value} {k : Nat} {xs : List Value}, W.ownsRow n0 36 3 u k xs → W'.ownsRow n0 36 3 u k xs := by
    intro u k xs h
    refine h.kept hg ?_
    rcases h.2 with ⟨rfl, _⟩ | ⟨g', cap, cur, rfl, _, h3, _⟩
    · exact .inl rfl
    · right
      simp only [Value.ownBlock, ne_eq, Option.some.injEq]
      rintro rfl
      exact hb _ _ _ h3
  refine ⟨(hg.block Bb (Array.getElem?_eq_some_iff.1 h.1).1 ?_).trans h.1, h.2.1, fun r u l h1 h2 => hr (h.2.2.1 r u l h1 h2), h.2.2.2⟩
  rintro e
  cases e
  exact hb _ _ _ h.1

/-- A row's slice, at its place. -/
theorem ByAt.at {n0 Bb : Nat} {W : World} {vs : List Value} {ls : List (List S36)} (h : ByAt n0 W Bb vs ls) {r : Nat} {l : List S36} (hl : ls[r]? = some l) :
    ∃ A c, vs[r]? = some (.slice A l.length c) ∧ W.cell? ⟨Bb, r, none⟩ = some (.slice A l.length c) ∧ W.frozen? ⟨Bb, r, none⟩ = false ∧ Kd.C k36 W A l.length l ∧ W.ownsRow n0 36 3 (.slice A l.length c) l.length (flatM l) := by
  obtain ⟨hb, hlen, hr, _⟩ := h
  have hlt : r < vs.length := by
    rw [hlen]
    exact (List.getElem?_eq_some_iff.1 hl).1
  have hv : vs[r]? = some vs[r] := List.getElem?_eq_getElem hlt
  have ho := hr r _ l hv hl
  obtain ⟨A, c, e, _, hc⟩ := reads_own ho
  rw [e] at ho hv
  refine ⟨A, c, hv, ?_, ?_, hc, ho⟩
  · unfold World.cell?
    rw [hb]
    simp [hv]
  · unfold World.frozen?
    rw [hb]
    simp

theorem by_step {wr Wm w1 : World} {n0 Bb r : Nat} {v v' : Value} {vs : List Value} {ls : List (List S36)} {l : List S36} {x : S36} (h : ByAt n0 wr Bb vs ls) (hn0 : n0 ≤ wr.heap.size) (hB : n0 ≤ Bb) (hv : vs[r]? = some v) (hl : ls[r]? = some l)
    (hm : Below wr.heap.size wr Wm) (hown' : w1.ownsRow n0 36 3 v' (l.length + 1) (flatM l ++ mcells x)) (hgrow : Wm.grownBy w1 v.ownBlock) (hat : v'.ownBlock = v.ownBlock ∨ v'.ownBlock = some Wm.heap.size) :
    w1.cell? ⟨Bb, r, none⟩ = some v ∧ w1.frozen? ⟨Bb, r, none⟩ = false ∧ ByAt n0 (w1.setCell ⟨Bb, r, none⟩ v') Bb (vs.set r v') (ls.set r (l ++ [x])) ∧ Below n0 wr (w1.setCell ⟨Bb, r, none⟩ v') ∧ Oth Bb wr (w1.setCell ⟨Bb, r, none⟩ v') ∧
      (∀ b, (∀ cs t fr, wr.heap[b]? ≠ some (.cells cs t fr)) → b < wr.heap.size → (w1.setCell ⟨Bb, r, none⟩ v').heap[b]? = wr.heap[b]?) := by
  have gm : wr.grownBy Wm none := ⟨hm.os, hm.tape, hm.output, hm.size, fun i hi _ => hm.block i hi⟩
  have hbm := h.grown gm
  obtain ⟨hb, hlen, hr, hap⟩ := hbm
  have hom := hr r v l hv hl
  have hmsz := hm.size
  have hvn : ∀ j o, v.ownBlock = some j → Wm.heap[j]? = some o → n0 ≤ j ∧ ∃ c, o = .cells c 36 (0, 0) := by
    intro j o e ho
    rcases hom.2 with ⟨rfl, _⟩ | ⟨g', cap, cur, rfl, h2, h3, _⟩
    · simp [Value.ownBlock] at e
    · simp [Value.ownBlock] at e
      subst e
      rw [h3] at ho
      cases ho
      exact ⟨h2, _, rfl⟩
  have hrow : ∀ j, v.ownBlock = some j → n0 ≤ j := by
    intro j e
    exact (hvn j _ e (Array.getElem?_eq_getElem (row_lt hom j e))).1
  -- the row of slices in w1
  have hb1 : w1.heap[Bb]? = some (.cells vs.toArray 22 (0, 0)) := by
    refine (hgrow.block Bb (Array.getElem?_eq_some_iff.1 hb).1 fun e => ?_).trans hb
    obtain ⟨_, c, hc⟩ := hvn Bb _ e.symm hb
    cases hc
  have hrlt : r < vs.length := (List.getElem?_eq_some_iff.1 hv).1
  have hne' : v'.ownBlock ≠ some Bb := by
    intro e
    rcases hown'.2 with ⟨rfl, _⟩ | ⟨g', cap, cur, rfl, h2, h3, _⟩
    · simp [Value.ownBlock] at e
    · simp [Value.ownBlock] at e
      subst e
      rw [hb1] at h3
      cases h3
  have gset : w1.grownBy (w1.setCell ⟨Bb, r, none⟩ v') (some Bb) := ⟨rfl, rfl, rfl, (KeepsWalks.setCell w1 _ v').size, fun k _ hk => Below.heap_setCell _ _ _ k (fun e => hk (by rw [e]))⟩
  refine ⟨?_, ?_, ⟨?_, by simpa using hlen, ?_, ?_⟩, ?_, ?_, ?_⟩
  · unfold World.cell?
    rw [hb1]
    simp [hv]
  · unfold World.frozen?
    rw [hb1]
    simp
  · rw [heap_setCell_in hb1]
    simp
  · intro s u k hs hk
    by_cases e : s = r
    · subst e
      rw [List.getElem?_set_self hrlt] at hs
      rw [List.getElem?_set_self (by rw [← hlen]; exact hrlt)] at hk
      cases hs
      cases hk
      rw [flatM_snoc, List.length_append]
      exact hown'.kept gset (.inr hne')
    · rw [List.getElem?_set_ne (Ne.symm e)] at hs hk
      have ho := hr s u k hs hk
      refine (ho.kept hgrow (apart_row (hap s r u v e hs hv) ho)).kept gset ?_
      rcases ho.2 with ⟨rfl, _⟩ | ⟨g', cap, cur, rfl, h2, h3, _⟩
      · exact .inl rfl
      · right
        simp only [Value.ownBlock, ne_eq, Option.some.injEq]
        rintro rfl
        rw [hb] at h3
        cases h3
  · intro s t u k hst hs ht
    have key : ∀ p y, p ≠ r → vs[p]? = some y → (∀ g, y.ownBlock = some g → v'.ownBlock ≠ some g) := by
      intro p y hp hy g hg e
      rcases hat with h' | h'
      · exact hap p r y v hp hy hv g hg (h'.symm.trans e)
      · rw [h'] at e
        cases e
        obtain ⟨k, hk⟩ : ∃ k, ls[p]? = some k := ⟨_, List.getElem?_eq_getElem (by rw [← hlen]; exact (List.getElem?_eq_some_iff.1 hy).1)⟩
        have := row_lt (hr p y k hy hk) _ hg
        omega
    by_cases e1 : s = r
    · subst e1
      rw [List.getElem?_set_self hrlt] at hs
      rw [List.getElem?_set_ne hst] at ht
      cases hs
      intro g hg e
      exact key t k (Ne.symm hst) ht g e hg
    · rw [List.getElem?_set_ne (Ne.symm e1)] at hs
      by_cases e2 : t = r
      · subst e2
        rw [List.getElem?_set_self hrlt] at ht
        cases ht
        exact key s u e1 hs
      · rw [List.getElem?_set_ne (Ne.symm e2)] at ht
        exact hap s t u k hst hs ht
  · exact ((hm.mono hn0).grown hgrow (Nat.le_trans hn0 hm.size) hrow).setCell hB v'
  · intro b cs t hbB ht hbw
    have hbm2 := (Oth.of_below (B4 := Bb) hm) b cs t hbB ht hbw
    refine (Below.heap_setCell _ _ _ _ hbB).trans ((hgrow.block b (Array.getElem?_eq_some_iff.1 hbm2).1 fun e => ?_).trans hbm2)
    obtain ⟨_, c, hc⟩ := hvn b _ e.symm hbm2
    cases hc
    exact ht rfl
  · intro b hnc hlt
    have hbm2 := hm.block b hlt
    have hne : b ≠ Bb := by
      rintro rfl
      exact hnc _ _ _ h.1
    refine (Below.heap_setCell _ _ _ _ hne).trans ((hgrow.block b (by omega) fun e => ?_).trans hbm2)
    obtain ⟨o, ho⟩ : ∃ o, Wm.heap[b]? = some o := ⟨_, Array.getElem?_eq_getElem (by omega)⟩
    obtain ⟨_, c, hc⟩ := hvn b o e.symm ho
    rw [hbm2, ] at ho
    rw [hc] at ho
    exact hnc _ _ _ ho
end Go.Proofs.Ytihmfpefmmdecaa.All
