/- What the reference of layer 20 answers, in plain words on lists. -/
import Derived.Test.YtihmfpefmmdecaaOk
import Derived.Test.YtihmfpefmmdecaaAllx5
import Derived.Test.YtihmfpefmmdecaaAllx6
import Derived.Test.YtihmfpefmmdecaaAllx7
import Derived.Test.YtihmfpefmmdecaaAllx8
import Derived.Test.YtihmfpefmmdecaaAllx9
import Derived.Test.YtihmfpefmmdecaaAllx10
namespace Go.Proofs.Ytihmfpefmmdecaa.All
open Go.RowKit Go.Proofs Go.Sort Go.Proofs.YtihmfpefmmdecaaW.PrintWords Go.Proofs.YtihmfpefmmdecaaW.PrintLast

theorem Ev.yes {α : Type} {g f : Nat → Option α} {r : α} {c : Prop} [Decidable c] (h : c) (e : Ev f r) : Ev (fun k => if c then f k else g k) r := e.congr (fun _ => if_pos h)
theorem Ev.no {α : Type} {g f : Nat → Option α} {r : α} {c : Prop} [Decidable c] (h : ¬ c) (e : Ev g r) : Ev (fun k => if c then f k else g k) r := e.congr (fun _ => if_neg h)
theorem Ev.is {α : Type} {g : Option α} {r : α} (h : g = some r) : Ev (fun _ => g) r := ⟨0, fun _ _ => h⟩
theorem wrapN {j : Nat} (h : j ≤ 1000000) : wrap64 ((j : Int) + 1) = ((j + 1 : Nat) : Int) := by unfold wrap64; omega


theorem less_eq (a b : S36) : fastiref20_Less.f a.f0 a.f1 a.f2 b.f0 b.f1 b.f2 = some (decide (mLt a b)) := by
  unfold fastiref20_Less.f mLt
  by_cases h : a.f0 < b.f0
  · rw [if_pos h]; simp [h]
  · rw [if_neg h]
    by_cases h2 : a.f0 = b.f0
    · rw [if_pos h2]; simp [h2]
    · rw [if_neg h2]; simp [h, h2]

theorem insM_len (x : S36) (l : List S36) : (insM x l).length = l.length + 1 := (insM_perm x l).length_eq
theorem put_loop (x : S36) (l : List S36) (hl : l.length ≤ 1000000) : ∀ (d j : Nat), j + d = l.length → Ev (fun k => fastiref20_Put.l0 k l (l.take j) (j : Int) x.f0 x.f1 x.f2) (l.take j ++ insM x (l.drop j)) := by
  intro d
  induction d with
  | zero =>
    intro j hj
    have hjl : j = l.length := by omega
    have ht : (l.take j).length ≤ 1000000 := by rw [List.length_take]; omega
    have hd : l.drop j = [] := by rw [hjl, List.drop_length]
    refine Ev.step (fun k => rfl) ?_
    refine Ev.no (by omega) (Ev.yes (by omega) (Ev.bind (Ev.now _) (Ev.yes (by omega) (Ev.yes (by omega) (Ev.bind (Ev.now _) ?_)))))
    rw [Int.toNat_natCast, hd]
    refine Ev.yes (by simp; omega) (Ev.is ?_)
    simp [insM]
  | succ d ih =>
    intro j hj
    have hlt : j < l.length := by omega
    have ht : (l.take j).length ≤ 1000000 := by rw [List.length_take]; omega
    have hdr := List.drop_eq_getElem_cons hlt
    refine Ev.step (fun k => rfl) ?_
    refine Ev.yes (by omega) (Ev.yes (by omega) ?_)
    rw [rd_nat l hlt]
    refine Ev.bind (Ev.is (less_eq x l[j])) ?_
    by_cases h : mLt x l[j]
    · rw [decide_eq_true h]
      refine Ev.yes rfl (Ev.yes (by omega) (Ev.bind (Ev.now _) (Ev.yes (by omega) (Ev.bind (Ev.now _) ?_))))
      rw [Int.toNat_natCast]
      refine Ev.yes (by simp; omega) (Ev.is ?_)
      rw [hdr]
      unfold insM
      rw [if_pos h]
      simp
    · rw [decide_eq_false h]
      refine Ev.no (by simp) (Ev.yes (by omega) ?_)
      rw [wrapN (by omega)]
      have e1 : l.take (j + 1) = l.take j ++ [l[j]] := List.take_succ_eq_append_getElem hlt
      have e2 := ih (j + 1) (by omega)
      rw [e1] at e2
      have e3 : l.take j ++ insM x (l.drop j) = l.take j ++ [l[j]] ++ insM x (l.drop (j + 1)) := by
        rw [hdr]
        conv => lhs; unfold insM
        rw [if_neg h, List.append_assoc, List.singleton_append]
      rw [e3]
      exact e2
theorem put_ev (x : S36) (l : List S36) (hl : l.length ≤ 1000000) : Ev (fun k => fastiref20_Put.f k l x.f0 x.f1 x.f2) (insM x l) := by
  have := put_loop x l hl l.length 0 (by omega)
  rw [List.take_zero, List.drop_zero, List.nil_append] at this
  exact this

def convM (r : Int) (t : Bool) (x : S36) : S36 := if t = true then turnM r x else setR r x
/-- What 'moved' makes. -/
def movedL (l : List S36) (r : Int) (t : Bool) (acc : List S36) : List S36 := l.foldl (fun acc y => insM (convM r t y) acc) acc
theorem movedL_len (l : List S36) (r : Int) (t : Bool) : ∀ acc, (movedL l r t acc).length = acc.length + l.length := by
  induction l with
  | nil => intro acc; rfl
  | cons y ys ih =>
    intro acc
    have := ih (insM (convM r t y) acc)
    rw [insM_len] at this
    simp only [movedL, List.foldl_cons, List.length_cons] at *
    omega
theorem moved_loop (l : List S36) (r : Int) (t : Bool) (hl : l.length ≤ 1000000) : ∀ (d j : Nat) (acc : List S36), j + d = l.length → acc.length ≤ j → Ev (fun k => fastiref20_moved.l0 k l r t acc (j : Int)) (movedL (l.drop j) r t acc) := by
  intro d
  induction d with
  | zero =>
    intro j acc hj _
    have hjl : j = l.length := by omega
    refine Ev.step (fun k => rfl) (Ev.no (by omega) (Ev.is ?_))
    rw [hjl, List.drop_length]
    rfl
  | succ d ih =>
    intro j acc hj hb
    have hlt : j < l.length := by omega
    have hdr := List.drop_eq_getElem_cons hlt
    refine Ev.step (fun k => rfl) (Ev.yes (by omega) (Ev.yes (by omega) ?_))
    rw [rd_nat l hlt, wrapN (by omega), hdr]
    have e := ih (j + 1) (insM (convM r t l[j]) acc) (by omega) (by rw [insM_len]; omega)
    have hp := put_ev (convM r t l[j]) acc (by omega)
    cases t with
    | true => exact Ev.yes rfl (Ev.bind hp e)
    | false => exact Ev.no (by simp) (Ev.bind hp e)
theorem moved_ev (l : List S36) (r : Int) (t : Bool) (hl : l.length ≤ 1000000) : Ev (fun k => fastiref20_moved.f k l r t) (movedL l r t []) := by
  have := moved_loop l r t hl l.length 0 [] (by omega) (by simp)
  rw [List.drop_zero] at this
  exact this
theorem movedL_perm (r : Int) (t : Bool) : ∀ (l acc : List S36), (movedL l r t acc).Perm (acc ++ l.map (convM r t)) := by
  intro l
  induction l with
  | nil => intro acc; simp [movedL]
  | cons y ys ih =>
    intro acc
    refine (ih (insM (convM r t y) acc)).trans ?_
    rw [List.map_cons]
    exact ((insM_perm _ _).append_right _).trans List.perm_middle.symm
theorem insM_le {x : S36} {l : List S36} (h : l.Pairwise mLe) : (insM x l).Pairwise mLe := by
  induction l with
  | nil => exact List.pairwise_singleton _ _
  | cons y ys ih =>
    obtain ⟨h1, h2⟩ := List.pairwise_cons.1 h
    unfold insM
    split
    · rename_i hxy
      refine List.pairwise_cons.2 ⟨fun z hz => ?_, h⟩
      rcases List.mem_cons.1 hz with rfl | hz
      · exact mLt_le hxy
      · have := h1 z hz
        unfold mLe at *
        unfold mLt at hxy
        omega
    · rename_i hxy
      refine List.pairwise_cons.2 ⟨fun z hz => ?_, ih h2⟩
      rcases List.mem_cons.1 ((insM_perm x ys).mem_iff.1 hz) with rfl | hz
      · unfold mLt at hxy
        unfold mLe
        omega
      · exact h1 z hz
theorem movedL_le (r : Int) (t : Bool) : ∀ (l acc : List S36), acc.Pairwise mLe → (movedL l r t acc).Pairwise mLe := by
  intro l
  induction l with
  | nil => intro acc h; exact h
  | cons y ys ih =>
    intro acc h
    exact ih _ (insM_le h)

theorem of_loop (m : List S36) (r : Int) (hm : m.length ≤ 1000000) : ∀ (d j : Nat), j + d = m.length → Ev (fun k => fastiref20_Of.l0 k m r (ofR (m.take j) r) (j : Int)) (ofR m r) := by
  intro d
  induction d with
  | zero =>
    intro j hj
    refine Ev.step (fun k => rfl) (Ev.no (by omega) (Ev.is ?_))
    rw [List.take_of_length_le (by omega)]
  | succ d ih =>
    intro j hj
    have hlt : j < m.length := by omega
    have e := ih (j + 1) (by omega)
    have hle : (ofR (m.take j) r).length ≤ j := Nat.le_trans (List.length_filter_le _ _) (by rw [List.length_take]; omega)
    rw [List.take_succ_eq_append_getElem hlt] at e
    refine Ev.step (fun k => rfl) (Ev.yes (by omega) (Ev.yes (by omega) ?_))
    rw [rd_nat m hlt, wrapN (by omega)]
    by_cases h : m[j].f0 = r
    · refine Ev.yes h (Ev.yes (by omega) ?_)
      have : ofR (m.take j ++ [m[j]]) r = ofR (m.take j) r ++ [m[j]] := by
        unfold ofR
        rw [List.filter_append, List.filter_cons_of_pos (by simpa using h), List.filter_nil]
      rw [this] at e
      exact e
    · refine Ev.no h ?_
      have : ofR (m.take j ++ [m[j]]) r = ofR (m.take j) r := by
        unfold ofR
        rw [List.filter_append, List.filter_cons_of_neg (by simpa using h), List.filter_nil, List.append_nil]
      rw [this] at e
      exact e
theorem of_ev (m : List S36) (r : Int) (hm : m.length ≤ 1000000) : Ev (fun k => fastiref20_Of.f k m r) (ofR m r) := of_loop m r hm m.length 0 (by omega)

theorem same_loop (a b : List S36) (hl : a.length = b.length) (ha : a.length ≤ 1000000) : ∀ (d j : Nat), j + d = a.length → ∃ c, Ev (fun k => fastiref20_Same.l0 k a b (j : Int)) c ∧ (c = true ↔ a.drop j = b.drop j) := by
  intro d
  induction d with
  | zero =>
    intro j hj
    refine ⟨true, Ev.step (fun k => rfl) (Ev.no (by omega) (Ev.is rfl)), ?_⟩
    rw [List.drop_of_length_le (by omega), List.drop_of_length_le (by omega)]
    simp
  | succ d ih =>
    intro j hj
    have h1 : j < a.length := by omega
    have h2 : j < b.length := by omega
    obtain ⟨c, e, hc⟩ := ih (j + 1) (by omega)
    rw [List.drop_eq_getElem_cons h1, List.drop_eq_getElem_cons h2]
    by_cases hx : a[j] = b[j]
    · refine ⟨c, Ev.step (fun k => rfl) (Ev.yes (by omega) (Ev.yes (by omega) (Ev.yes (by omega) (Ev.no ?_ ?_)))), ?_⟩
      · rw [rd_nat a h1, rd_nat b h2, hx]
        simp
      · rw [wrapN (by omega)]
        exact e
      · rw [hc, hx, List.cons.injEq]
        simp
    · refine ⟨false, Ev.step (fun k => rfl) (Ev.yes (by omega) (Ev.yes (by omega) (Ev.yes (by omega) (Ev.yes ?_ (Ev.is rfl))))), ?_⟩
      · rw [rd_nat a h1, rd_nat b h2]
        rw [s36_eq] at hx
        simp
        omega
      · rw [List.cons.injEq]
        simp [hx]
theorem same_ev (a b : List S36) (ha : a.length ≤ 1000000) : ∃ c, Ev (fun k => fastiref20_Same.f k a b) c ∧ (c = true ↔ a = b) := by
  by_cases hl : a.length = b.length
  · obtain ⟨c, e, hc⟩ := same_loop a b hl ha a.length 0 (by omega)
    exact ⟨c, Ev.yes (by omega) e, by simpa using hc⟩
  · exact ⟨false, Ev.no (by omega) (Ev.is rfl), by simp; intro h; exact hl (by rw [h])⟩
end Go.Proofs.Ytihmfpefmmdecaa.All
