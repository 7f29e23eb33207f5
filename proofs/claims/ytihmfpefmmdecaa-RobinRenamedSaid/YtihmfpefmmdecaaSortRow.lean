/- A row of the call's own, before and behind a sort of its elements (plain words on worlds). -/
import Derived.Shelf.SlSortCmp.WholeK
import Derived.Shelf.SlSortCmp.NoneTotal
import Derived.Handy
namespace Go.Proofs.Ytihmfpefmmdecaa.SortRow
open Go.RowKit Go.Proofs Go.Sort
variable {α : Type} [Inhabited α]

theorem get_list (d : Array α) (i : Nat) : d.toList[i]! = d[i]! := by
  simp only [getElem!_def, Array.getElem?_toList]

theorem flat_get (enc : α → List Value) (k : Nat) (hk : ∀ x, (enc x).length = k) (h0 : 0 < k) : ∀ (l : List α) (t : Nat), t < l.length * k → (l.flatMap enc)[t]? = some ((enc (l[t / k]!))[t % k]!) := by
  intro l
  induction l with
  | nil => intro t ht; simp at ht
  | cons x l ih =>
    intro t ht
    rw [List.flatMap_cons]
    by_cases h : t < k
    · rw [List.getElem?_append_left (by rw [hk]; exact h), Nat.div_eq_of_lt h, Nat.mod_eq_of_lt h]
      simp [hk, h]
    · have hkt : k ≤ t := by omega
      rw [List.getElem?_append_right (by rw [hk]; exact hkt), hk]
      have h2 : t - k < l.length * k := by
        rw [List.length_cons, Nat.add_mul, Nat.one_mul] at ht
        omega
      rw [ih (t - k) h2]
      have e1 : t / k = (t - k) / k + 1 := by
        rw [Nat.div_eq t k, if_pos ⟨h0, hkt⟩]
      have e2 : t % k = (t - k) % k := Nat.mod_eq_sub_mod hkt
      rw [e1, e2]
      simp

omit [Inhabited α] in
theorem flat_len (enc : α → List Value) (k : Nat) (hk : ∀ x, (enc x).length = k) (l : List α) : (l.flatMap enc).length = l.length * k := by
  induction l with
  | nil => simp
  | cons x l ih => rw [List.flatMap_cons, List.length_append, ih, hk, List.length_cons, Nat.add_mul, Nat.one_mul, Nat.add_comm]

theorem holds_of_own {w : World} {base e k n cap g : Nat} (enc : α → List Value) (hk : ∀ x, (enc x).length = k) (h0 : 0 < k) {d : Array α} (h : w.ownsRow base e k (.slice (some ⟨g, 0, none⟩) n cap) n (d.toList.flatMap enc)) (_hn : d.size = n) : HoldsK enc k w g 0 d := by
  intro j hj
  rw [size_flatK] at hj
  rw [get_flatK _ _ _ _ hj]
  rcases h.2 with ⟨he, _⟩ | ⟨g', cap', cur, he, _, hg, hnc, _, hcs, hx⟩
  · cases he
  · cases he
    have hx2 : cur.toList[j]? = some ((enc d[j / k]!)[j % k]!) := by
      have h1 := flat_get enc k hk h0 d.toList j (by simpa using hj)
      rw [← hx, List.getElem?_take] at h1
      split at h1
      · rw [h1, get_list d]
      · cases h1
    refine ⟨?_, ?_⟩
    · simp only [World.cell?, Nat.zero_add]
      rw [hg]
      simpa using hx2
    · simp only [World.frozen?]
      rw [hg]
      simp

theorem putRow_block (enc : α → List Value) (k : Nat) {w : World} {g : Nat} {cur : Array Value} {e : TypeId} (m : Nat) (d : Array α) (os : Array Obj) (h : w.heap[g]? = some (.cells cur e (0, 0))) :
    (sortWorldK enc k w g 0 m d os).heap[g]? = some (.cells (putCells id 0 (flatK enc k d) cur) e (0, 0)) := by
  have hlt := (Array.getElem?_eq_some_iff.1 h).1
  unfold sortWorldK putRowK putRow
  rw [heap_grow_old _ _ (by simp [mapBlock, Sort.ahead, hlt])]
  simp [mapBlock, Sort.ahead, Array.getElem?_modify, h, onCells]

theorem putRow_other (enc : α → List Value) (k : Nat) {w : World} {g : Nat} (m : Nat) (d : Array α) (os : Array Obj) {i : Nat} (hi : i < w.heap.size) (hne : i ≠ g) :
    (sortWorldK enc k w g 0 m d os).heap[i]? = w.heap[i]? := by
  unfold sortWorldK putRowK putRow
  rw [heap_grow_old _ _ (by simp [mapBlock, Sort.ahead, hi])]
  simp [mapBlock, Sort.ahead, Array.getElem?_modify, Ne.symm hne]

theorem sortWorld_grown (enc : α → List Value) (k : Nat) (w : World) (g m : Nat) (d : Array α) (os : Array Obj) : w.grownBy (sortWorldK enc k w g 0 m d os) (some g) :=
  ⟨rfl, rfl, rfl, by simp [sortWorldK, putRowK, putRow, mapBlock, Sort.ahead], fun i hi hne => putRow_other enc k m d os hi (fun e => hne (by rw [e]))⟩

theorem own_sorted {w : World} {base e k n cap g : Nat} (enc : α → List Value) (hk : ∀ x, (enc x).length = k) (h0 : 0 < k) {xs : List Value} (h : w.ownsRow base e k (.slice (some ⟨g, 0, none⟩) n cap) n xs) (m : Nat) (d : Array α) (os : Array Obj) (hn : d.size = n) :
    (sortWorldK enc k w g 0 m d os).ownsRow base e k (.slice (some ⟨g, 0, none⟩) n cap) n (d.toList.flatMap enc) := by
  rcases h.2 with ⟨he, _⟩ | ⟨g', cap', cur, he, hb, hg, hnc, hm, hcs, hx⟩
  · cases he
  · cases he
    refine ⟨by rw [flat_len enc k hk, Array.length_toList, hn], .inr ⟨g, cap, _, rfl, hb, putRow_block enc k m d os hg, hnc, hm, by simp [putCells, hcs], ?_⟩⟩
    apply List.ext_getElem?
    intro t
    rw [List.getElem?_take]
    split
    · rename_i ht
      rw [flat_get enc k hk h0 d.toList t (by rw [Array.length_toList, hn]; exact ht)]
      have htc : t < cur.size := by rw [hcs]; exact Nat.lt_of_lt_of_le ht (Nat.mul_le_mul_right _ hnc)
      have hf : t < d.size * k := by rw [hn]; exact ht
      simp only [putCells, Array.getElem?_toList, Array.getElem?_mapIdx, Array.getElem?_eq_getElem htc, Option.map_some, Nat.zero_le, true_and, Nat.zero_add, size_flatK, if_pos hf, Nat.sub_zero, get_flatK _ _ _ _ hf, id, get_list d]
    · rename_i ht
      rw [List.getElem?_eq_none]
      rw [flat_len enc k hk, Array.length_toList, hn]
      omega

end Go.Proofs.Ytihmfpefmmdecaa.SortRow
