/- Tables of ints in a block of the call's own: read, stored into, kept. -/
import Derived.Test.YtihmfpefmmdecaaCheckRow
namespace Go.Proofs.Ytihmfpefmmdecaa.All
open Go.RowKit Go.Proofs Go.Sort

/-- Block b holds the numbers f 0, f 1, .. -/
def Tab (W : World) (b N : Nat) (T : TypeId) (f : Nat → Int) : Prop := W.heap[b]? = some (.cells ((List.range N).map fun i => Value.int .i64 (f i)).toArray T (0, 0))
theorem Tab.lt {W : World} {b N : Nat} {T : TypeId} {f : Nat → Int} (h : Tab W b N T f) : b < W.heap.size := (Array.getElem?_eq_some_iff.1 h).1
theorem Tab.cell {W : World} {b N : Nat} {T : TypeId} {f : Nat → Int} (h : Tab W b N T f) {i : Nat} (hi : i < N) : W.cell? ⟨b, i, none⟩ = some (.int .i64 (f i)) := by
  unfold World.cell?
  rw [h]
  simp [hi]
theorem Tab.free {W : World} {b N : Nat} {T : TypeId} {f : Nat → Int} (h : Tab W b N T f) (i : Nat) : W.frozen? ⟨b, i, none⟩ = false := by
  unfold World.frozen?
  rw [h]
  simp
def upd (f : Nat → Int) (i : Nat) (v : Int) : Nat → Int := fun j => if j = i then v else f j
theorem Tab.set {W : World} {b N : Nat} {T : TypeId} {f : Nat → Int} (h : Tab W b N T f) (i : Nat) (v : Int) : Tab (W.setCell ⟨b, i, none⟩ (.int .i64 v)) b N T (upd f i v) := by
  unfold Tab
  rw [heap_setCell_in h]
  congr 2
  apply Array.ext'
  rw [Array.toList_setIfInBounds, List.toList_toArray]
  apply List.ext_getElem?
  intro j
  by_cases hj : j < N
  · by_cases e : j = i
    · subst e
      rw [List.getElem?_set_self (by simpa using hj)]
      simp [hj, upd]
    · rw [List.getElem?_set_ne (Ne.symm e)]
      simp [hj, upd, e]
  · rw [List.getElem?_eq_none (by simp; omega), List.getElem?_eq_none (by simp; omega)]
theorem Tab.congr {W : World} {b N : Nat} {T : TypeId} {f g : Nat → Int} (h : Tab W b N T f) (e : ∀ i, i < N → f i = g i) : Tab W b N T g := by
  unfold Tab at *
  rw [h]
  congr 3
  apply List.map_congr_left
  intro i hi
  rw [e i (List.mem_range.1 hi)]
theorem Tab.below {W W' : World} {b N : Nat} {T : TypeId} {f : Nat → Int} (h : Tab W b N T f) (hb : Below W.heap.size W W') : Tab W' b N T f := (hb.block b h.lt).trans h
theorem Tab.other {W : World} {b N : Nat} {T : TypeId} {f : Nat → Int} (h : Tab W b N T f) (a : Addr) (v : Value) (hne : b ≠ a.block) : Tab (W.setCell a v) b N T f := (Below.heap_setCell _ _ _ b hne).trans h
theorem Tab.drew {W : World} {b N : Nat} {T : TypeId} {f : Nat → Int} (h : Tab W b N T f) : Tab W.drew b N T f := h
theorem Tab.alloc {W : World} {b N : Nat} {T : TypeId} {f : Nat → Int} (h : Tab W b N T f) (o : Obj) : Tab (W.alloc o) b N T f := h.below ((Below.refl _ W).alloc (Nat.le_refl _) o)
/-- A row of zeros that 'make' has laid. -/
theorem tab_made {W : World} {base e size n g cap : Nat} {z : Array Value} (h : W.ownsRow base e size (.slice (some ⟨g, 0, none⟩) n cap) n (madeCells z (n * size)).toList) (hz : z = ((List.range size).map fun _ => Value.int .i64 0).toArray) (h0 : 0 < size) (hc : cap = n) : Tab W g (n * size) e (fun _ => 0) := by
  subst hc
  rcases h.2 with ⟨he, _⟩ | ⟨g', c', cur, he, _, hg, _, _, hs, ht⟩
  · cases he
  · cases he
    unfold Tab
    rw [hg]
    congr 2
    apply Array.ext'
    rw [List.toList_toArray]
    rw [List.take_of_length_le (by rw [Array.length_toList, hs]; exact Nat.le_refl _)] at ht
    rw [ht]
    unfold madeCells
    rw [Array.toList_map, Array.toList_range]
    apply List.map_congr_left
    intro i _
    subst hz
    have hlt : i % size < size := Nat.mod_lt _ h0
    simp [hlt]
end Go.Proofs.Ytihmfpefmmdecaa.All
