/- An argument that is a slice of meetings, read as a list. -/
import Derived.Test.YtihmfpefmmdecaaAllx0
import Derived.Deep.Slices
import Derived.ChangeArms
import Derived.Deep.Fields
import Derived.ProofKit
namespace Go.Proofs.Ytihmfpefmmdecaa.All
open Go.RowKit Go.Proofs Go.Deep Go.ChangeShapes Go.WideShapes Go.Proofs.YtihmfpefmmdecaaW.PrintWords Go.Proofs.YtihmfpefmmdecaaW.PrintLast

section
variable {H : Type} {enc : TypeId × Value → H} {P : Program} {w : World} {base : Nat} {spare : Nat → Bool} {held : Bool}

/-- Whatever the elements' kind: what is read is a row of it. -/
theorem open_rows {α : Type} [Inhabited α] (d : Kd α) (good : α → Prop) {t e : TypeId} {fuel : Nat} {cs : List Value} {x : DataW H × List MemPlace} (ht : P.underlying t = some (.slice e)) (hsz : P.cellsOf e = d.sz)
    (hK : ∀ (n : Nat) (c : List Value) (y : DataW H × List MemPlace), DataW.trod enc P w base spare held n e c = some y → ∃ z, d.K w z c ∧ good z) (h : DataW.trod enc P w base spare held fuel t cs = some x) :
    ∃ (A : Option Addr) (len cap : Nat) (zs : List α), cs = [.slice A len cap] ∧ len ≤ cap ∧ cap ≤ maxLen ∧ zs.length = len ∧ d.C w A len zs ∧ ∀ z ∈ zs, good z := by
  rcases open_slice ht h with ⟨h0, _⟩ | ⟨a, len, cap, m, n, D, Pl, hcs, hb, hl, hm, hmm, hx, hi⟩
  · exact ⟨none, 0, 0, [], h0, Nat.le_refl _, by unfold maxLen; omega, rfl, ⟨rfl, by decide, fun h => absurd h (Nat.lt_irrefl _)⟩, fun z hz => by cases hz⟩
  · have hlm : len ≤ m := by rw [hmm]; split <;> omega
    obtain ⟨f, hf⟩ := choose_lt (α := α) (n := len) (p := fun i z => good z ∧ ∃ c : List Value, c.length = d.sz ∧ d.K w z c ∧ ∀ j u, c[j]? = some u → w.cell? (a.add (i * d.sz + j)) = some u) (fun i hil => by
      obtain ⟨c, hc, htr⟩ := hi i (by omega)
      obtain ⟨z, hk, hg⟩ := hK n c _ htr
      obtain ⟨_, hcl, hat⟩ := World.cells?_some hc
      rw [hsz] at hcl hat
      refine ⟨z, hg, c, hcl, hk, fun j u hj => ?_⟩
      have hjl : j < d.sz := by
        have := (List.getElem?_eq_some_iff.1 hj).1
        omega
      have := hat j hjl
      rw [hj, Go.Deep.add_add] at this
      exact this)
    refine ⟨some a, len, cap, (List.range len).map f, hcs, hl, hm, by simp, ⟨by simp, by unfold maxLen at hm; omega, fun _ => ⟨a, rfl, fun j p hj => ?_⟩⟩, fun z hz => ?_⟩
    · rw [List.getElem?_map] at hj
      obtain ⟨i, h1, rfl⟩ := Option.map_eq_some_iff.1 hj
      obtain ⟨h2, h3⟩ := List.getElem?_eq_some_iff.1 h1
      rw [List.getElem_range] at h3
      subst h3
      rw [List.length_range] at h2
      obtain ⟨_, c, h4, h5, h6⟩ := hf j h2
      exact ⟨c, h4, h5, h6⟩
    · obtain ⟨i, h1, rfl⟩ := List.mem_map.1 hz
      exact (hf i (List.mem_range.1 h1)).1

instance inhab36 : Inhabited S36 := ⟨z36⟩
theorem cells36 : Try.prog.cellsOf 36 = 3 := by kernel_rfl
theorem k36_sz : k36.sz = 3 := rfl
/-- A meeting that fits. -/
def Wf36 (z : S36) : Prop := (Lit.int .i64 z.f0).wf = true ∧ (Lit.int .i64 z.f1).wf = true ∧ (Lit.int .i64 z.f2).wf = true
theorem one_of {l : List Value} {i : Nat} {v : Value} (h : (l.drop i).take 1 = [v]) : l[i]? = some v := by
  have := congrArg (fun l : List Value => l[0]?) h
  simpa [List.getElem?_take, List.getElem?_drop] using this
theorem read36 (n : Nat) (c : List Value) (y : DataW H × List MemPlace) (h : DataW.trod enc Try.prog w base spare held n 36 c = some y) : ∃ z, k36.K w z c ∧ Wf36 z := by
  obtain ⟨xs, n', _, _, hlen, hxl, hf⟩ := DataW.trod_struct Try.underlying36 h
  rw [cells36] at hlen
  have g : ∀ i, i < 3 → ∃ v, c[i]? = some (.int .i64 v) ∧ (Lit.int .i64 v).wf = true := by
    intro i hi
    have c3 : Try.prog.cellsOf 3 = 1 := by kernel_rfl
    have key : ∀ f : Field, f.type = 3 → f.offset = i → DataW.trod enc Try.prog w base spare held n' f.type ((c.drop f.offset).take (Try.prog.cellsOf f.type)) = xs[i]? → ∃ v, c[i]? = some (.int .i64 v) ∧ (Lit.int .i64 v).wf = true := by
      intro f h1 h2 h3
      rw [h1, h2, c3] at h3
      have hx : xs[i]? = some (xs[i]'(by rw [hxl]; exact hi)) := List.getElem?_eq_getElem _
      rw [hx] at h3
      obtain ⟨v, h4, _, h5⟩ := DataW.trod_int Try.underlying3 h3
      exact ⟨v, one_of h4, h5⟩
    match i, hi with
    | 0, _ => exact key _ rfl rfl (hf 0 _ rfl)
    | 1, _ => exact key _ rfl rfl (hf 1 _ rfl)
    | 2, _ => exact key _ rfl rfl (hf 2 _ rfl)
  obtain ⟨v0, a0, b0⟩ := g 0 (by omega)
  obtain ⟨v1, a1, b1⟩ := g 1 (by omega)
  obtain ⟨v2, a2, b2⟩ := g 2 (by omega)
  have e : c = [.int .i64 v0, .int .i64 v1, .int .i64 v2] := by
    apply List.ext_getElem?
    intro i
    match i with
    | 0 => exact a0
    | 1 => exact a1
    | 2 => exact a2
    | i + 3 => rw [List.getElem?_eq_none (by omega)]; rfl
  exact ⟨⟨v0, v1, v2⟩, by rw [e]; exact k36_mk w ⟨v0, v1, v2⟩, b0, b1, b2⟩
theorem open36 {fuel : Nat} {cs : List Value} {x : DataW H × List MemPlace} (h : DataW.trod enc Try.prog w base spare held fuel 22 cs = some x) :
    ∃ (A : Option Addr) (len cap : Nat) (zs : List S36), cs = [.slice A len cap] ∧ len ≤ cap ∧ cap ≤ maxLen ∧ zs.length = len ∧ k36.C w A len zs ∧ ∀ z ∈ zs, Wf36 z :=
  open_rows k36 Wf36 Try.underlying22 cells36 read36 h
end
theorem bounds {a : Int} (h : (Lit.int .i64 a).wf = true) : -9223372036854775808 ≤ a ∧ a ≤ 9223372036854775807 := by
  have h1 : IntKind.i64.min = -9223372036854775808 := rfl
  have h2 : IntKind.i64.max = 9223372036854775807 := rfl
  simp only [Lit.wf, h1, h2, Bool.and_eq_true, decide_eq_true_eq] at h
  exact h
end Go.Proofs.Ytihmfpefmmdecaa.All
