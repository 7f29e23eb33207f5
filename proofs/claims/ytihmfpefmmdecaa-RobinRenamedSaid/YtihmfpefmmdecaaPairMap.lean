/- A set of pairs of integers, as a map[[2]int]bool that holds true alone. -/
import Derived.Test.YtihmfpefmmdecaaProg
import Derived.Maps.OwnSet
import Derived.DeepKeys4
import Derived.KernelRfl
namespace Go.Proofs.Ytihmfpefmmdecaa.All
open Go.Maps (Keyed)

theorem laidOut : laidOutB Try.prog = true := by kernel_rfl
theorem keyRow : (83 : TypeId) < Try.prog.types.size := of_decide_eq_true (by kernel_rfl)
theorem keyTy : Try.prog.keyTypeAt 2 83 = true := by kernel_rfl
theorem two_le : 2 + 1 ≤ 10000 := by omega
theorem keyK : Keyed Try.prog 83 := Keyed.of_law (deep_law_laid (P := Try.prog) (k := 83) laidOut (m := 2) two_le keyRow keyTy (by rw [Try.underlying83]))
def pv (p : Int × Int) : Value := .agg #[.int .i64 p.1, .int .i64 p.2]
def Fine (p : Int × Int) : Prop := (-9223372036854775808 ≤ p.1 ∧ p.1 ≤ 9223372036854775807) ∧ (-9223372036854775808 ≤ p.2 ∧ p.2 ≤ 9223372036854775807)

theorem wf_i64 {a : Int} (h : -9223372036854775808 ≤ a ∧ a ≤ 9223372036854775807) : (Lit.int .i64 a).wf = true := by
  have h1 : IntKind.i64.min = -9223372036854775808 := rfl
  have h2 : IntKind.i64.max = 9223372036854775807 := rfl
  simp only [Lit.wf, h1, h2, Bool.and_eq_true, decide_eq_true_eq]
  exact h

theorem cells83 : Try.prog.cellsOf 83 = 2 := by kernel_rfl
theorem cells3 : Try.prog.cellsOf 3 = 1 := by kernel_rfl
theorem keyType83 : Try.prog.keyType 83 = true := by kernel_rfl
theorem formed83 (c0 c1 : Value) : (Value.agg #[c0, c1]).formed Try.prog 83 = true := by
  simp [Value.formed, Try.underlying83, cells83]

theorem keyLits3 (P : Program) (hu : P.underlying 3 = some (.int .i64)) (m : Nat) (a : Int) (h : (Lit.int .i64 a).wf = true) : P.keyLits (m + 1) 3 [.int .i64 a] = some [.int .i64 a] := by
  simp [Program.keyLits, hu, h]
theorem keyLits83 (P : Program) (hu : P.underlying 3 = some (.int .i64)) (hv : P.underlying 83 = some (.array 2 3)) (h83 : P.cellsOf 83 = 2) (h3 : P.cellsOf 3 = 1) (m : Nat) (a b : Int) (ha : (Lit.int .i64 a).wf = true) (hb : (Lit.int .i64 b).wf = true) :
    P.keyLits (m + 2) 83 [.int .i64 a, .int .i64 b] = some [.int .i64 a, .int .i64 b] := by
  rw [Program.keyLits.eq_def]
  simp only [hv]
  simp [h83, h3, List.range_succ, keyLits3 P hu m a ha, keyLits3 P hu m b hb]

theorem types_pos : ∃ m, Try.prog.types.size = m + 1 := by
  have h : 83 < Try.prog.types.size := keyRow
  revert h
  generalize Try.prog.types.size = k
  intro h
  exact ⟨k - 1, by omega⟩
theorem key_pair (p : Int × Int) (h : Fine p) : ∃ kl, keyOf Try.prog 83 (pv p) = some kl := by
  obtain ⟨m, hm⟩ := types_pos
  unfold keyOf
  rw [Try.underlying83]
  simp only [keyType83, pv, formed83, Bool.and_self, if_true]
  rw [hm]
  refine ⟨_, (congrArg (Option.map fun ls => Lit.string (keyBytes ls)) (keyLits83 Try.prog Try.underlying3 Try.underlying83 cells83 cells3 m p.1 p.2 (wf_i64 h.1) (wf_i64 h.2)))⟩

noncomputable def klOf (p : Int × Int) (h : Fine p) : Lit := Classical.choose (key_pair p h)
theorem klOf_eq (p : Int × Int) (h : Fine p) : keyOf Try.prog 83 (pv p) = some (klOf p h) := Classical.choose_spec (key_pair p h)
theorem klOf_inj {p q : Int × Int} (h : Fine p) (h' : Fine q) (e : klOf p h = klOf q h') : p = q := by
  have := keyK.inj (klOf_eq p h) (by rw [e]; exact klOf_eq q h')
  simp [pv] at this
  exact Prod.ext this.1 this.2

/-- Block b is a map that holds true at the keys ks, and nothing else. -/
def SetAt (W : World) (b : Nat) (ks : List (Int × Int)) : Prop :=
  ∃ (n : Nat) (D : DataW Unit), W.ownsMap Try.prog 83 (plainElem Try.prog 4) b n D ∧ n ≤ ks.length ∧ Maps.size D = ks.length ∧
    ∀ p (h : Fine p), D.atKey (klOf p h) (.lit (.bool false)) = .lit (.bool (decide (p ∈ ks))) ∧ Maps.has D (klOf p h) = decide (p ∈ ks)

theorem bool_inv {P : Program} {e : TypeId} (he : P.underlying e = some .bool) {v : Value} {c : Bool} {ps : List MemPlace} (h : plainElem (H := Unit) P e v = some (.lit (.bool c), ps)) : v = .bool c := by
  unfold plainElem at h
  rw [he] at h
  cases v <;> simp at h
  rw [h.1]

theorem set_new (W : World) : SetAt (W.alloc (.map #[] 0)) W.heap.size [] :=
  ⟨0, .map [], World.ownsMap_made W _ _ _, Nat.le_refl _, rfl, fun _ _ => ⟨rfl, rfl⟩⟩

theorem set_lookup {W : World} {b : Nat} {ks : List (Int × Int)} (hs : SetAt W b ks) (p : Int × Int) (h : Fine p) :
    (Instr.lookup 78 (.map (some b)) (.agg #[.int .i64 p.1, .int .i64 p.2]) false).run Try.prog W = .ok (.bool (decide (p ∈ ks))) W := by
  obtain ⟨n, D, ho, hn, hz, ha⟩ := hs
  obtain ⟨v, ps, hrun, hv⟩ := ho.lookup keyK Try.underlying78 (z := .bool false) (by kernel_rfl) (plainElem_bool Try.underlying4 false) (klOf_eq p h)
  rw [(ha p h).1] at hv
  obtain rfl := bool_inv Try.underlying4 hv
  exact hrun

theorem set_update {W : World} {b : Nat} {ks : List (Int × Int)} (hs : SetAt W b ks) (hl : ks.length < 1000000) (p : Int × Int) (h : Fine p) (hp : p ∉ ks) :
    ∃ W', (Instr.mapUpdate 78 (.map (some b)) (.agg #[.int .i64 p.1, .int .i64 p.2]) (.bool true)).run Try.prog W = .ok () W' ∧ SetAt W' b (ks ++ [p]) ∧ W.grownBy W' (some b) := by
  obtain ⟨n, D, ho, hn, hz, ha⟩ := hs
  obtain ⟨W', hrun, ho', hg⟩ := ho.update keyK Try.underlying78 (by unfold maxLen; omega) (klOf_eq p h) (plainElem_bool Try.underlying4 true)
  refine ⟨W', hrun, ⟨n + 1, _, ho', by simp; omega, ?_, ?_⟩, hg⟩
  · rw [Maps.size_put (ho.tidy keyK), (ha p h).2]
    simp [hp, hz]
  · intro q hq
    by_cases e : q = p
    · subst e
      have hk := keyK.key (klOf_eq q h)
      rw [Maps.atKey_put_same ho.isMap hk, Maps.has_put_same ho.isMap hk]
      simp
    · have hne : klOf q hq ≠ klOf p h := fun e2 => e (klOf_inj _ _ e2)
      rw [Maps.atKey_put_other hne, Maps.has_put_other hne, (ha q hq).1, (ha q hq).2]
      simp [e]

theorem set_len {W : World} {b : Nat} {ks : List (Int × Int)} (hs : SetAt W b ks) (ty : TypeId) : (Builtin.len_ #[78] ty #[.map (some b)]).run Try.prog W = .ok (.int .i64 ks.length) W := by
  obtain ⟨n, D, ho, hn, hz, ha⟩ := hs
  rw [ho.len Try.underlying78, hz]

theorem SetAt.kept {W W' : World} {row : Option Nat} {b : Nat} {ks : List (Int × Int)} (hs : SetAt W b ks) (hg : W.grownBy W' row) (hne : some b ≠ row) : SetAt W' b ks := by
  obtain ⟨n, D, ho, r⟩ := hs
  exact ⟨n, D, ho.kept hg hne, r⟩
theorem SetAt.lt {W : World} {b : Nat} {ks : List (Int × Int)} (hs : SetAt W b ks) : b < W.heap.size := by
  obtain ⟨n, D, ho, r⟩ := hs
  exact ho.lt
theorem SetAt.setCell {W : World} {b : Nat} {ks : List (Int × Int)} (hs : SetAt W b ks) {a : Addr} (ha : b ≠ a.block) (u : Value) : SetAt (W.setCell a u) b ks := by
  obtain ⟨n, D, ho, r⟩ := hs
  exact ⟨n, D, ho.setCell ha u, r⟩
theorem SetAt.not_cells {W : World} {b : Nat} {ks : List (Int × Int)} (hs : SetAt W b ks) : ∀ cs t fr, W.heap[b]? ≠ some (.cells cs t fr) := by
  obtain ⟨n, D, ⟨es, c, hb, _⟩, r⟩ := hs
  intro cs t fr h
  rw [hb] at h
  cases h
end Go.Proofs.Ytihmfpefmmdecaa.All
