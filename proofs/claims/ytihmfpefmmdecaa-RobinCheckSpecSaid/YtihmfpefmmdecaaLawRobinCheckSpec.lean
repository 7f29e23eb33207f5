/- For every number, kind and list of meetings, robin.Check answers what the specification answers; no condition. -/
import Derived.Test.YtihmfpefmmdecaaRows
import Derived.Test.YtihmfpefmmdecaaOpen
import Derived.Test.YtihmfpefmmdecaaRef20c
import Derived.WalkKit
import Derived.ProofKit
import Derived.OpenShut
import Derived.ChangeOld
import Derived.Below
namespace Go.Proofs.Ytihmfpefmmdecaa.robinCheckSpec
open Go.ChangeShapes Go.WideShapes Go.ChangeAt Go.RowKit Go.Proofs.Ytihmfpefmmdecaa.All Go.Proofs.YtihmfpefmmdecaaW.PrintWords
set_option linter.unusedVariables false

theorem own : ownKnob Try.prog.godebug = none := by kernel_rfl
theorem laidOut : laidOutB Try.prog = true := by kernel_rfl

/-- The law, in plain words. -/
theorem pure (n k : Int) (m : List S36) (wn : (Lit.int .i64 n).wf = true) : ∃ q, fastilaw20_RobinCheckSpec.f q n k m = some true := by
  obtain ⟨b1, b2⟩ := bounds wn
  by_cases hm : m.length ≤ 400
  · obtain ⟨q, hq⟩ := (check_ref n k m hm).rounds
    refine ⟨q, ?_⟩
    have hc : robin_Check.f n k m = some (checkF n k m) := by
      unfold robin_Check.f
      rw [if_pos ⟨b1, b2, by omega⟩]
    have hl : ¬ (m.length : Int) > 400 := by omega
    unfold fastilaw20_RobinCheckSpec.f fastilaw20_sane.f
    simp only [Option.bind_some, if_true]
    rw [if_neg hl, hc, hq]
    simp
  · refine ⟨0, ?_⟩
    unfold fastilaw20_RobinCheckSpec.f fastilaw20_sane.f
    have hl : (m.length : Int) > 400 := by omega
    simp only [Option.bind_some, if_true]
    rw [if_pos hl]

theorem walk (n k : Int) (A : Option Addr) (len cap : Nat) (m : List S36) (wn : (Lit.int .i64 n).wf = true) (hl : m.length = len) (hlc : len ≤ cap) (w : World) (hc : k36.C w A len m) :
    Calls Try.prog 3 #[.int .i64 n, .int .i64 k, .slice A len cap] w fun e w' => e = .returned (.bool true) ∧ Below w.heap.size w w' := by
  subst hl
  obtain ⟨q, h⟩ := pure n k m wn
  exact fastilaw20_RobinCheckSpec.calls q n k A cap m true w hc hlc h

set_option maxRecDepth 100000 in
theorem lifted (os : Os) (started : os.Started) (H : Type) (enc : TypeId × Value → H) :
    ReturnsInHanded {} Try.checked os 3 .any (Rows.robinCheckSpecSpec.pre6 enc Try.prog Try.f3 Rows.robinCheckSpecRow.domain false) (Rows.robinCheckSpecSpec.post enc Try.prog Try.f3 false true false false) := by
  refine returnsInHanded_of_change (C := Try.checked) own started (by kernel_rfl) Try.func3
    (ChangeSpec.witness6 (enc := enc) (C := Try.checked) false ⟨#[], #[.int .i64 0, .int .i64 0, .slice none 0 0], []⟩ 8 (by kernel_rfl) (by kernel_rfl) (by kernel_rfl) (by kernel_rfl)) ?_
  intro W base args ds gs before hval0 hW hcnd _
  have hval : ∀ (j : Nat) t v, Try.f3.params[j]? = some t → args[j]? = some v → Value.okWide Try.prog W .any base t v := hval0
  have hW' := hW
  obtain ⟨p, q, hA0, hV, rfl, hfz, hnd⟩ := hW
  have hA : DataW.TrodAll enc Try.prog W 0 (fun _ => true) true Try.f3.params.toList args.toList ds p := hA0
  rw [Try.params3] at hA hval
  obtain ⟨v0, vs0, d0, ds0, p0, q0, hargs, rfl, rfl, h0, r0⟩ := trodAll_cons hA
  obtain ⟨v1, vs1, d1, ds1, p1, q1, rfl, rfl, rfl, h1, r1⟩ := trodAll_cons r0
  obtain ⟨v2, vs2, d2, ds2, p2, q2, rfl, rfl, rfl, h2, r2⟩ := trodAll_cons r1
  obtain ⟨rfl, rfl, rfl⟩ := trodAll_nil r2
  obtain rfl : args = #[v0, v1, v2] := by cases args; simp_all
  obtain ⟨rfl, rfl⟩ := trodVars_none hV
  obtain ⟨a0, rfl, rfl, rfl, w0⟩ := open_int Try.underlying3 (hval 0 3 v0 rfl rfl) h0
  obtain ⟨a1, rfl, rfl, rfl, w1⟩ := open_int Try.underlying3 (hval 1 3 v1 rfl rfl) h1
  obtain ⟨a2, len2, cap2, rfl⟩ := okWide_slice Try.underlying22 (hval 2 22 v2 rfl rfl)
  have k2 := h2
  have lt2 : ∀ x ∈ p2, x.block < W.heap.size := by obtain ⟨m, hm⟩ := k2; exact DataW.trod_lt m _ _ _ hm
  obtain ⟨z2, hz2, hlc, hc2⟩ : ∃ zs : List S36, zs.length = len2 ∧ len2 ≤ cap2 ∧ k36.C W a2 len2 zs := by
    obtain ⟨fuel, hf⟩ := h2
    obtain ⟨A, len, cap, zs, hcs, hl, _, hz, hc, _⟩ := open36 hf
    simp [Value.cells] at hcs
    obtain ⟨rfl, rfl, rfl⟩ := hcs
    exact ⟨zs, hz, hl, hc⟩
  clear hA0 hval0
  refine (walk a0 a1 a2 len2 cap2 z2 w0 hz2 hlc W hc2).mono fun e W' ⟨he, bel⟩ => ?_
  subst he
  exact ⟨_, rfl, _, _, _, [], _, [], hW', trodAll_mk1 (shut_bool Try.underlying4 _), (trodAll_cons_mk (shut_int Try.underlying3 w0) (trodAll_cons_mk (shut_int Try.underlying3 w1) (trodAll_cons_mk (Below.trod laidOut (by kernel_rfl) (of_decide_eq_true (by kernel_rfl)) k2 bel lt2) trodAll_mk0))), rfl, bel.frame _, fun h => by cases h⟩

theorem over : Rows.robinCheckSpecRow.holds Try.pinned (OpenSpec.ofChange Rows.robinCheckSpecSpec) :=
  OpenClaim.holds_of_wide 3 Try.f3 rfl rfl rfl rfl rfl rfl rfl ⟨rfl, rfl, rfl, rfl, rfl⟩ rfl rfl rfl rfl rfl (by kernel_rfl) Try.func3 (by kernel_rfl)
    (of_decide_eq_true (by kernel_rfl)) (by unfold Func.isWrapper; first | (rw [if_pos (by decide +kernel)]; kernel_rfl) | (rw [if_neg (by decide +kernel)]; exact ⟨rfl, rfl⟩))
    (fun os started H enc _ => lifted os started H enc)
theorem proved : Rows.RobinCheckSpecSaid := over
#print axioms proved
end Go.Proofs.Ytihmfpefmmdecaa.robinCheckSpec
namespace Go.Proofs.Ytihmfpefmmdecaa
/-- The row, under a short name, for the claim. -/
theorem robinCheckSpec_holds : Rows.RobinCheckSpecSaid := robinCheckSpec.proved
end Go.Proofs.Ytihmfpefmmdecaa
