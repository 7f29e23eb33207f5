/- Contracts of the functions below robin.Check: Rounds, the test of a team, slices.Equal. -/
import Derived.Test.YtihmfpefmmdecaaMakeDefs
import Derived.Test.YtihmfpefmmdecaaPairMap
import Derived.Test.YtihmfpefmmdecaaAllx1
namespace Go.Proofs.Ytihmfpefmmdecaa.All
open Go.RowKit Go.Proofs Go.Sort Go.Proofs.YtihmfpefmmdecaaW.PrintWords Go.Proofs.YtihmfpefmmdecaaW.PrintLast

/-- robin.Rounds: the number and the error. -/
def roundsF (n k : Int) : Int × Int := if okNK n k then (if k = 1 then rds n else 2 * rds n, 0) else (0, 1)

theorem rounds_calls (n k : Int) (w : World) (hn : -9223372036854775808 ≤ n) (hn' : n ≤ 9223372036854775807) :
    Calls Try.prog 19 #[.int .i64 n, .int .i64 k] w fun e w' => e = .returned (.tuple #[.int .i64 (roundsF n k).1, .int .i64 (roundsF n k).2]) ∧ Below w.heap.size w w' := by
  by_cases h : okNK n k
  · have ho := of_yes n k w h
    obtain ⟨q1, q2, q3⟩ := rds_le n h.1 h.2.1
    unfold roundsF
    rw [if_pos h]
    generalize rds n = R at ho q1 q2 q3 ⊢
    have F := Lib.hid ho
    clear ho h
    by_cases hk : k = 1
    · subst hk
      go_enter Try.func19, Try.ntmps19
      go_wp2_with fail
      refine F.out.mono ?_
      rintro e w1 ⟨rfl, rfl⟩
      go_wp2_with fail
      go_ret2
      exact ⟨rfl, ((Below.refl _ w).alloc (Nat.le_refl _) _).alloc (by simp) _⟩
    · rw [if_neg hk]
      have hk' : (k == 1) = false := by simp [hk]
      go_enter Try.func19, Try.ntmps19
      go_wp2_with fail
      refine F.out.mono ?_
      rintro e w1 ⟨rfl, rfl⟩
      go_wp2_with fail
      go_ret2
      exact ⟨rfl, ((Below.refl _ w).alloc (Nat.le_refl _) _).alloc (by simp) _⟩
  · have ho := of_no n k w h hn hn'
    unfold roundsF
    rw [if_neg h]
    have F := Lib.hid ho
    clear ho h
    go_enter Try.func19, Try.ntmps19
    go_wp2_with fail
    refine F.out.mono ?_
    rintro e w1 ⟨r, rfl, rfl⟩
    go_wp2_with fail
    go_ret2
    exact ⟨rfl, ((Below.refl _ w).alloc (Nat.le_refl _) _).alloc (by simp) _⟩

theorem in_calls (n x : Int) (B : Nat) (w : World) (hB : w.cell? ⟨B, 0, none⟩ = some (.int .i64 n)) :
    Calls Try.prog 49 #[.int .i64 x, .pointer (some ⟨B, 0, none⟩)] w fun e w' => e = .returned (.bool (decide (0 ≤ x ∧ x < n))) ∧ w' = w := by
  by_cases h0 : 0 ≤ x
  · by_cases h1 : x < n
    · have e : decide (0 ≤ x ∧ x < n) = true := by simp [h0, h1]
      rw [e]
      clear e
      go_enter Try.func49, Try.ntmps49
      go_wp2
      go_ret
      exact ⟨rfl, rfl⟩
    · have e : decide (0 ≤ x ∧ x < n) = false := by simp [h1]
      rw [e]
      clear e
      go_enter Try.func49, Try.ntmps49
      go_wp2
      go_ret
      exact ⟨rfl, rfl⟩
  · have e : decide (0 ≤ x ∧ x < n) = false := by simp [h0]
    rw [e]
    clear e
    go_enter Try.func49, Try.ntmps49
    go_wp2
    go_ret
    exact ⟨rfl, rfl⟩

theorem rd_get (zs : List S36) {i : Nat} (h : i < zs.length) : rd_T36 zs i = zs[i] := by
  simp [rd_T36, h]

instance : DecidableEq S36 := fun a b => by
  cases a; cases b
  simp only [S36.mk.injEq]
  exact inferInstance

theorem s36_eq (x y : S36) : x = y ↔ x.f0 = y.f0 ∧ x.f1 = y.f1 ∧ x.f2 = y.f2 := by
  cases x; cases y; simp
attribute [local go_sem high] eqA36
set_option maxRecDepth 100000 in
set_option maxHeartbeats 2000000 in
theorem equal_calls (ca cb : Nat) (A B : Option Addr) (xs ys : List S36) (w : World) (hx : xs.length ≤ 1000000) (hy : ys.length ≤ 1000000) (hA : Kd.C k36 w A xs.length xs) (hB : Kd.C k36 w B ys.length ys) :
    Calls Try.prog 52 #[.slice A xs.length ca, .slice B ys.length cb] w fun e w' => e = .returned (.bool (decide (xs = ys))) ∧ ∃ q, w' = w.drewN q := by
  by_cases hl : xs.length = ys.length
  · have F := Lib.hid (And.intro hl (And.intro hA hB))
    have hly : ys.length = xs.length := hl.symm
    rw [hly] at *
    clear hl hA hB
    go_enter Try.func52, Try.ntmps52
    go_wp2_with fail
    go_loopw [13] (fun i wr => ∃ j : Nat, j ≤ xs.length ∧ i = .int .i64 j ∧ xs.take j = ys.take j ∧ ∃ q, wr = w.drewN q)
      (fun i _ => xs.length - (intOf i).toNat)
    case atStart => exact ⟨0, Nat.zero_le _, rfl, rfl, 0, rfl⟩
    case round =>
      obtain ⟨j, hj, rfl, ht, q, rfl⟩ := hrel
      by_cases hlt : j < xs.length
      · obtain ⟨ad, e, d0, d1, d2⟩ := at_T36 F.out.2.1 j (by omega) (by omega)
        have hC : Kd.C k36 w B xs.length ys := by
          have := F.out.2.2
          rw [← F.out.1] at this
          exact this
        obtain ⟨bd, e', c0, c1, c2⟩ := at_T36 hC j (by omega) (by omega)
        simp only [Int.toNat_natCast] at d0 d1 d2 c0 c1 c2
        subst e e'
        have T := Lib.hid ht
        clear ht hC
        go_wp2_with fail
        go_quiet (fail)
        have hfx := rd_get xs hlt
        have hfy := rd_get ys (F.out.1 ▸ hlt)
        have hE : xs[j] = ys[j]'(F.out.1 ▸ hlt) ↔ (!(rd_T36 xs j).f0 == (rd_T36 ys j).f0 || (!(rd_T36 xs j).f1 == (rd_T36 ys j).f1 || !(rd_T36 xs j).f2 == (rd_T36 ys j).f2)) = false := by
          rw [← hfx, ← hfy, s36_eq]
          simp
        have HE := Lib.hid hE
        clear hE hfx hfy
        generalize (!(rd_T36 xs j).f0 == (rd_T36 ys j).f0 || (!(rd_T36 xs j).f1 == (rd_T36 ys j).f1 || !(rd_T36 xs j).f2 == (rd_T36 ys j).f2)) = b at HE ⊢
        cases b with
        | false =>
          go_wp2_with fail
          refine ⟨⟨j + 1, by omega, by simp, ?_, _, rfl⟩, ?_⟩
          · rw [List.take_succ_eq_append_getElem hlt, List.take_succ_eq_append_getElem (F.out.1 ▸ hlt), T.out, HE.out.2 rfl]
          · simp only [intOf]
            omega
        | true =>
          have e : decide (xs = ys) = false := by
            simp only [decide_eq_false_iff_not]
            intro e
            have := HE.out.1 (by subst e; rfl)
            cases this
          have E := Lib.hid e
          clear e
          go_wp2_with fail
          go_ret
          exact ⟨by rw [E.out]; rfl, _, by first | rfl | exact World.drewN_drewN _ _ _⟩
      · have e : decide (xs = ys) = true := by
          obtain rfl : j = xs.length := by omega
          simp only [decide_eq_true_eq]
          rw [List.take_length, F.out.1, List.take_length] at ht
          exact ht
        have E := Lib.hid e
        have hjl : ¬ (j : Int) < xs.length := by omega
        clear ht e
        go_wp2_with fail
        go_ret
        exact ⟨by rw [E.out]; rfl, _, rfl⟩
  · have e : decide (xs = ys) = false := by
      simp only [decide_eq_false_iff_not]
      rintro rfl
      exact hl rfl
    rw [e]
    clear e hA hB
    have hl' : ((xs.length : Int) == (ys.length : Int)) = false := by simp; omega
    go_enter Try.func52, Try.ntmps52
    go_wp2_with fail
    go_ret
    exact ⟨rfl, 0, rfl⟩
end Go.Proofs.Ytihmfpefmmdecaa.All
