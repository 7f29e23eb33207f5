/- Contract of the law's list of meetings out of triples; a block known whole, as a row of triples. -/
import Derived.Test.YtihmfpefmmdecaaTurned
namespace Go.Proofs.Ytihmfpefmmdecaa.All
open Go.RowKit Go.Proofs Go.Sort Go.Proofs.YtihmfpefmmdecaaW.PrintWords Go.Proofs.YtihmfpefmmdecaaW.PrintLast

theorem flatM_len (zs : List S36) : (flatM zs).length = zs.length * 3 := by
  induction zs with
  | nil => rfl
  | cons y ys ih => rw [flatM, List.flatMap_cons, List.length_append]; unfold flatM at ih; rw [ih]; simp [mcells]; omega

theorem block_owns {W : World} {b : Nat} {e : TypeId} {zs : List S36} (h : W.heap[b]? = some (.cells (flatM zs).toArray e (0, 0))) (hz : zs.length ≤ 1000000) :
    W.ownsRow 0 e 3 (.slice (some ⟨b, 0, none⟩) zs.length zs.length) zs.length (flatM zs) :=
  ⟨flatM_len zs, .inr ⟨b, zs.length, _, rfl, Nat.zero_le _, h, Nat.le_refl _, by unfold maxLen; omega, by rw [List.size_toArray, flatM_len], by
    rw [List.toList_toArray, ← flatM_len, List.take_length]⟩⟩

theorem reads_block {W : World} {b : Nat} {e : TypeId} {zs : List S36} (h : W.heap[b]? = some (.cells (flatM zs).toArray e (0, 0))) (hz : zs.length ≤ 1000000) :
    Kd.C k36 W (some ⟨b, 0, none⟩) zs.length zs := by
  obtain ⟨A, c, e, hr⟩ := own_reads_row (block_owns h hz) (reps_flat W _ zs rfl) rfl
  cases e
  exact hr

theorem take_snocI (zs : List S36) {k : Nat} (hk : k < zs.length) : zs.take (k + 1) = zs.take k ++ [rd_T36 zs k] := take_snocM zs hk

set_option maxRecDepth 100000 in
set_option maxHeartbeats 2000000 in
theorem list_calls (cap : Nat) (A : Option Addr) (zs : List S36) (w : World) (hz : zs.length ≤ 1000000) (hc : Kd.C k36 w A zs.length zs) :
    Calls Try.prog 47 #[.slice A zs.length cap] w fun e w' =>
      ∃ v, e = .returned v ∧ w'.ownsRow w.heap.size 36 3 v zs.length (flatM zs) ∧ Below w.heap.size w w' := by
  obtain ⟨i0, hi, hz0, hz1, hz2⟩ := info_parts info36
  go_enter Try.func47, Try.ntmps47
  go_wp2_with fail
  go_loopw [2, 7] (fun v i wr => ∃ k : Nat, k ≤ zs.length ∧ i = .int .i64 k ∧ wr.ownsRow w.heap.size 36 3 v k (flatM (zs.take k)) ∧ Below w.heap.size w wr)
    (fun _ i _ => zs.length - (intOf i).toNat)
  case atStart => exact ⟨0, Nat.zero_le _, rfl, World.ownsRow_nil _ _ _ _, Below.refl _ _⟩
  case round =>
    obtain ⟨k, hk, rfl, hown, hnx⟩ := hrel
    by_cases hlt : k < zs.length
    · obtain ⟨ad, e, d0, d1, d2⟩ := at_T36 (Kd.C_below hc hnx) k (by omega) (by omega)
      simp only [Int.toNat_natCast] at d0 d1 d2
      subst e
      have hts := take_snocI zs hlt
      have HC := Lib.hid (And.intro hc hts)
      clear hc hts
      generalize rd_T36 zs k = x at HC d0 d1 d2
      go_wp2_with (at_builtin; refine wpList_append_own _ rfl _ _ 22 rfl w.heap.size 36 i0 (.agg #[.int .i64 0, .int .i64 0, .int .i64 0]) 3 24 Try.underlying22 hi hz0 hz1 hz2 rfl (by decide) _ _ _ rfl ((hown.alloc _).alloc _) ⟨wr.heap.size + 1, 0, none⟩ 1 1 (mcells x) rfl rfl ?c1 ?c2 ?c3 ?c4 ?c5 ?_)
      case c1 => exact news_cells _ (mcells x) 36 (by simp)
      case c2 => exact mcells_one _
      case c3 => unfold maxLen; omega
      case c4 => omega
      case c5 => have := hnx.size; simp; omega
      · intro v' w1 hown' hgrow _
        have hb1 := ((hnx.alloc hnx.size _).alloc (by have := hnx.size; simp; omega) _).grown hgrow (by have := hnx.size; simp; omega) (own_base hown)
        clear hgrow hown
        have F := Lib.hid (And.intro hown' hb1)
        clear hown' hb1
        go_wp2_with fail
        go_roundw
        case rel => exact ⟨k + 1, by omega, by simp, by rw [HC.out.2, flatM_snoc]; exact F.out.1, F.out.2⟩
        case measure => simp [intOf]; omega
    · obtain rfl : k = zs.length := by omega
      rw [List.take_length] at hown
      have F := Lib.hid (And.intro hown hnx)
      clear hown hnx
      go_wp2_with fail
      go_ret
      exact ⟨_, rfl, F.out.1, F.out.2⟩
end Go.Proofs.Ytihmfpefmmdecaa.All
