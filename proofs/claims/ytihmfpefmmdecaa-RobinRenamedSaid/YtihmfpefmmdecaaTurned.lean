/- Contract of robin.turned: the meetings with exchanged venues, in another round, in order. -/
import Derived.Test.YtihmfpefmmdecaaSorted
namespace Go.Proofs.Ytihmfpefmmdecaa.All
open Go.RowKit Go.Proofs Go.Sort Go.Proofs.YtihmfpefmmdecaaW.PrintWords Go.Proofs.YtihmfpefmmdecaaW.PrintLast

def turnM (r : Int) (x : S36) : S36 := ⟨r, x.f2, x.f1⟩

theorem reps_flat (w : World) : ∀ (n : Nat) (zs : List S36), zs.length = n → Reps (k36.K w) 3 zs (flatM zs) := by
  intro n
  induction n with
  | zero =>
    intro zs h
    rw [List.eq_nil_of_length_eq_zero h]
    exact Reps.none _ _
  | succ n ih =>
    intro zs h
    rcases List.eq_nil_or_concat zs with rfl | ⟨l, x, rfl⟩
    · simp at h
    · rw [List.concat_eq_append] at h ⊢
      rw [flatM_snoc]
      exact (ih l (by simpa using h)).snoc (k36_mk w x) rfl

theorem reads_own {w : World} {base : Nat} {v : Value} {zs : List S36} (h : w.ownsRow base 36 3 v zs.length (flatM zs)) : ∃ A c, v = .slice A zs.length c ∧ zs.length ≤ c ∧ Kd.C k36 w A zs.length zs := by
  obtain ⟨A, c, rfl, hr⟩ := own_reads_row h (reps_flat w _ zs rfl) rfl
  exact ⟨A, c, rfl, own_le h, hr⟩

theorem news_cells (W : World) (cs : List Value) (e : TypeId) {n : Nat} (hn : n = W.heap.size) : ∀ j u, cs[j]? = some u → (W.alloc (.cells cs.toArray e)).cell? (({ block := n, off := 0, spot := none } : Addr).add j) = some u :=
  fun j u hj => by
    subst hn
    rw [add_plain]
    unfold World.cell?
    rw [show (W.alloc (.cells cs.toArray e)).heap[W.heap.size]? = _ from World.alloc_heap_new W _]
    simpa using hj

theorem mcells_one (x : S36) : ∀ u ∈ mcells x, u.oneCell' = true := by
  intro u hu
  simp [mcells] at hu
  rcases hu with rfl | rfl | rfl <;> rfl

theorem take_map_snoc (f : S36 → S36) (zs : List S36) {k : Nat} (hk : k < zs.length) : (zs.map f).take (k + 1) = (zs.map f).take k ++ [f (rd_T36 zs k)] := by
  rw [← List.map_take, take_snocM zs hk, List.map_append, List.map_take]
  rfl

set_option maxRecDepth 100000 in
set_option maxHeartbeats 2000000 in
theorem turned_calls (cap : Nat) (A : Option Addr) (zs : List S36) (r : Int) (w : World) (hz : zs.length ≤ 1000000) (hc : Kd.C k36 w A zs.length zs) :
    Calls Try.prog 53 #[.slice A zs.length cap, .int .i64 r] w fun e w' =>
      ∃ v ys, e = .returned v ∧ ys.length = zs.length ∧ ys.Perm (zs.map (turnM r)) ∧ ys.Pairwise mLe ∧ w'.ownsRow w.heap.size 36 3 v zs.length (flatM ys) ∧ Below w.heap.size w w' := by
  obtain ⟨i0, hi, hz0, hz1, hz2⟩ := info_parts info36
  go_enter Try.func53, Try.ntmps53
  go_wp2_with fail
  go_loopw [4, 9] (fun v i wr => ∃ k : Nat, k ≤ zs.length ∧ i = .int .i64 k ∧ wr.ownsRow w.heap.size 36 3 v k (flatM ((zs.map (turnM r)).take k)) ∧ Below w.heap.size w wr)
    (fun _ i _ => zs.length - (intOf i).toNat)
  case atStart => exact ⟨0, Nat.zero_le _, rfl, World.ownsRow_nil _ _ _ _, Below.refl _ _⟩
  case round =>
    obtain ⟨k, hk, rfl, hown, hnx⟩ := hrel
    by_cases hlt : k < zs.length
    · obtain ⟨ad, e, d0, d1, d2⟩ := at_T36 (Kd.C_below hc hnx) k (by omega) (by omega)
      simp only [Int.toNat_natCast] at d0 d1 d2
      subst e
      have HC := Lib.hid hc
      clear hc
      go_wp2_with (at_builtin; refine wpList_append_own _ rfl _ _ 22 rfl w.heap.size 36 i0 (.agg #[.int .i64 0, .int .i64 0, .int .i64 0]) 3 24 Try.underlying22 hi hz0 hz1 hz2 rfl (by decide) _ _ _ rfl ((hown.alloc _).alloc _) ⟨wr.heap.size + 1, 0, none⟩ 1 1 (mcells (turnM r (rd_T36 zs k))) rfl rfl ?c1 ?c2 ?c3 ?c4 ?c5 ?_)
      case c1 => exact news_cells _ (mcells (turnM r (rd_T36 zs k))) 36 (by simp)
      case c2 => exact mcells_one _
      case c3 => unfold maxLen; omega
      case c4 => omega
      case c5 => have := hnx.size; simp; omega
      · intro v' w1 hown' hgrow _
        have hb1 := ((hnx.alloc hnx.size _).alloc (by have := hnx.size; simp; omega) _).grown hgrow (by have := hnx.size; simp; omega) (own_base hown)
        clear hgrow hown
        have F := Lib.hid (And.intro hown' hb1)
        clear hown' hb1
        go_wp2_with fail
        go_roundw
        case rel => exact ⟨k + 1, by omega, by simp, by rw [take_map_snoc _ zs hlt, flatM_snoc]; exact F.out.1, F.out.2⟩
        case measure => simp [intOf]; omega
    · obtain rfl : k = zs.length := by omega
      rw [List.take_of_length_le (by simp)] at hown
      have e1 : zs.length = (zs.map (turnM r)).length := by simp
      have hown2 : wr.ownsRow w.heap.size 36 3 u4 (zs.map (turnM r)).length (flatM (zs.map (turnM r))) := by rw [← e1]; exact hown
      obtain ⟨A', c', hv, hle, hr⟩ := reads_own hown2
      subst hv
      have h := sorted_calls c' A' (zs.map (turnM r)) wr (by simpa using hz) hr
      rw [← e1] at h ⊢
      have H := Lib.hid h
      have HX := Lib.hid hnx
      have HC := Lib.hid hc
      clear h hr hown hown2 hc hle hnx e1
      go_wp2_with fail
      refine H.out.mono ?_
      rintro e w2 ⟨v, ys, rfl, hl, hp, hs, ho2, hg⟩
      have F := Lib.hid (And.intro hl (And.intro hp (And.intro hs (And.intro ho2 hg))))
      clear hl hp hs ho2 hg
      go_wp2_with fail
      go_ret
      obtain ⟨hl, hp, hs, ho2, hg⟩ := F.out
      exact ⟨v, ys, rfl, hl, hp, hs, own_weaken ho2 HX.out.size, HX.out.trans (hg.mono HX.out.size)⟩
end Go.Proofs.Ytihmfpefmmdecaa.All
