/- Contract of robin.Check. -/
import Derived.Test.YtihmfpefmmdecaaCkH
namespace Go.Proofs.Ytihmfpefmmdecaa.All
open Go.RowKit Go.Proofs Go.Sort Go.Proofs.YtihmfpefmmdecaaW.PrintWords Go.Proofs.YtihmfpefmmdecaaW.PrintLast
attribute [local go_sem] run_makeMap
set_option maxRecDepth 100000 in
set_option maxHeartbeats 8000000 in
theorem check_yes (n k : Int) (A : Option Addr) (cap : Nat) (m : List S36) (w : World) (hn : -9223372036854775808 ≤ n) (hn' : n ≤ 9223372036854775807) (hm : m.length ≤ 1000) (hc : Kd.C k36 w A m.length m) (hok : okNK n k) :
    Calls Try.prog 16 #[.int .i64 n, .int .i64 k, .slice A m.length cap] w fun e w' => e = .returned (.int .i64 (checkF n k m)) ∧ Below w.heap.size w w' := by
  obtain ⟨i0, hi0, hz0, hz1, hz2⟩ := info_parts (P := Try.prog) (e := 22) (z := .slice none 0 0) (size := 1) (bytes := 24) (by kernel_rfl)
  have hmx := mixed
  have hA : ∀ ad, A = some ad → 0 < m.length → ad.block < w.heap.size := fun ad e hp => by
    obtain ⟨ad', e', c0, _⟩ := at_T36 hc 0 (by omega) (by omega)
    rw [e] at e'
    cases e'
    exact World.block_lt_of_cell? w _ c0
  have hofc := of_yes n k (w.alloc (.cells #[.int .i64 n] 3)) hok
  have hro := rounds_calls n k (((w.alloc (.cells #[.int .i64 n] 3)).alloc (.cells #[.int .i64 n, .int .i64 (rds n)] 92)).alloc (.cells #[.int .i64 n, .int .i64 (rds n)] 92)) hn hn'
  obtain ⟨q1, q2, q3⟩ := rds_le n hok.1 hok.2.1
  generalize hR : rds n = R at hofc hro q1 q2 q3
  obtain ⟨RR, hRR⟩ : ∃ RR, (roundsF n k).1 = RR := ⟨_, rfl⟩
  have hRb : 1 ≤ RR ∧ RR ≤ 38 := by
    rw [← hRR]
    unfold roundsF
    rw [if_pos hok, hR]
    by_cases hk : k = 1
    · simp [hk]; omega
    · simp [hk]; omega
  rw [hRR] at hro
  obtain ⟨RN, rfl⟩ : ∃ RN : Nat, RR = (RN : Int) := ⟨RR.toNat, by omega⟩
  have F := Lib.hid (And.intro hofc (And.intro hro (And.intro hR (And.intro hRR (And.intro hc hok)))))
  have HA := Lib.hid hA
  clear hofc hro hR hRR hc hok hA
  go_enter Try.func16, Try.ntmps16
  go_wp2_with fail
  refine F.out.1.mono ?_
  rintro e w1 ⟨rfl, rfl⟩
  go_wp2_with fail
  refine F.out.2.1.mono ?_
  rintro e w3 ⟨rfl, hb3⟩
  have hb3' := (((Below.refl _ w).alloc (Nat.le_refl _) (.cells #[.int .i64 n] 3)).alloc (by simp) (.cells #[.int .i64 n, .int .i64 R] 92)).alloc (by simp; omega) (.cells #[.int .i64 n, .int .i64 R] 92)
  have hw3 := hb3'.trans (hb3.mono (by simp; omega))
  have c0 : Boxed w3 w.heap.size 3 (.int .i64 n) := boxed_grown (((Boxed.new w 3 (.int .i64 n)).alloc _).alloc _) (grown_of_below hb3 none) (fun _ e => by cases e)
  have c7 : w3.heap[w.heap.size + 2]? = some (.cells #[.int .i64 n, .int .i64 R] 92 (0, 0)) := by
    have := World.alloc_heap_new ((w.alloc (.cells #[.int .i64 n] 3)).alloc (.cells #[.int .i64 n, .int .i64 R] 92)) (.cells #[.int .i64 n, .int .i64 R] 92)
    exact (hb3.block _ (by simp)).trans (by simpa using this)
  have hs3 : w.heap.size + 3 ≤ w3.heap.size := by have := hb3.size; simp at this; omega
  have G := Lib.hid (And.intro hw3 (And.intro c0 c7))
  clear hb3 hb3' hw3 c0 c7
  go_wp2_with (at_make; refine wpList_make_full _ rfl _ _ 50 rfl w.heap.size 22 i0 (.slice none 0 0) 1 Try.underlying50 hi0 hz0 hz1 .i64 .i64 RN RN RN rfl rfl rfl rfl (by rw [hz2]; omega) (by unfold maxLen; omega) (by omega) ?_; intro w4 how4 hg4)
  -- the state ahead of the first loop
  have hby4 : ByAt w.heap.size w4 w3.heap.size (List.replicate RN (.slice none 0 0)) (byL RN []) := by
    refine ⟨?_, by simp [byL], ?_, ?_⟩
    · rcases how4.2 with ⟨h, _⟩ | ⟨g, c, cur, h, _, h3, _, _, h6, h7⟩
      · cases h
      · cases h
        rw [h3]
        congr 2
        apply Array.ext'
        rw [List.toList_toArray]
        have hl : cur.toList.length = RN * 1 := by simpa using h6
        rw [← List.take_of_length_le (Nat.le_of_eq hl), h7]
        exact made_nil RN
    · intro r u l hu hl
      have h1 := List.mem_of_getElem? hu
      have h2 := List.mem_of_getElem? hl
      rw [List.mem_replicate] at h1
      simp only [byL, List.filter_nil, List.mem_map] at h2
      obtain ⟨_, _, rfl⟩ := h2
      rw [h1.2]
      exact World.ownsRow_nil _ _ _ _
    · intro r s u v _ hu _ g hg
      have h1 := List.mem_of_getElem? hu
      rw [List.mem_replicate] at h1
      rw [h1.2] at hg
      simp [Value.ownBlock] at hg
  have hs4 : w3.heap.size ≤ w4.heap.size := hg4.size
  have gm : w4.grownBy (w4.alloc (.map #[] 0)) none := World.grownBy_alloc _ _ _
  have c04 := boxed_grown (boxed_grown G.out.2.1 hg4 (fun _ e => by cases e)) gm (fun _ e => by cases e)
  have c74 := cells_kept (cells_kept G.out.2.2 hg4 (fun _ e => by cases e)) gm (fun _ e => by cases e)
  have hb4 : Below w.heap.size w (w4.alloc (.map #[] 0)) := (G.out.1.grown hg4 (by omega) (fun _ e => by cases e)).alloc (by omega) _
  have hby5 := hby4.grown gm
  have hset := set_new w4
  generalize hW6 : w4.alloc (.map #[] 0) = W6 at c04 c74 hb4 hby5 hset ⊢
  have H := Lib.hid (And.intro c04 (And.intro c74 (And.intro hb4 (And.intro hset hby5))))
  clear hW6 gm c04 c74 hb4 hby5 hset hby4 how4 hg4 G
  go_wp2_with fail
  go_loopw [45] (fun i wr => ∃ j : Nat, j ≤ m.length ∧ i = .int .i64 j ∧ ∃ vs, CkL n R RN m w w3.heap.size w4.heap.size j vs wr)
    (fun i _ => m.length - (intOf i).toNat)
  case atStart => exact ⟨0, Nat.zero_le _, rfl, _, fun t _ h => absurd h (Nat.not_lt_zero _), H.out.2.2.2.1, H.out.2.2.2.2, H.out.1, H.out.2.1, H.out.2.2.1⟩
  case round => as_aux_lemma =>
    clear H
    obtain ⟨j, hj, rfl, vs, hrel1⟩ := hrel
    by_cases hlt : j < m.length
    · obtain ⟨hpre, hset, hby, hb0, hb7, hbel⟩ := hrel1
      obtain ⟨ad, e, d0, d1, d2⟩ := at_T36 (Kd.C_below F.out.2.2.2.2.1 hbel) j (by omega) (by omega)
      simp only [Int.toNat_natCast] at d0 d1 d2
      have hadb := HA.out ad e (by omega)
      subst e
      have hmj := rd_get m hlt
      generalize rd_T36 m j = x at d0 d1 d2 hmj
      have hszw := hbel.size
      have cn := hb0.cell
      have H := Lib.hid (And.intro hpre (And.intro hset (And.intro hby (And.intro hb0 (And.intro hb7 (And.intro hbel hmj))))))
      clear hpre hset hby hb0 hb7 hbel hmj
      have hin := in_grown n w.heap.size (wr.alloc (.cells #[.int .i64 x.f0, .int .i64 x.f1, .int .i64 x.f2] 36)) (by rw [World.cell?_alloc_old wr _ _ (by show w.heap.size ≠ wr.heap.size; have := H.out.2.2.2.1.lt; omega)]; exact cn) (by simp; have := H.out.2.2.2.1.lt; omega)
      have e0 : ∀ (q : Nat) (os : Array Obj), (grow ((wr.alloc (.cells #[.int .i64 x.f0, .int .i64 x.f1, .int .i64 x.f2] 36)).drewN q) os).cell? ⟨wr.heap.size, 0, none⟩ = some (.int .i64 x.f0) := fun q os => by rw [cell?_grow _ _ _ (by simp)]; simp [go_sem]
      have e1 : ∀ (q : Nat) (os : Array Obj), (grow ((wr.alloc (.cells #[.int .i64 x.f0, .int .i64 x.f1, .int .i64 x.f2] 36)).drewN q) os).cell? ⟨wr.heap.size, 1, none⟩ = some (.int .i64 x.f1) := fun q os => by rw [cell?_grow _ _ _ (by simp)]; simp [go_sem]
      have e2 : ∀ (q : Nat) (os : Array Obj), (grow ((wr.alloc (.cells #[.int .i64 x.f0, .int .i64 x.f1, .int .i64 x.f2] 36)).drewN q) os).cell? ⟨wr.heap.size, 2, none⟩ = some (.int .i64 x.f2) := fun q os => by rw [cell?_grow _ _ _ (by simp)]; simp [go_sem]
      go_upto_region 11 with fail
      go_cut [93] (fun s93 wx => s93 = .bool (decide (¬ (okR n RN x ∧ prevOk (m.take j) x))) ∧ ∃ q os, wx = grow ((wr.alloc (.cells #[.int .i64 x.f0, .int .i64 x.f1, .int .i64 x.f2] 36)).drewN q) os)
      case first => as_aux_lemma =>
        by_cases g0 : x.f0 < 0
        · have v : ¬ (okR n RN x ∧ prevOk (m.take j) x) := fun h => by have := h.1.1; omega
          have V := Lib.hid v
          clear v
          as_aux_lemma =>
            refine wp_region_quiet_grown (by assumption) (by kernel_rfl) ?_
            repeat (go_big_quiet_step (fail))
            refine wpQuiet_nil ?_
            intro _ hw'
            obtain ⟨⟨nq, osq⟩, hw''⟩ := hw'
            subst hw''
            go_wp2_with fail
            go_meet
            exact ⟨by simp [V.out], nq, osq, rfl⟩
        · have g0' : (0 : Int) ≤ x.f0 := by omega
          by_cases g1 : (RN : Int) ≤ x.f0
          · have v : ¬ (okR n RN x ∧ prevOk (m.take j) x) := fun h => by have := h.1.2.1; omega
            have V := Lib.hid v
            clear v
            as_aux_lemma =>
              refine wp_region_quiet_grown (by assumption) (by kernel_rfl) ?_
              repeat (go_big_quiet_step (fail))
              refine wpQuiet_nil ?_
              intro _ hw'
              obtain ⟨⟨nq, osq⟩, hw''⟩ := hw'
              subst hw''
              go_wp2_with fail
              go_meet
              exact ⟨by simp [V.out], nq, osq, rfl⟩
          · have g1' : x.f0 < (RN : Int) := by omega
            by_cases g2 : 0 ≤ x.f1 ∧ x.f1 < n
            · by_cases g3 : 0 ≤ x.f2 ∧ x.f2 < n
              · by_cases g4 : x.f1 = x.f2
                · have v : ¬ (okR n RN x ∧ prevOk (m.take j) x) := fun h => h.1.2.2.2.2 g4
                  have V := Lib.hid v
                  have g4' : (x.f1 == x.f2) = true := by simp [g4]
                  have hin1 : ∀ q os, Calls Try.prog 49 #[.int .i64 x.f1, .pointer (some ⟨w.heap.size, 0, none⟩)] (grow ((wr.alloc (.cells #[.int .i64 x.f0, .int .i64 x.f1, .int .i64 x.f2] 36)).drewN q) os) fun e w' => e = .returned (.bool true) ∧ ∃ q' os', w' = grow ((grow ((wr.alloc (.cells #[.int .i64 x.f0, .int .i64 x.f1, .int .i64 x.f2] 36)).drewN q) os).drewN q') os' := fun q os => by have := hin x.f1 q os; rwa [show decide (0 ≤ x.f1 ∧ x.f1 < n) = true by simp; omega] at this
                  have hin2 : ∀ q os, Calls Try.prog 49 #[.int .i64 x.f2, .pointer (some ⟨w.heap.size, 0, none⟩)] (grow ((wr.alloc (.cells #[.int .i64 x.f0, .int .i64 x.f1, .int .i64 x.f2] 36)).drewN q) os) fun e w' => e = .returned (.bool true) ∧ ∃ q' os', w' = grow ((grow ((wr.alloc (.cells #[.int .i64 x.f0, .int .i64 x.f1, .int .i64 x.f2] 36)).drewN q) os).drewN q') os' := fun q os => by have := hin x.f2 q os; rwa [show decide (0 ≤ x.f2 ∧ x.f2 < n) = true by simp; omega] at this
                  clear v g4 g2 g3 hin
                  as_aux_lemma =>
                    refine wp_region_quiet_grown (by assumption) (by kernel_rfl) ?_
                    repeat (go_big_quiet_step (first | (go_at_call_of 49 (Value.int IntKind.i64 x.f1); refine Calls.grown_of (hin1 _ _)) | (go_at_call_of 49 (Value.int IntKind.i64 x.f2); refine Calls.grown_of (hin2 _ _))))
                    refine wpQuiet_nil ?_
                    intro _ hw'
                    obtain ⟨⟨nq, osq⟩, hw''⟩ := hw'
                    subst hw''
                    go_wp2_with fail
                    go_meet
                    exact ⟨by simp [V.out], nq, osq, rfl⟩
                · have g4' : (x.f1 == x.f2) = false := by simp [g4]
                  have hR1 : okR n RN x := ⟨g0', g1', g2, g3, g4⟩
                  have hin1 : ∀ q os, Calls Try.prog 49 #[.int .i64 x.f1, .pointer (some ⟨w.heap.size, 0, none⟩)] (grow ((wr.alloc (.cells #[.int .i64 x.f0, .int .i64 x.f1, .int .i64 x.f2] 36)).drewN q) os) fun e w' => e = .returned (.bool true) ∧ ∃ q' os', w' = grow ((grow ((wr.alloc (.cells #[.int .i64 x.f0, .int .i64 x.f1, .int .i64 x.f2] 36)).drewN q) os).drewN q') os' := fun q os => by have := hin x.f1 q os; rwa [show decide (0 ≤ x.f1 ∧ x.f1 < n) = true by simp; omega] at this
                  have hin2 : ∀ q os, Calls Try.prog 49 #[.int .i64 x.f2, .pointer (some ⟨w.heap.size, 0, none⟩)] (grow ((wr.alloc (.cells #[.int .i64 x.f0, .int .i64 x.f1, .int .i64 x.f2] 36)).drewN q) os) fun e w' => e = .returned (.bool true) ∧ ∃ q' os', w' = grow ((grow ((wr.alloc (.cells #[.int .i64 x.f0, .int .i64 x.f1, .int .i64 x.f2] 36)).drewN q) os).drewN q') os' := fun q os => by have := hin x.f2 q os; rwa [show decide (0 ≤ x.f2 ∧ x.f2 < n) = true by simp; omega] at this
                  clear g4 g2 g3 hin
                  have HR1 := Lib.hid hR1
                  clear hR1
                  rcases Nat.eq_zero_or_pos j with j0 | j0
                  · subst j0
                    have hp1 : prevOk [] x := by intro y hy; simp at hy
                    have HP1 := Lib.hid hp1
                    clear hp1
                    as_aux_lemma =>
                      refine wp_region_quiet_grown (by assumption) (by kernel_rfl) ?_
                      repeat (go_big_quiet_step (first | (go_at_call_of 49 (Value.int IntKind.i64 x.f1); refine Calls.grown_of (hin1 _ _)) | (go_at_call_of 49 (Value.int IntKind.i64 x.f2); refine Calls.grown_of (hin2 _ _))))
                      refine wpQuiet_nil ?_
                      intro _ hw'
                      obtain ⟨⟨nq, osq⟩, hw''⟩ := hw'
                      subst hw''
                      go_wp2_with fail
                      go_meet
                      exact ⟨by simp [HR1.out, HP1.out], nq, osq, rfl⟩
                  · obtain ⟨i, rfl⟩ : ∃ i, j = i + 1 := ⟨j - 1, by omega⟩
                    obtain ⟨ad', e, p0, p1, p2⟩ := at_T36 (Kd.C_below F.out.2.2.2.2.1 H.out.2.2.2.2.2.1) i (by omega) (by omega)
                    simp only [Int.toNat_natCast] at p0 p1 p2
                    cases e
                    have hmi := rd_get m (show i < m.length by omega)
                    generalize rd_T36 m i = y at p0 p1 p2 hmi
                    have hlast : (m.take (i + 1)).getLast? = some y := by rw [List.take_succ_eq_append_getElem (by omega), List.getLast?_concat, hmi]
                    have hpo : prevOk (m.take (i + 1)) x ↔ ordI y.f0 y.f1 x.f0 x.f1 < 0 := by
                      constructor
                      · intro h
                        exact h y hlast
                      · intro h z hz
                        rw [hlast] at hz
                        cases hz
                        exact h
                    have hlo : ∀ (q : Nat) (os : Array Obj) (a : Addr), a.block < w.heap.size → (grow ((wr.alloc (.cells #[.int .i64 x.f0, .int .i64 x.f1, .int .i64 x.f2] 36)).drewN q) os).cell? a = wr.cell? a := fun q os a ha => by
                      rw [cell?_grow _ _ _ (by simp; omega)]
                      exact World.cell?_alloc_old wr _ a (by omega)
                    have k0 : ∀ (q : Nat) (os : Array Obj), (grow ((wr.alloc (.cells #[.int .i64 x.f0, .int .i64 x.f1, .int .i64 x.f2] 36)).drewN q) os).cell? (ad.add (i * 3)) = some (.int .i64 y.f0) := fun q os => (hlo q os _ (by rw [add_block]; exact hadb)).trans p0
                    have k1 : ∀ (q : Nat) (os : Array Obj), (grow ((wr.alloc (.cells #[.int .i64 x.f0, .int .i64 x.f1, .int .i64 x.f2] 36)).drewN q) os).cell? ⟨(ad.add (i * 3)).block, (ad.add (i * 3)).off + 1, none⟩ = some (.int .i64 y.f1) := fun q os => (hlo q os _ (by rw [add_block]; exact hadb)).trans p1
                    have k2 : ∀ (q : Nat) (os : Array Obj), (grow ((wr.alloc (.cells #[.int .i64 x.f0, .int .i64 x.f1, .int .i64 x.f2] 36)).drewN q) os).cell? ⟨(ad.add (i * 3)).block, (ad.add (i * 3)).off + 2, none⟩ = some (.int .i64 y.f2) := fun q os => (hlo q os _ (by rw [add_block]; exact hadb)).trans p2
                    have hord := fun (q : Nat) (os : Array Obj) => order_calls y.f0 y.f1 y.f2 x.f0 x.f1 x.f2 (grow ((wr.alloc (.cells #[.int .i64 x.f0, .int .i64 x.f1, .int .i64 x.f2] 36)).drewN q) os)
                    generalize ordI y.f0 y.f1 x.f0 x.f1 = o at hpo hord
                    have HPO := Lib.hid hpo
                    clear hpo hlast hmi hlo p0 p1 p2
                    by_cases g5 : 0 ≤ o
                    · have v : ¬ prevOk (m.take (i + 1)) x := fun h => by have := HPO.out.1 h; omega
                      have V := Lib.hid v
                      clear v
                      as_aux_lemma =>
                        refine wp_region_quiet_grown (by assumption) (by kernel_rfl) ?_
                        repeat (go_big_quiet_step (first | (go_at_call_of 49 (Value.int IntKind.i64 x.f1); refine Calls.grown_of (hin1 _ _)) | (go_at_call_of 49 (Value.int IntKind.i64 x.f2); refine Calls.grown_of (hin2 _ _)) | (go_at_call 50; refine Calls.grown_of (hord _ _))))
                        refine wpQuiet_nil ?_
                        intro _ hw'
                        obtain ⟨⟨nq, osq⟩, hw''⟩ := hw'
                        subst hw''
                        go_wp2_with fail
                        go_meet
                        exact ⟨by simp [V.out], nq, osq, rfl⟩
                    · have g5' : o < 0 := by omega
                      have v : prevOk (m.take (i + 1)) x := HPO.out.2 g5'
                      have V := Lib.hid v
                      clear v
                      as_aux_lemma =>
                        refine wp_region_quiet_grown (by assumption) (by kernel_rfl) ?_
                        repeat (go_big_quiet_step (first | (go_at_call_of 49 (Value.int IntKind.i64 x.f1); refine Calls.grown_of (hin1 _ _)) | (go_at_call_of 49 (Value.int IntKind.i64 x.f2); refine Calls.grown_of (hin2 _ _)) | (go_at_call 50; refine Calls.grown_of (hord _ _))))
                        refine wpQuiet_nil ?_
                        intro _ hw'
                        obtain ⟨⟨nq, osq⟩, hw''⟩ := hw'
                        subst hw''
                        go_wp2_with fail
                        go_meet
                        exact ⟨by simp [V.out, HR1.out], nq, osq, rfl⟩
              · have v : ¬ (okR n RN x ∧ prevOk (m.take j) x) := fun h => g3 h.1.2.2.2.1
                have V := Lib.hid v
                have hin1 : ∀ q os, Calls Try.prog 49 #[.int .i64 x.f1, .pointer (some ⟨w.heap.size, 0, none⟩)] (grow ((wr.alloc (.cells #[.int .i64 x.f0, .int .i64 x.f1, .int .i64 x.f2] 36)).drewN q) os) fun e w' => e = .returned (.bool true) ∧ ∃ q' os', w' = grow ((grow ((wr.alloc (.cells #[.int .i64 x.f0, .int .i64 x.f1, .int .i64 x.f2] 36)).drewN q) os).drewN q') os' := fun q os => by have := hin x.f1 q os; rwa [show decide (0 ≤ x.f1 ∧ x.f1 < n) = true by simp; omega] at this
                have hin2 : ∀ q os, Calls Try.prog 49 #[.int .i64 x.f2, .pointer (some ⟨w.heap.size, 0, none⟩)] (grow ((wr.alloc (.cells #[.int .i64 x.f0, .int .i64 x.f1, .int .i64 x.f2] 36)).drewN q) os) fun e w' => e = .returned (.bool false) ∧ ∃ q' os', w' = grow ((grow ((wr.alloc (.cells #[.int .i64 x.f0, .int .i64 x.f1, .int .i64 x.f2] 36)).drewN q) os).drewN q') os' := fun q os => by have := hin x.f2 q os; rwa [show decide (0 ≤ x.f2 ∧ x.f2 < n) = false by simp; omega] at this
                clear v g2 g3 hin
                as_aux_lemma =>
                  refine wp_region_quiet_grown (by assumption) (by kernel_rfl) ?_
                  repeat (go_big_quiet_step (first | (go_at_call_of 49 (Value.int IntKind.i64 x.f1); refine Calls.grown_of (hin1 _ _)) | (go_at_call_of 49 (Value.int IntKind.i64 x.f2); refine Calls.grown_of (hin2 _ _))))
                  refine wpQuiet_nil ?_
                  intro _ hw'
                  obtain ⟨⟨nq, osq⟩, hw''⟩ := hw'
                  subst hw''
                  go_wp2_with fail
                  go_meet
                  exact ⟨by simp [V.out], nq, osq, rfl⟩
            · have v : ¬ (okR n RN x ∧ prevOk (m.take j) x) := fun h => g2 h.1.2.2.1
              have V := Lib.hid v
              have hin1 : ∀ q os, Calls Try.prog 49 #[.int .i64 x.f1, .pointer (some ⟨w.heap.size, 0, none⟩)] (grow ((wr.alloc (.cells #[.int .i64 x.f0, .int .i64 x.f1, .int .i64 x.f2] 36)).drewN q) os) fun e w' => e = .returned (.bool false) ∧ ∃ q' os', w' = grow ((grow ((wr.alloc (.cells #[.int .i64 x.f0, .int .i64 x.f1, .int .i64 x.f2] 36)).drewN q) os).drewN q') os' := fun q os => by have := hin x.f1 q os; rwa [show decide (0 ≤ x.f1 ∧ x.f1 < n) = false by simp; omega] at this
              clear v g2 hin
              as_aux_lemma =>
                refine wp_region_quiet_grown (by assumption) (by kernel_rfl) ?_
                repeat (go_big_quiet_step (first | (go_at_call_of 49 (Value.int IntKind.i64 x.f1); refine Calls.grown_of (hin1 _ _))))
                refine wpQuiet_nil ?_
                intro _ hw'
                obtain ⟨⟨nq, osq⟩, hw''⟩ := hw'
                subst hw''
                go_wp2_with fail
                go_meet
                exact ⟨by simp [V.out], nq, osq, rfl⟩
      case rest => as_aux_lemma =>
        clear hin e0 e1 e2 d0 d1 d2 cn
        obtain ⟨rfl, q, os, rfl⟩ := hcut
        have hXb : Below wr.heap.size wr (grow ((wr.alloc (.cells #[.int .i64 x.f0, .int .i64 x.f1, .int .i64 x.f2] 36)).drewN q) os) := below_grow (pw_below_drewN ((Below.refl _ wr).alloc (Nat.le_refl _) _) q) os
        have h15 : (grow ((wr.alloc (.cells #[.int .i64 x.f0, .int .i64 x.f1, .int .i64 x.f2] 36)).drewN q) os).heap[wr.heap.size]? = some (.cells #[.int .i64 x.f0, .int .i64 x.f1, .int .i64 x.f2] 36 (0, 0)) := by
          rw [heap_grow_old _ _ (by simp)]
          exact World.alloc_heap_new wr _
        generalize grow ((wr.alloc (.cells #[.int .i64 x.f0, .int .i64 x.f1, .int .i64 x.f2] 36)).drewN q) os = W1 at hXb h15 ⊢
        by_cases hv : okR n RN x ∧ prevOk (m.take j) x
        · have hd : decide (¬ (okR n RN x ∧ prevOk (m.take j) x)) = false := by simp [hv]
          rw [hd]
          obtain ⟨⟨r0, r1, ⟨r2, r3⟩, ⟨r4, r5⟩, r6⟩, hpv⟩ := hv
          have HV := Lib.hid (And.intro hpv (And.intro hXb h15))
          have k0 : W1.cell? ⟨wr.heap.size, 0, none⟩ = some (.int .i64 x.f0) := by simp [World.cell?, h15]
          have k1 : W1.cell? ⟨wr.heap.size, 1, none⟩ = some (.int .i64 x.f1) := by simp [World.cell?, h15]
          have k2 : W1.cell? ⟨wr.heap.size, 2, none⟩ = some (.int .i64 x.f2) := by simp [World.cell?, h15]
          have hlt1 : wr.heap.size < W1.heap.size := (Array.getElem?_eq_some_iff.1 h15).1
          have R6 := Lib.hid r6
          clear hd hpv hXb h15 r6
          go_upto_region 13 with fail
          go_cut [16, 17] (fun s16 s17 wy => ∃ (g h : Nat) (wx : World), wx = wy ∧ s16 = .pointer (some ⟨g, 0, none⟩) ∧ s17 = .pointer (some ⟨h, 0, none⟩) ∧ wx.heap[g]? = some (.cells #[.int .i64 x.f0, .int .i64 x.f1] 83 (0, 0)) ∧ wx.heap[h]? = some (.cells #[.int .i64 x.f0, .int .i64 x.f2] 83 (0, 0)) ∧ Below W1.heap.size W1 wx)
          case first => as_aux_lemma =>
            go_region
            all_goals (
              go_wp2_with fail
              go_meet
              first
                | exact ⟨_, _, _, rfl, rfl, rfl, (two_new W1 _ _).1, (two_new W1 _ _).2.1, (two_new W1 _ _).2.2⟩
                | exact ⟨_, _, _, rfl, rfl, rfl, (two_new W1 _ _).2.1, (two_new W1 _ _).1, (two_new W1 _ _).2.2⟩)
          case rest => as_aux_lemma =>
            obtain ⟨g, h, wx, rfl, rfl, rfl, hg, hh, hb2⟩ := hcut
            have l0 : wx.cell? ⟨g, 0, none⟩ = some (.int .i64 x.f0) := by simp [World.cell?, hg]
            have l1 : wx.cell? ⟨g, 1, none⟩ = some (.int .i64 x.f1) := by simp [World.cell?, hg]
            have l2 : wx.cell? ⟨h, 0, none⟩ = some (.int .i64 x.f0) := by simp [World.cell?, hh]
            have l3 : wx.cell? ⟨h, 1, none⟩ = some (.int .i64 x.f2) := by simp [World.cell?, hh]
            have hbx : Below wr.heap.size wr wx := HV.out.2.1.trans (hb2.mono (Nat.le_of_lt hlt1))
            have hsx : SetAt wx w4.heap.size (busyL (m.take j)) := H.out.2.1.kept (grown_of_below hbx none) (by simp)
            have hn20 : n ≤ 20 := F.out.2.2.2.2.2.2.1
            have fa : Fine (x.f0, x.f1) := ⟨⟨by show _ ≤ x.f0; omega, by show x.f0 ≤ _; omega⟩, ⟨by show _ ≤ x.f1; omega, by show x.f1 ≤ _; omega⟩⟩
            have fb : Fine (x.f0, x.f2) := ⟨⟨by show _ ≤ x.f0; omega, by show x.f0 ≤ _; omega⟩, ⟨by show _ ≤ x.f2; omega, by show x.f2 ≤ _; omega⟩⟩
            have u1 := set_lookup hsx (x.f0, x.f1) fa
            have u2 := set_lookup hsx (x.f0, x.f2) fb
            simp only at u1 u2
            have hx15 : wx.heap[wr.heap.size]? = some (.cells #[.int .i64 x.f0, .int .i64 x.f1, .int .i64 x.f2] 36 (0, 0)) := (hb2.block _ hlt1).trans HV.out.2.2
            have J := Lib.hid (And.intro hbx (And.intro hsx (And.intro fa (And.intro fb (And.intro hg (And.intro hh hx15))))))
            clear hbx hsx fa fb hg hh hx15 hb2 k0 k1 k2
            by_cases p1 : (x.f0, x.f1) ∈ busyL (m.take j)
            · rw [decide_eq_true p1] at u1
              have v : ¬ okPre n RN m m.length := fun h => (h j hlt hlt).2.2.1 (by rw [← H.out.2.2.2.2.2.2]; exact p1)
              have V := Lib.hid v
              clear v p1 u2
              go_wp2_with fail
              exact bodyPost_ret (v := .int .i64 200) (by simp [results, Try.results16, go_sem]) rfl ⟨by rw [check_bad F.out.2.2.2.2.2 F.out.2.2.2.1 V.out], H.out.2.2.2.2.2.1.trans (J.out.1.mono hszw)⟩
            · by_cases p2 : (x.f0, x.f2) ∈ busyL (m.take j)
              · rw [decide_eq_false p1] at u1
                rw [decide_eq_true p2] at u2
                have v : ¬ okPre n RN m m.length := fun h => (h j hlt hlt).2.2.2 (by rw [← H.out.2.2.2.2.2.2]; exact p2)
                have V := Lib.hid v
                clear v p1 p2
                go_wp2_with fail
                exact bodyPost_ret (v := .int .i64 200) (by simp [results, Try.results16, go_sem]) rfl ⟨by rw [check_bad F.out.2.2.2.2.2 F.out.2.2.2.1 V.out], H.out.2.2.2.2.2.1.trans (J.out.1.mono hszw)⟩
              · rw [decide_eq_false p1] at u1
                rw [decide_eq_false p2] at u2
                have P12 := Lib.hid (And.intro p1 p2)
                clear p1 p2
                go_wp2_with fail
                have hkl : (busyL (m.take j)).length < 1000000 := by rw [busyL_len, List.length_take]; omega
                obtain ⟨Wa, ra, sa, ga⟩ := set_update (W := wx.drew) J.out.2.1 hkl (x.f0, x.f1) J.out.2.2.1 P12.out.1
                obtain ⟨Wb, rb, sb, gb⟩ := set_update sa (by rw [List.length_append]; simp; rw [busyL_len, List.length_take]; omega) (x.f0, x.f2) J.out.2.2.2.1 (by
                  intro hin
                  rcases List.mem_append.1 hin with h1 | h1
                  · exact P12.out.2 h1
                  · simp at h1
                    exact R6.out h1.symm)
                have hne : ∀ b c t fr, wx.heap[b]? = some (.cells c t fr) → b ≠ w4.heap.size := fun b c t fr hb e => J.out.2.1.not_cells c t fr (by rw [← e]; exact hb)
                have hh2 : Wa.heap[h]? = some (.cells #[.int .i64 x.f0, .int .i64 x.f2] 83 (0, 0)) := (ga.block h (Array.getElem?_eq_some_iff.1 J.out.2.2.2.2.2.1).1 (fun e => hne _ _ _ _ J.out.2.2.2.2.2.1 (by cases e; rfl))).trans J.out.2.2.2.2.2.1
                have m2 : Wa.cell? ⟨h, 0, none⟩ = some (.int .i64 x.f0) := by simp [World.cell?, hh2]
                have m3 : Wa.cell? ⟨h, 1, none⟩ = some (.int .i64 x.f2) := by simp [World.cell?, hh2]
                have hgb : wx.drew.grownBy Wb (some w4.heap.size) := ga.trans gb
                have N := Lib.hid (And.intro sb (And.intro hgb hne))
                simp only at ra rb
                clear hh2 sa ga sb gb hgb hne u1 u2
                go_upto_region 16 with fail
                go_cut [] (fun wy => Wb = wy)
                case first => as_aux_lemma =>
                  go_region
                  all_goals (
                    go_wp2_with fail
                    go_meet
                    exact rfl)
                case rest => as_aux_lemma =>
                  subst hcut
                  clear ra rb m2 m3 l0 l1 l2 l3
                  have hbw : Below w.heap.size w wx := H.out.2.2.2.2.2.1.trans (J.out.1.mono hszw)
                  have hbb : Below w.heap.size w Wb := hbw.drew.grown N.out.2.1 (by have := hbw.size; simpa using this) (fun j e => by cases e; omega)
                  have hnn : ∀ c t fr, wx.drew.heap[w4.heap.size]? ≠ some (.cells c t fr) := J.out.2.1.not_cells
                  have hbyx : ByAt w.heap.size wx.drew w3.heap.size vs (byL RN (m.take j)) := H.out.2.2.1.grown (grown_of_below J.out.1.drew none)
                  have hbyb := hbyx.other N.out.2.1 hnn
                  have keepB : ∀ (b : Nat) (c : Array Value) (t : TypeId), wx.heap[b]? = some (.cells c t (0, 0)) → Wb.heap[b]? = some (.cells c t (0, 0)) := fun b c t hb => (N.out.2.1.block b (Array.getElem?_eq_some_iff.1 hb).1 (fun e => N.out.2.2 _ _ _ _ hb (by cases e; rfl))).trans hb
                  have h15 := keepB _ _ _ J.out.2.2.2.2.2.2
                  have b3 := keepB _ _ _ ((J.out.1.block _ H.out.2.2.2.1.lt).trans H.out.2.2.2.1)
                  have b7 := keepB _ _ _ ((J.out.1.block _ (Array.getElem?_eq_some_iff.1 H.out.2.2.2.2.1).1).trans H.out.2.2.2.2.1)
                  obtain ⟨A', c', hvs, hcB, hfB, hkB, hoB⟩ := hbyb.at (byL_get (pre := m.take j) r0 r1)
                  have hll : (ofR (m.take j) x.f0).length ≤ 100000 := by
                    have h1 : (ofR (m.take j) x.f0).length ≤ (m.take j).length := List.length_filter_le _ _
                    rw [List.length_take] at h1
                    omega
                  obtain ⟨l, hl⟩ : ∃ l, ofR (m.take j) x.f0 = l := ⟨_, rfl⟩
                  have hlg := byL_get (pre := m.take j) r0 r1
                  have hsn := byL_snoc (pre := m.take j) r0 r1
                  rw [hl] at hvs hcB hkB hoB hll hlg hsn
                  clear hl
                  have k0 : Wb.cell? ⟨wr.heap.size, 0, none⟩ = some (.int .i64 x.f0) := by simp [World.cell?, h15]
                  have k1 : Wb.cell? ⟨wr.heap.size, 1, none⟩ = some (.int .i64 x.f1) := by simp [World.cell?, h15]
                  have k2 : Wb.cell? ⟨wr.heap.size, 2, none⟩ = some (.int .i64 x.f2) := by simp [World.cell?, h15]
                  have hBb : w3.heap.size < Wb.heap.size := (Array.getElem?_eq_some_iff.1 hbyb.1).1
                  have h15l : wr.heap.size < Wb.heap.size := (Array.getElem?_eq_some_iff.1 h15).1
                  have n15 : some wr.heap.size ≠ (Value.slice A' l.length c').ownBlock := fun e => by
                    have hoW : wr.ownsRow w.heap.size 36 3 (.slice A' l.length c') l.length (flatM l) := H.out.2.2.1.2.2.1 _ _ _ hvs hlg
                    have := row_lt hoW _ e.symm
                    omega
                  have nB : some w3.heap.size ≠ (Value.slice A' l.length c').ownBlock := fun e => by
                    rcases hoB.2 with ⟨h, _⟩ | ⟨g', cap', cur, h, _, h3, _⟩
                    · rw [congrArg Value.ownBlock h] at e; simp [Value.ownBlock] at e
                    · rw [congrArg Value.ownBlock h] at e
                      simp [Value.ownBlock] at e
                      have hbb1 := hbyb.1
                      rw [← e] at h3
                      rw [h3] at hbb1
                      cases hbb1
                  have hwb : w.heap.size ≤ Wb.heap.size := hbb.size
                  have d15 : wr.heap.size ≠ w3.heap.size := fun e => by
                    have := (Array.getElem?_eq_some_iff.1 H.out.2.2.1.1).1
                    omega
                  have d15' : ¬ w3.heap.size = wr.heap.size := fun e => d15 e.symm
                  have X := Lib.hid (And.intro hbb (And.intro hbyb (And.intro keepB (And.intro h15 (And.intro b3 (And.intro b7 (And.intro hvs (And.intro hkB (And.intro hlg hsn)))))))))
                  have HO := Lib.hid hoB
                  have OK : Hid (okAt n RN (m.take j) x) := Lib.hid ⟨⟨r0, r1, ⟨r2, r3⟩, ⟨r4, r5⟩, R6.out⟩, HV.out.1, P12.out⟩
                  clear hbw hbb hnn hbyx hbyb keepB h15 b3 b7 hvs hkB hlg hsn hoB
                  obtain ⟨i1, hi1, hy0, hy1, hy2⟩ := info_parts info36
                  go_wp2_with fail
                  go_region_law
                    ((refine step_append_lies _ (by rfl) _ _ _ (by rfl) w.heap.size 36 i1 (.agg #[.int .i64 0, .int .i64 0, .int .i64 0]) 3 24 Try.underlying22 hi1 hy0 hy1 hy2 rfl (by decide) (.slice A' l.length c') l.length (flatM l) (by rfl) ((HO.out.drew).alloc _)
                        ⟨Wb.heap.size, 0, none⟩ 1 1 (mcells x) (by rfl) (by rfl) (news_cells _ (mcells x) 36 (by simp)) (mcells_one x) (by decide) (by unfold maxLen; omega) (by omega) (by simp; omega) (Wb.heap.size + 1) (by simp) ?_
                      intro gg cc w1 hown1 hgrow hat hlt1
                      have hm9 : Below Wb.heap.size Wb (Wb.drew.alloc (.cells (mcells x).toArray 36)) := (Below.refl _ Wb).drew.alloc (Nat.le_refl _) _
                      obtain ⟨y1, y2, y3⟩ := by_step (x := x) X.out.2.1 hwb (by omega) X.out.2.2.2.2.2.2.1 X.out.2.2.2.2.2.2.2.2.1 hm9 hown1 hgrow (hat.elim (fun h => .inl h.symm) (fun h => .inr (by rw [h]; simp [Value.ownBlock])))
                      have z0 : w1.cell? ⟨wr.heap.size, 0, none⟩ = some (.int .i64 x.f0) := (hgrow.cell_far ⟨wr.heap.size, 0, none⟩ (Nat.lt_of_lt_of_le h15l (by simp)) n15).trans ((World.cell?_alloc_old Wb.drew _ _ (Nat.ne_of_lt h15l)).trans k0)
                      have z1 : w1.cell? ⟨wr.heap.size, 1, none⟩ = some (.int .i64 x.f1) := (hgrow.cell_far ⟨wr.heap.size, 1, none⟩ (Nat.lt_of_lt_of_le h15l (by simp)) n15).trans ((World.cell?_alloc_old Wb.drew _ _ (Nat.ne_of_lt h15l)).trans k1)
                      have z2 : w1.cell? ⟨wr.heap.size, 2, none⟩ = some (.int .i64 x.f2) := (hgrow.cell_far ⟨wr.heap.size, 2, none⟩ (Nat.lt_of_lt_of_le h15l (by simp)) n15).trans ((World.cell?_alloc_old Wb.drew _ _ (Nat.ne_of_lt h15l)).trans k2)
                      have Y3 := Lib.hid y3
                      clear y3 hm9))
                  all_goals (
                    go_wp2_with fail
                    refine ⟨⟨j + 1, by omega, by simp, _, ck_round hlt H.out.2.2.2.2.2.2 H.out.1 OK.out N.out.1 X.out.2.2.2.2.2.2.2.2.2 X.out.2.2.2.2.1 X.out.2.2.2.2.2.1 X.out.1 (by omega) Y3.out.1 Y3.out.2.1 Y3.out.2.2.1 Y3.out.2.2.2⟩, ?_⟩
                    simp only [intOf]
                    omega)
        · have hd : decide (¬ (okR n RN x ∧ prevOk (m.take j) x)) = true := by simp [hv]
          rw [hd]
          have v : ¬ okPre n RN m m.length := fun h => hv (by have := h j hlt hlt; rw [H.out.2.2.2.2.2.2]; exact ⟨this.1, this.2.1⟩)
          have V := Lib.hid v
          have HX := Lib.hid hXb
          clear hd hv v h15 hXb
          go_wp2_with fail
          exact bodyPost_ret (v := .int .i64 200) (by simp [results, Try.results16, go_sem]) rfl ⟨by rw [check_bad F.out.2.2.2.2.2 F.out.2.2.2.1 V.out], H.out.2.2.2.2.2.1.trans (HX.out.mono hszw)⟩
    · obtain rfl : j = m.length := by omega
      obtain ⟨wo, hwo⟩ : ∃ wo, wo = wr := ⟨_, rfl⟩
      subst hwo
      have hb7l := (Array.getElem?_eq_some_iff.1 hrel1.2.2.2.2.1).1
      have k7 : wo.cell? ⟨w.heap.size + 2, 1, none⟩ = some (.int .i64 R) := by simp [World.cell?, hrel1.2.2.2.2.1]
      have hszw := hrel1.2.2.2.2.2.size
      have gm : wo.grownBy (wo.alloc (.map #[] 0)) none := World.grownBy_alloc _ _ _
      have hset := set_new wo
      have hby := hrel1.2.2.1.grown gm
      rw [List.take_length] at hby
      have hb0 := boxed_grown hrel1.2.2.2.1 gm (fun _ e => by cases e)
      have hb7 := cells_kept hrel1.2.2.2.2.1 gm (fun _ e => by cases e)
      have hbel := hrel1.2.2.2.2.2.alloc hszw (.map #[] 0)
      have H := Lib.hid (And.intro hrel1.1 (And.intro hset (And.intro hby (And.intro hb0 (And.intro hb7 hbel)))))
      have HO1 := Lib.hid hrel1.1
      clear hrel1 hset hby hb0 hb7 hbel gm
      go_wp2_with fail
      generalize hW8 : wo.alloc (.map #[] 0) = W8 at H
      clear hW8
      go_loopw [132] (fun i wz => ∃ r : Nat, (r : Int) ≤ R ∧ i = .int .i64 r ∧ CkM n k R RN m w w3.heap.size wo.heap.size vs r wz)
        (fun i _ => (R - intOf i).toNat)
      case atStart => exact ⟨0, by omega, rfl, List.nodup_nil, fun _ h => absurd h (Nat.not_lt_zero _), H.out.2.1, H.out.2.2.1, H.out.2.2.2.1, H.out.2.2.2.2.1, H.out.2.2.2.2.2⟩
      case round => as_aux_lemma =>
        clear H
        obtain ⟨r, hr, rfl, hnd, htw, hset, hby, hb0, hb7, hbel⟩ := hrel
        by_cases hlr : (r : Int) < R
        · have hok := F.out.2.2.2.2.2
          obtain ⟨g1, g2, g3⟩ := pair_range hok (show (0 : Int) ≤ r by omega) (by rw [F.out.2.2.1]; exact hlr)
          rw [F.out.2.2.2.1] at g2 g3
          have hpc := pair_calls n k r wr (by omega) (by omega) hok.1 hok.2.1
          rw [F.out.2.2.1] at hpc
          have hms := metL_succ n k m r
          obtain ⟨pa, hpa⟩ : ∃ pa, (pairF n k r).1 = pa := ⟨_, rfl⟩
          obtain ⟨pb, hpb⟩ : ∃ pb, (pairF n k r).2 = pb := ⟨_, rfl⟩
          have htr : twin n k m r ↔ (0 ≤ pb → (ofR m pb).Perm ((ofR m pa).map (turnM pb))) := by unfold twin; rw [hpa, hpb]
          rw [hpa, hpb] at hpc
          rw [hpa] at hms g1 g2
          rw [hpb] at g3
          have c0 : wr.cell? ⟨w.heap.size + 2, 0, none⟩ = some (.int .i64 n) := by simp [World.cell?, hb7]
          have c1 : wr.cell? ⟨w.heap.size + 2, 1, none⟩ = some (.int .i64 R) := by simp [World.cell?, hb7]
          have P := Lib.hid (And.intro hpc (And.intro hms htr))
          have H := Lib.hid (And.intro hnd (And.intro htw (And.intro hset (And.intro hby (And.intro hb0 (And.intro hb7 hbel))))))
          clear hpc hms htr hnd htw hset hby hb0 hb7 hbel hpa hpb hok
          go_wp2_with fail
          refine P.out.1.mono ?_
          rintro e W2 ⟨rfl, q, rfl⟩
          have hB2 : Below wr.heap.size wr ((wr.alloc (.cells #[.int .i64 n, .int .i64 R] 92)).drewN q) := pw_below_drewN ((Below.refl _ wr).alloc (Nat.le_refl _) _) q
          generalize (wr.alloc (.cells #[.int .i64 n, .int .i64 R] 92)).drewN q = W2 at hB2 ⊢
          have gW := grown_of_below hB2 none
          have hset2 := H.out.2.2.1.kept gW (by simp)
          have hby2 := H.out.2.2.2.1.grown gW
          have hb02 := boxed_grown H.out.2.2.2.2.1 gW (fun _ e => by cases e)
          have hb72 := cells_kept H.out.2.2.2.2.2.1 gW (fun _ e => by cases e)
          have hbel2 := H.out.2.2.2.2.2.2.trans (hB2.mono H.out.2.2.2.2.2.2.size)
          obtain ⟨A', c', hvs, hcB, hfB, hkB, hoB⟩ := hby2.at (byL_get (pre := m) g1 g2)
          have hll : (ofR m pa).length ≤ 1000 := Nat.le_trans (List.length_filter_le _ _) hm
          obtain ⟨l, hl⟩ : ∃ l, ofR m pa = l := ⟨_, rfl⟩
          have hlok := ofR_ok HO1.out pa
          rw [hl] at hvs hcB hkB hoB hll hlok
          have HL := Lib.hid hl
          have H2 := Lib.hid (And.intro hset2 (And.intro hby2 (And.intro hb02 (And.intro hb72 (And.intro hbel2 (And.intro hvs (And.intro hkB (And.intro hoB hlok))))))))
          clear hset2 hby2 hb02 hb72 hbel2 hvs hkB hoB hlok hl gW hB2 c0 c1
          go_wp2_with fail
          go_loopw [147] (fun i wy => ∃ t : Nat, t ≤ l.length ∧ i = .int .i64 t ∧ (metL n k m r ++ (l.take t).map keyM).Nodup ∧ SetAt wy wo.heap.size (metL n k m r ++ (l.take t).map keyM) ∧ Ck3 n R RN m w w3.heap.size vs wy)
            (fun i _ => l.length - (intOf i).toNat)
          case atStart => exact ⟨0, Nat.zero_le _, rfl, by simpa using H.out.1, by simpa using H2.out.1, H2.out.2.1, H2.out.2.2.1, H2.out.2.2.2.1, H2.out.2.2.2.2.1⟩
          case round => as_aux_lemma =>
            obtain ⟨t, ht, rfl, hnd3, hset3, hc3⟩ := hrel
            by_cases htl : t < l.length
            · obtain ⟨ad, e, d0, d1, d2⟩ := at_T36 (Ck3.row hc3 H2.out.2.2.2.2.2.1 (byL_get (pre := m) g1 g2) HL.out) t (by omega) (by omega)
              simp only [Int.toNat_natCast] at d0 d1 d2
              subst e
              have hmt := rd_get l htl
              have hxo := H2.out.2.2.2.2.2.2.2.2 _ (List.getElem_mem htl)
              rw [← hmt] at hxo
              have hsn := take_map_snocK l htl
              generalize rd_T36 l t = x at d0 d1 d2 hmt hsn hxo
              obtain ⟨⟨_, _, ⟨x1, x2⟩, ⟨x3, x4⟩, _⟩, _⟩ := hxo
              have T := Lib.hid (And.intro hnd3 (And.intro hset3 (And.intro hc3 (And.intro hmt hsn))))
              clear hnd3 hset3 hc3 hmt hsn
              go_upto_region 28 with fail
              obtain ⟨W9, hW9⟩ : ∃ W9, (wr.alloc (.cells #[.int .i64 pa, .int .i64 x.f1, .int .i64 x.f2] 36)).alloc (.cells #[.int .i64 (min x.f1 x.f2), .int .i64 (max x.f1 x.f2)] 83) = W9 := ⟨_, rfl⟩
              have hb9 : Below wr.heap.size wr W9 := by
                rw [← hW9]
                exact ((Below.refl _ wr).alloc (Nat.le_refl _) _).alloc (by simp) _
              have h9 : W9.heap[wr.heap.size + 1]? = some (.cells #[.int .i64 (min x.f1 x.f2), .int .i64 (max x.f1 x.f2)] 83 (0, 0)) := by
                rw [← hW9]
                exact (two_new wr _ _).2.1
              rw [hW9]
              clear hW9
              have k0 : W9.cell? ⟨wr.heap.size + 1, 0, none⟩ = some (.int .i64 (min x.f1 x.f2)) := by simp [World.cell?, h9]
              have k1 : W9.cell? ⟨wr.heap.size + 1, 1, none⟩ = some (.int .i64 (max x.f1 x.f2)) := by simp [World.cell?, h9]
              have hn20 : n ≤ 20 := F.out.2.2.2.2.2.2.1
              have fm : Fine (min x.f1 x.f2, max x.f1 x.f2) := ⟨⟨by show _ ≤ min x.f1 x.f2; omega, by show min x.f1 x.f2 ≤ _; omega⟩, ⟨by show _ ≤ max x.f1 x.f2; omega, by show max x.f1 x.f2 ≤ _; omega⟩⟩
              have hset9 := T.out.2.1.kept (grown_of_below hb9 none) (by simp)
              have hc9 := T.out.2.2.1.grown hb9
              have u1 := set_lookup hset9 (min x.f1 x.f2, max x.f1 x.f2) fm
              simp only at u1
              by_cases p1 : (min x.f1 x.f2, max x.f1 x.f2) ∈ metL n k m r ++ (l.take t).map keyM
              · rw [decide_eq_true p1] at u1
                have v : checkF n k m = 200 := check_dup (l1 := metL n k m r ++ (l.take (t + 1)).map keyM) (l2 := (l.drop (t + 1)).map keyM) F.out.2.2.2.2.2 (by rw [F.out.2.2.1]; exact hlr) (by rw [P.out.2.1, HL.out, List.append_assoc, ← List.map_append, List.take_append_drop]) (fun hnn => by
                  rw [T.out.2.2.2.2, ← List.append_assoc] at hnn
                  exact (List.nodup_append.1 hnn).2.2 _ p1 _ (List.mem_singleton.2 rfl) rfl)
                have V := Lib.hid v
                have HX := Lib.hid hc9
                clear v p1 hset9 hc9 hb9 h9
                go_wp2_with fail
                exact bodyPost_ret (v := .int .i64 200) (by simp [results, Try.results16, go_sem]) rfl ⟨by rw [V.out], HX.out.2.2.2⟩
              · rw [decide_eq_false p1] at u1
                have hkl : (metL n k m r ++ (l.take t).map keyM).length < 1000000 := by
                  rw [List.length_append, List.length_map, List.length_take]
                  have h1 := metL_len n k m r
                  have h2 : r * m.length ≤ 19 * 1000 := Nat.mul_le_mul (by omega) hm
                  omega
                obtain ⟨Wa, ra, sa, ga⟩ := set_update hset9 hkl (min x.f1 x.f2, max x.f1 x.f2) fm p1
                simp only at ra
                have hca := hc9.other ga hset9.not_cells (by have := hszw; omega)
                have N := Lib.hid (And.intro p1 (And.intro sa hca))
                clear p1 sa ga hca hset9 hc9 hb9 h9
                go_wp2_with fail
                refine ⟨⟨t + 1, by omega, by simp, ?_, ?_, N.out.2.2⟩, ?_⟩
                · rw [T.out.2.2.2.2, ← List.append_assoc]
                  refine List.nodup_append.2 ⟨T.out.1, by simp, ?_⟩
                  intro a ha b hb e
                  rw [List.mem_singleton.1 hb] at e
                  rw [e] at ha
                  exact N.out.1 ha
                · rw [T.out.2.2.2.2, ← List.append_assoc]
                  exact N.out.2.1
                · simp only [intOf]
                  omega
            · obtain rfl : t = l.length := by omega
              rw [List.take_length] at hnd3 hset3
              have Z := Lib.hid (And.intro hnd3 (And.intro hset3 hc3))
              clear hnd3 hset3
              go_upto_region 32 with fail
              go_cut [183] (fun s183 wy => ∃ (b : Bool) (W2 : World), W2 = wy ∧ s183 = .bool b ∧ (b = false ↔ twin n k m r) ∧ Below wr.heap.size wr W2)
              case first => as_aux_lemma =>
                by_cases hpb : 0 ≤ pb
                · obtain ⟨B', cb, hvb, hcb, hfb, hkb, hob⟩ := hc3.1.at (byL_get (pre := m) hpb (g3 hpb))
                  have hll2 : (ofR m pb).length ≤ 1000 := Nat.le_trans (List.length_filter_le _ _) hm
                  have hst := ofR_strict HO1.out pb
                  obtain ⟨lb, hlb⟩ : ∃ lb, ofR m pb = lb := ⟨_, rfl⟩
                  rw [hlb] at hvb hcb hkb hob hll2 hst
                  have htu := turned_calls c' A' l pb wr.drew (by omega) (Ck3.row hc3 H2.out.2.2.2.2.2.1 (byL_get (pre := m) g1 g2) HL.out)
                  have hcA : wr.cell? ⟨w3.heap.size, pa.toNat, none⟩ = some (.slice A' l.length c') := by
                    obtain ⟨A9, c9, hv9, hc9, _⟩ := hc3.1.at (byL_get (pre := m) g1 g2)
                    rw [HL.out] at hv9 hc9
                    rw [H2.out.2.2.2.2.2.1] at hv9
                    cases hv9
                    exact hc9
                  have hg3 := g3 hpb
                  have hBl : w3.heap.size < wr.heap.size := (Array.getElem?_eq_some_iff.1 hc3.1.1).1
                  have Y := Lib.hid (And.intro hlb (And.intro hkb (And.intro htu hst)))
                  clear hlb hkb htu hst hvb hfb hob hc3
                  go_region_held3 (fun w' => w'.cell? ⟨w3.heap.size, pa.toNat, none⟩ = some (.slice A' l.length c') ∧ w'.cell? ⟨w3.heap.size, pb.toNat, none⟩ = some (.slice B' lb.length cb)) (go_keep) (first
                    | (go_at_call 53; refine Y.out.2.2.1.mono ?_
                       rintro e W5 ⟨v5, ys, rfl, hl5, hp5, hs5, ho5, hb5⟩
                       obtain ⟨A5, c5, rfl, _, hk5⟩ := reads_own (show W5.ownsRow wr.drew.heap.size 36 3 v5 ys.length (flatM ys) by rw [hl5]; exact ho5)
                       have hb6 : Below wr.heap.size wr W5 := (Below.refl _ wr).drew.trans hb5
                       have cb5 := (hb6.cell (p := ⟨w3.heap.size, pb.toNat, none⟩) hBl).trans hcb
                       have ca5 := (hb6.cell (p := ⟨w3.heap.size, pa.toNat, none⟩) hBl).trans hcA
                       have heq := equal_calls cb c5 B' A5 lb ys W5 (by omega) (by omega) (Kd.C_below Y.out.2.1 hb6) hk5
                       have Y5 := Lib.hid (And.intro hp5 (And.intro hs5 (And.intro hb6 (And.intro heq hl5))))
                       clear hp5 hs5 ho5 hb5 hb6 heq hk5 hl5)
                    | (go_at_call 52; refine Y5.out.2.2.2.1.mono ?_
                       rintro e W6 ⟨rfl, q6, rfl⟩))
                  go_wp2_with fail
                  go_meet
                  refine ⟨_, _, rfl, rfl, ?_, pw_below_drewN Y5.out.2.2.1 q6⟩
                  rw [P.out.2.2, HL.out, Y.out.1]
                  have hyp := Y5.out.1
                  have hys := Y5.out.2.1
                  have hst := Y.out.2.2.2
                  constructor
                  · intro h _
                    have e : lb = ys := by simpa using h
                    rw [e]
                    exact hyp
                  · intro h
                    have e : lb = ys := eq_of_strict hst hys ((h hpb).trans hyp.symm)
                    simp [e]
                · have hd : decide (0 ≤ pb) = false := by simpa using hpb
                  have v : twin n k m r := P.out.2.2.2 (fun h => absurd h hpb)
                  have V := Lib.hid v
                  clear v hc3
                  go_quiet (fail)
                  go_wp2_with fail
                  go_meet
                  exact ⟨_, _, rfl, rfl, by simp [V.out], pw_below_drewN (Below.refl _ _) _⟩
              case rest => as_aux_lemma =>
                obtain ⟨b, W2, rfl, rfl, hb, hbW⟩ := hcut
                have hsetZ := Z.out.2.1.kept (grown_of_below hbW none) (by simp)
                have hcZ := Z.out.2.2.grown hbW
                cases b with
                | true =>
                  have v : checkF n k m = 200 := check_twin F.out.2.2.2.2.2 (by rw [F.out.2.2.1]; exact hlr) (fun h => by cases hb.2 h)
                  have V := Lib.hid v
                  have HX := Lib.hid hcZ
                  clear v hb hsetZ hcZ hbW hc3
                  go_wp2_with fail
                  exact bodyPost_ret (v := .int .i64 200) (by simp [results, Try.results16, go_sem]) rfl ⟨by rw [V.out], HX.out.2.2.2⟩
                | false =>
                  have hnd' : (metL n k m (r + 1)).Nodup := by rw [P.out.2.1, HL.out]; exact Z.out.1
                  have hset' : SetAt W2 wo.heap.size (metL n k m (r + 1)) := by rw [P.out.2.1, HL.out]; exact hsetZ
                  have htw' : ∀ r' : Nat, r' < r + 1 → twin n k m r' := fun r' hr' => by
                    by_cases e : r' = r
                    · subst e
                      exact hb.1 rfl
                    · exact H.out.2.1 r' (by omega)
                  have N := Lib.hid (And.intro hnd' (And.intro htw' (And.intro hset' hcZ)))
                  clear hnd' hset' htw' hb hsetZ hcZ hbW hc3
                  go_wp2_with fail
                  refine ⟨⟨r + 1, by omega, by simp, N.out.1, N.out.2.1, N.out.2.2.1, N.out.2.2.2.1, N.out.2.2.2.2.1, N.out.2.2.2.2.2.1, N.out.2.2.2.2.2.2⟩, ?_⟩
                  simp only [intOf]
                  omega
        · have hrR : (r : Int) = R := by omega
          have hlen := fun ty => set_len hset ty
          have cn := hb0.cell
          have hok := F.out.2.2.2.2.2
          obtain ⟨m1, m2⟩ := nn_bound hok.1 hok.2.1
          have hn2 := hok.1
          have hn20 := hok.2.1
          obtain ⟨L, hL⟩ : ∃ L, (metL n k m r).length = L := ⟨_, rfl⟩
          rw [hL] at hlen
          have hLb : L ≤ 19000 := by
            rw [← hL]
            have h1 := metL_len n k m r
            have h2 : r * m.length ≤ 19 * 1000 := Nat.mul_le_mul (by omega) hm
            omega
          have e1 := check_end (m := m) (r := r) hok (by rw [F.out.2.2.1, hrR]) (by rw [F.out.2.2.2.1]; exact HO1.out) hnd htw
          rw [hL] at e1
          have E := Lib.hid (And.intro e1 hbel)
          clear e1 hL hset hby hb0 hb7 hbel hnd htw hok hrR
          by_cases hl : (L : Int) = n * (n - 1) / 2
          · have hl1 : ((L : Int) != n * (n - 1) / 2) = false := by simp [hl]
            have hl2 : ((L : Int) == n * (n - 1) / 2) = true := by simp [hl]
            have V := Lib.hid (E.out.1.1 hl)
            clear hl
            go_wp2_with fail
            go_ret
            exact ⟨ret_i64 V.out.symm, E.out.2⟩
          · have hl1 : ((L : Int) != n * (n - 1) / 2) = true := by simp [hl]
            have hl2 : ((L : Int) == n * (n - 1) / 2) = false := by simp [hl]
            have V := Lib.hid (E.out.1.2 hl)
            clear hl
            go_wp2_with fail
            go_ret
            exact ⟨ret_i64 V.out.symm, E.out.2⟩
end Go.Proofs.Ytihmfpefmmdecaa.All
