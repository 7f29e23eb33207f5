/- robin.Check's answer in symmetric words, a test that the kernel can run, and that what Make makes is accepted. -/
import Derived.Test.YtihmfpefmmdecaaVal
namespace Go.Proofs.Ytihmfpefmmdecaa.All
open Go.RowKit Go.Proofs Go.Sort Go.Proofs.YtihmfpefmmdecaaW.PrintWords Go.Proofs.YtihmfpefmmdecaaW.PrintLast

theorem busyL_append (a b : List S36) : busyL (a ++ b) = busyL a ++ busyL b := by simp [busyL]
theorem busyL_one (x : S36) : busyL [x] = [(x.f0, x.f1), (x.f0, x.f2)] := rfl

theorem ord_iff (a b : S36) : ordI a.f0 a.f1 b.f0 b.f1 < 0 ↔ mLt a b := ordI_neg _ _ _ _

theorem okPre_iff {n R : Int} {m : List S36} : okPre n R m m.length ↔ m.Pairwise mLt ∧ (∀ x ∈ m, okR n R x) ∧ (busyL m).Nodup := by
  constructor
  · intro h
    refine ⟨?_, ?_, ?_⟩
    · have := ok_strict m.length (Nat.le_refl _) h
      rwa [List.take_length] at this
    · intro x hx
      obtain ⟨t, ht, rfl⟩ := List.getElem_of_mem hx
      exact (h t ht ht).1
    · have key : ∀ j, j ≤ m.length → (busyL (m.take j)).Nodup := by
        intro j
        induction j with
        | zero => intro _; simp [busyL]
        | succ j ih =>
          intro hj
          rw [List.take_succ_eq_append_getElem (by omega), busyL_append, busyL_one]
          obtain ⟨⟨_, _, _, _, hne⟩, _, h1, h2⟩ := h j (by omega) (by omega)
          refine List.nodup_append.2 ⟨ih (by omega), ?_, ?_⟩
          · simp [hne]
          · intro a ha b hb e
            subst e
            rcases List.mem_cons.1 hb with rfl | hb
            · exact h1 ha
            · rw [List.mem_singleton.1 hb] at ha
              exact h2 ha
      have := key m.length (Nat.le_refl _)
      rwa [List.take_length] at this
  · rintro ⟨hs, hr, hn⟩ t ht _
    have hsplit : m = m.take t ++ m[t] :: m.drop (t + 1) := by
      rw [← List.drop_eq_getElem_cons ht, List.take_append_drop]
    refine ⟨hr _ (List.getElem_mem ht), ?_, ?_, ?_⟩
    · intro y hy
      rw [ord_iff]
      rw [hsplit] at hs
      exact (List.pairwise_append.1 hs).2.2 y (List.mem_of_getLast? hy) _ List.mem_cons_self
    · intro hin
      rw [hsplit, busyL_append] at hn
      exact (List.nodup_append.1 hn).2.2 _ hin _ (List.mem_flatMap.2 ⟨m[t], List.mem_cons_self, by simp [keysB]⟩) rfl
    · intro hin
      rw [hsplit, busyL_append] at hn
      exact (List.nodup_append.1 hn).2.2 _ hin _ (List.mem_flatMap.2 ⟨m[t], List.mem_cons_self, by simp [keysB]⟩) rfl

theorem robinOK_iff {n k : Int} {m : List S36} : robinOK n k m ↔
    m.Pairwise mLt ∧ (∀ x ∈ m, okR n (roundsF n k).1 x) ∧ (busyL m).Nodup ∧ (metL n k m (rds n).toNat).Nodup ∧ (∀ r : Nat, (r : Int) < rds n → twin n k m r) ∧ ((metL n k m (rds n).toNat).length : Int) = n * (n - 1) / 2 := by
  unfold robinOK
  rw [okPre_iff]
  constructor
  · rintro ⟨⟨a, b, c⟩, d, e, f⟩
    exact ⟨a, b, c, d, e, f⟩
  · rintro ⟨a, b, c, d, e, f⟩
    exact ⟨⟨a, b, c⟩, d, e, f⟩

/-- No number occurs twice, nor is it a bit of acc. -/
def nodupN : List Nat → Nat → Bool
  | [], _ => true
  | x :: r, acc => !acc.testBit x && nodupN r (acc ||| 1 <<< x)
theorem nodupN_sound : ∀ (l : List Nat) (acc : Nat), nodupN l acc = true → l.Nodup ∧ ∀ x ∈ l, acc.testBit x = false
  | [], _, _ => ⟨List.nodup_nil, fun _ h => by cases h⟩
  | x :: r, acc, h => by
    unfold nodupN at h
    rw [Bool.and_eq_true] at h
    obtain ⟨h1, h2⟩ := h
    obtain ⟨i1, i2⟩ := nodupN_sound r _ h2
    have h1' : acc.testBit x = false := by simpa using h1
    refine ⟨List.nodup_cons.2 ⟨fun hx => ?_, i1⟩, fun y hy => ?_⟩
    · have := i2 x hx
      rw [Nat.testBit_or, Nat.testBit_shiftLeft] at this
      simp at this
    · rcases List.mem_cons.1 hy with rfl | hy
      · exact h1'
      · have := i2 y hy
        rw [Nat.testBit_or] at this
        simp at this
        exact this.1
def codeP (p : Int × Int) : Nat := p.1.toNat * 32 + p.2.toNat
def nodupP (l : List (Int × Int)) : Bool := nodupN (l.map codeP) 0
theorem nodup_of_map {α β : Type} (f : α → β) : ∀ (l : List α), (l.map f).Nodup → l.Nodup
  | [], _ => List.nodup_nil
  | x :: l, h => by
    rw [List.map_cons, List.nodup_cons] at h
    exact List.nodup_cons.2 ⟨fun hx => h.1 (List.mem_map.2 ⟨x, hx, rfl⟩), nodup_of_map f l h.2⟩
theorem nodupP_sound (l : List (Int × Int)) (h : nodupP l = true) : l.Nodup := nodup_of_map codeP l (nodupN_sound _ _ h).1

def eqM : List S36 → List S36 → Bool
  | [], [] => true
  | x :: xs, y :: ys => (x.f0 == y.f0 && x.f1 == y.f1 && x.f2 == y.f2) && eqM xs ys
  | _, _ => false
theorem eqM_sound : ∀ (l m : List S36), eqM l m = true → l = m
  | [], [], _ => rfl
  | x :: xs, y :: ys, h => by
    unfold eqM at h
    simp only [Bool.and_eq_true, beq_iff_eq] at h
    obtain ⟨⟨⟨a, b⟩, c⟩, d⟩ := h
    rw [eqM_sound xs ys d, (s36_eq x y).2 ⟨a, b, c⟩]
  | [], _ :: _, h => by cases h
  | _ :: _, [], h => by cases h
def okRB (n R : Int) (x : S36) : Bool := decide (okR n R x)
def twinB (n k : Int) (m : List S36) (r : Int) : Bool := decide ((pairF n k r).2 < 0) || eqM (sortM ((ofR m (pairF n k r).1).map (turnM (pairF n k r).2))) (ofR m (pairF n k r).2)
def robinB (n k : Int) (m : List S36) : Bool :=
  strictB m && (m.all (okRB n (roundsF n k).1) && (nodupP (busyL m) && (nodupP (metL n k m (rds n).toNat) && ((List.range (rds n).toNat).all (fun r => twinB n k m r) && decide (((metL n k m (rds n).toNat).length : Int) = n * (n - 1) / 2)))))
theorem robinB_sound {n k : Int} {m : List S36} (h : robinB n k m = true) : robinOK n k m := by
  unfold robinB at h
  simp only [Bool.and_eq_true] at h
  obtain ⟨a, b, c, d, e, f⟩ := h
  refine robinOK_iff.2 ⟨strict_of _ a, ?_, nodupP_sound _ c, nodupP_sound _ d, ?_, of_decide_eq_true f⟩
  · intro x hx
    exact of_decide_eq_true (List.all_eq_true.1 b x hx)
  · intro r hr h0
    have := List.all_eq_true.1 e r (List.mem_range.2 (by omega))
    unfold twinB at this
    rw [Bool.or_eq_true] at this
    rcases this with h1 | h1
    · have := of_decide_eq_true h1
      omega
    · rw [← eqM_sound _ _ h1]
      exact sortM_perm _
theorem make_okB : okAll (fun n k => robinB n k (makeF n k)) = true := by decide +kernel
theorem make_ok {n k : Int} (hok : okNK n k) : robinOK n k (makeF n k) := robinB_sound (okAll_use make_okB hok)
theorem check_make {n k : Int} (hok : okNK n k) : checkF n k (makeF n k) = 0 := by
  unfold checkF
  rw [if_pos hok, if_pos (make_ok hok)]
end Go.Proofs.Ytihmfpefmmdecaa.All
