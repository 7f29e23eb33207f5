/- The tables that RobinBalance keeps, in plain words; what the kernel reckons of them. -/
import Derived.Test.YtihmfpefmmdecaaTab2
namespace Go.Proofs.Ytihmfpefmmdecaa.All
open Go.RowKit Go.Proofs Go.Sort Go.Proofs.YtihmfpefmmdecaaW.PrintWords Go.Proofs.YtihmfpefmmdecaaW.PrintLast

theorem zero37 : Try.zeroCells37 = ((List.range 800).map fun _ => Value.int .i64 0).toArray := by kernel_rfl

def homC (m : List S36) (i : Nat) : Int := (m.countP fun x => x.f1.toNat == i : Nat)
theorem homC_bound (m : List S36) (i : Nat) (h : m.length ≤ 400) : 0 ≤ homC m i ∧ homC m i ≤ 1000 := by
  unfold homC
  have := List.countP_le_length (p := fun x : S36 => x.f1.toNat == i) (l := m)
  omega
def atF (m : List S36) : Nat → Int := m.foldl (fun f x => upd (upd f (x.f0.toNat * 20 + x.f1.toNat) 1) (x.f0.toNat * 20 + x.f2.toNat) (-1)) (fun _ => 0)
theorem atF_vals (m : List S36) : ∀ i, atF m i = 0 ∨ atF m i = 1 ∨ atF m i = -1 := by
  unfold atF
  suffices h : ∀ (f : Nat → Int), (∀ i, f i = 0 ∨ f i = 1 ∨ f i = -1) → ∀ i, (m.foldl (fun f x => upd (upd f (x.f0.toNat * 20 + x.f1.toNat) 1) (x.f0.toNat * 20 + x.f2.toNat) (-1)) f) i = 0 ∨ (m.foldl (fun f x => upd (upd f (x.f0.toNat * 20 + x.f1.toNat) 1) (x.f0.toNat * 20 + x.f2.toNat) (-1)) f) i = 1 ∨ (m.foldl (fun f x => upd (upd f (x.f0.toNat * 20 + x.f1.toNat) 1) (x.f0.toNat * 20 + x.f2.toNat) (-1)) f) i = -1 from h _ (fun _ => .inl rfl)
  induction m with
  | nil => intro f h; exact h
  | cons x m ih =>
    intro f h
    refine ih _ fun i => ?_
    show upd (upd f _ 1) _ (-1) i = 0 ∨ upd (upd f _ 1) _ (-1) i = 1 ∨ upd (upd f _ 1) _ (-1) i = -1
    unfold upd
    split
    · exact .inr (.inr rfl)
    · split
      · exact .inr (.inl rfl)
      · exact h i
/-- A meeting's step. -/
theorem stepsB (m : List S36) (j : Nat) (n : Int) (R : Nat) (hR : R ≤ 40) (hj : j < m.length) (hall : ∀ t, t < m.length → okR n R (rdN m t)) : ∃ r h a : Nat, (rd_T36 m (j : Int)).f0 = (r : Int) ∧ (rd_T36 m (j : Int)).f1 = (h : Int) ∧ (rd_T36 m (j : Int)).f2 = (a : Int) ∧ r < 40 ∧ (h : Int) < n ∧ (a : Int) < n ∧ h ≠ a ∧
    (∀ i, homC (m.take (j + 1)) i = upd (homC (m.take j)) h (homC (m.take j) h + 1) i) ∧
    (∀ i, atF (m.take (j + 1)) i = upd (upd (atF (m.take j)) (r * 20 + h) 1) (r * 20 + a) (-1) i) := by
  have hx : okR n R (rd_T36 m (j : Int)) := hall j hj
  have hts : m.take (j + 1) = m.take j ++ [rd_T36 m (j : Int)] := by rw [List.take_succ_eq_append_getElem hj, rd_nat m hj]
  generalize rd_T36 m (j : Int) = x at hx hts ⊢
  obtain ⟨h1, h2, ⟨h3, h4⟩, ⟨h5, h6⟩, h7⟩ := hx
  refine ⟨x.f0.toNat, x.f1.toNat, x.f2.toNat, by omega, by omega, by omega, by omega, by omega, by omega, by omega, fun i => ?_, fun i => ?_⟩
  · rw [hts]
    unfold homC upd
    rw [List.countP_append, List.countP_singleton]
    by_cases e : i = x.f1.toNat
    · subst e; simp
    · rw [if_neg e]
      have : (x.f1.toNat == i) = false := by simp; omega
      simp [this]
  · rw [hts]
    unfold atF
    rw [List.foldl_append]
    rfl

/-- Breaks of a team in the first rounds. -/
def brk (f : Nat → Int) (t : Nat) : Nat → Int
  | 0 => 0
  | r + 1 => brk f t r + if f (r * 20 + t) ≠ 0 ∧ f (r * 20 + t) = f ((r + 1) * 20 + t) then 1 else 0
theorem brk_bound (f : Nat → Int) (t : Nat) : ∀ r, 0 ≤ brk f t r ∧ brk f t r ≤ r := by
  intro r
  induction r with
  | zero => exact ⟨Int.le_refl _, Int.le_refl _⟩
  | succ r ih => unfold brk; split <;> omega
def brks (f : Nat → Int) : Nat → Int
  | 0 => 0
  | t + 1 => brks f t + brk f t 39
theorem brks_bound (f : Nat → Int) : ∀ t, 0 ≤ brks f t ∧ brks f t ≤ 39 * t := by
  intro t
  induction t with
  | zero => exact ⟨Int.le_refl _, Int.le_refl _⟩
  | succ t ih =>
    have := brk_bound f t 39
    unfold brks
    omega
/-- What the law asks of the tables. -/
def balT (n k : Int) (h f : Nat → Int) : Prop := (∀ t : Nat, (t : Int) < n → (k ≠ 1 → h t = n - 1) ∧ (k = 1 → n % 2 = 1 → h t = (n - 1) / 2) ∧ (k = 1 → ¬ n % 2 = 1 → h t = n / 2 ∨ h t = n / 2 - 1)) ∧ (k = 1 → brks f n.toNat = (n - 2) * (1 - n % 2))
def balTB (n k : Int) (h f : Nat → Int) : Bool := (List.range n.toNat).all (fun t => if k = 1 then (if n % 2 = 1 then decide (h t = (n - 1) / 2) else decide (h t = n / 2) || decide (h t = n / 2 - 1)) else decide (h t = n - 1)) && (if k = 1 then decide (brks f n.toNat = (n - 2) * (1 - n % 2)) else true)
theorem balTB_sound {n k : Int} {h f : Nat → Int} (hb : balTB n k h f = true) : balT n k h f := by
  unfold balTB at hb
  rw [Bool.and_eq_true] at hb
  obtain ⟨a, b⟩ := hb
  refine ⟨fun t ht => ?_, fun hk => ?_⟩
  · have h1 := List.all_eq_true.1 a t (List.mem_range.2 (by omega))
    refine ⟨fun hk => ?_, fun hk h2 => ?_, fun hk h2 => ?_⟩
    · rw [if_neg hk] at h1
      exact of_decide_eq_true h1
    · rw [if_pos hk, if_pos h2] at h1
      exact of_decide_eq_true h1
    · rw [if_pos hk, if_neg h2, Bool.or_eq_true] at h1
      exact h1.elim (fun h => .inl (of_decide_eq_true h)) (fun h => .inr (of_decide_eq_true h))
  · rw [if_pos hk] at b
    exact of_decide_eq_true b

def homK (m : List S36) : List Nat := m.map fun x => x.f0.toNat * 20 + x.f1.toNat
def awyK (m : List S36) : List Nat := m.map fun x => x.f0.toNat * 20 + x.f2.toNat
/-- Where no place occurs twice, the table is told by two sets. -/
theorem atF_sets (c : Nat) : ∀ (m : List S36), m.length = c → (homK m ++ awyK m).Nodup → ∀ i, atF m i = if i ∈ homK m then 1 else if i ∈ awyK m then -1 else 0 := by
  induction c with
  | zero =>
    intro m hc _ i
    rw [List.eq_nil_of_length_eq_zero hc]
    simp [atF, homK, awyK]
  | succ c ih =>
    intro m hc hn i
    rcases List.eq_nil_or_concat m with rfl | ⟨l, x, rfl⟩
    · simp at hc
    · rw [List.concat_eq_append] at *
      have hh : homK (l ++ [x]) = homK l ++ [x.f0.toNat * 20 + x.f1.toNat] := by simp [homK]
      have ha : awyK (l ++ [x]) = awyK l ++ [x.f0.toNat * 20 + x.f2.toNat] := by simp [awyK]
      have e : atF (l ++ [x]) i = upd (upd (atF l) (x.f0.toNat * 20 + x.f1.toNat) 1) (x.f0.toNat * 20 + x.f2.toNat) (-1) i := by
        unfold atF
        rw [List.foldl_append]
        rfl
      rw [hh, ha] at hn ⊢
      rw [e]
      generalize x.f0.toNat * 20 + x.f1.toNat = p at hn ⊢
      generalize x.f0.toNat * 20 + x.f2.toNat = q at hn ⊢
      obtain ⟨n1, n2, n3⟩ := List.nodup_append.1 hn
      obtain ⟨n4, n5, n6⟩ := List.nodup_append.1 n1
      obtain ⟨n7, n8, n9⟩ := List.nodup_append.1 n2
      have hl := ih l (by simpa using hc) (List.nodup_append.2 ⟨n4, n7, fun a h1 b h2 => n3 a (List.mem_append_left _ h1) b (List.mem_append_left _ h2)⟩) i
      unfold upd
      by_cases hq : i = q
      · subst hq
        have h1 : i ∉ homK l ++ [p] := fun h => n3 i h i (by simp) rfl
        rw [if_pos rfl, if_neg h1, if_pos (by simp)]
      · rw [if_neg hq]
        by_cases hp : i = p
        · subst hp
          rw [if_pos rfl, if_pos (by simp)]
        · rw [if_neg hp, hl]
          have e1 : (i ∈ homK l ++ [p]) ↔ i ∈ homK l := by simp [hp]
          have e2 : (i ∈ awyK l ++ [q]) ↔ i ∈ awyK l := by simp [hq]
          simp only [e1, e2]
def atB (H A i : Nat) : Int := if H.testBit i then 1 else if A.testBit i then -1 else 0
theorem atF_bit {m : List S36} (h : (homK m ++ awyK m).Nodup) : atF m = atB (bitsOf (homK m)) (bitsOf (awyK m)) := by
  funext i
  rw [atF_sets _ m rfl h i]
  unfold atB
  rw [bitsOf_test, bitsOf_test]
  simp only [decide_eq_true_eq]
def balB (n k : Int) (m : List S36) : Bool := nodupN (homK m ++ awyK m) 0 && balTB n k (homC m) (atB (bitsOf (homK m)) (bitsOf (awyK m)))
theorem balB_sound {n k : Int} {m : List S36} (h : balB n k m = true) : balT n k (homC m) (atF m) := by
  unfold balB at h
  rw [Bool.and_eq_true] at h
  rw [atF_bit (nodupN_sound _ _ h.1).1]
  exact balTB_sound h.2
theorem make_balB : okAll (fun n k => balB n k (makeF n k)) = true := by decide +kernel
theorem make_bal {n k : Int} (hok : okNK n k) : balT n k (homC (makeF n k)) (atF (makeF n k)) := balB_sound (okAll_use make_balB hok)
end Go.Proofs.Ytihmfpefmmdecaa.All
