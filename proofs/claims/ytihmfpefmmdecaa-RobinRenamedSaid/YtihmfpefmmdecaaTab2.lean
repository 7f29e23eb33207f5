/- The tables that RobinAll keeps, in plain words; what the kernel reckons of them. -/
import Derived.Test.YtihmfpefmmdecaaTab
import Derived.Test.YtihmfpefmmdecaaMakeF
namespace Go.Proofs.Ytihmfpefmmdecaa.All
open Go.RowKit Go.Proofs Go.Sort Go.Proofs.YtihmfpefmmdecaaW.PrintWords Go.Proofs.YtihmfpefmmdecaaW.PrintLast

theorem zero33 : Try.zeroCells33 = ((List.range 400).map fun _ => Value.int .i64 0).toArray := by kernel_rfl
def zrow : Value := .agg ((List.range 20).map fun _ => Value.int .i64 0).toArray
theorem zrow_cells : zrow.cells = ((List.range 20).map fun _ => Value.int .i64 0).toArray := by kernel_rfl
theorem info32 : (Try.prog.info? 32).map (fun i => (i.zero, i.size, i.bytes)) = some (some zrow, 20, 160) := by kernel_rfl

/-- How often the pair of place i has met so far. -/
def metC (m : List S36) (i : Nat) : Int := (m.countP fun x => x.f1.toNat * 20 + x.f2.toNat == i : Nat)
/-- How often the team plays in the round of place i. -/
def gamC (m : List S36) (i : Nat) : Int := (m.countP fun x => x.f0.toNat * 20 + x.f1.toNat == i : Nat) + (m.countP fun x => x.f0.toNat * 20 + x.f2.toNat == i : Nat)

theorem metC_bound (m : List S36) (i : Nat) (h : m.length ≤ 400) : 0 ≤ metC m i ∧ metC m i ≤ 1000 := by
  unfold metC
  have := List.countP_le_length (p := fun x : S36 => x.f1.toNat * 20 + x.f2.toNat == i) (l := m)
  omega
theorem gamC_bound (m : List S36) (i : Nat) (h : m.length ≤ 400) : 0 ≤ gamC m i ∧ gamC m i ≤ 1000 := by
  unfold gamC
  have := List.countP_le_length (p := fun x : S36 => x.f0.toNat * 20 + x.f1.toNat == i) (l := m)
  have := List.countP_le_length (p := fun x : S36 => x.f0.toNat * 20 + x.f2.toNat == i) (l := m)
  omega
/-- How often a team rests in the first rounds. -/
def restF (g : Nat → Int) (t : Nat) : Nat → Int
  | 0 => 0
  | r + 1 => restF g t r + (1 - g (r * 20 + t))
theorem rest_bound (g : Nat → Int) (t R : Nat) (h : ∀ r, r < R → 0 ≤ g (r * 20 + t) ∧ g (r * 20 + t) ≤ 1) : ∀ r, r ≤ R → 0 ≤ restF g t r ∧ restF g t r ≤ r := by
  intro r
  induction r with
  | zero => intro _; exact ⟨Int.le_refl _, Int.le_refl _⟩
  | succ r ih =>
    intro hr
    have h1 := ih (by omega)
    have h2 := h r (by omega)
    unfold restF
    omega
/-- What the law asks of the tables. -/
def allT (n k : Int) (R : Nat) (f g : Nat → Int) : Prop := ∀ t : Nat, (t : Int) < n → (∀ r, r < R → g (r * 20 + t) ≤ 1) ∧ restF g t R = (if k = 1 then n % 2 else n % 2 * 2) ∧
  ∀ b, b < t → (k = 1 → f (t * 20 + b) + f (b * 20 + t) = 1) ∧ (k ≠ 1 → f (t * 20 + b) = 1 ∧ f (b * 20 + t) = 1)
def allTB (n k : Int) (R : Nat) (f g : Nat → Int) : Bool := (List.range n.toNat).all fun t => (List.range R).all (fun r => decide (g (r * 20 + t) ≤ 1)) && (decide (restF g t R = (if k = 1 then n % 2 else n % 2 * 2)) &&
  (List.range t).all fun b => if k = 1 then decide (f (t * 20 + b) + f (b * 20 + t) = 1) else decide (f (t * 20 + b) = 1) && decide (f (b * 20 + t) = 1))
theorem allTB_sound {n k : Int} {R : Nat} {f g : Nat → Int} (h : allTB n k R f g = true) : allT n k R f g := by
  intro t ht
  have h1 := List.all_eq_true.1 h t (List.mem_range.2 (by omega))
  simp only [Bool.and_eq_true] at h1
  obtain ⟨a, b, c⟩ := h1
  refine ⟨fun r hr => of_decide_eq_true (List.all_eq_true.1 a r (List.mem_range.2 hr)), of_decide_eq_true b, fun b hb => ?_⟩
  have h2 := List.all_eq_true.1 c b (List.mem_range.2 hb)
  refine ⟨fun hk => ?_, fun hk => ?_⟩
  · rw [if_pos hk] at h2
    exact of_decide_eq_true h2
  · rw [if_neg hk, Bool.and_eq_true] at h2
    exact ⟨of_decide_eq_true h2.1, of_decide_eq_true h2.2⟩
/-- A meeting of what Make makes, in natural numbers, and what it does to the tables. -/
theorem steps (m : List S36) (j : Nat) (n : Int) (R : Nat) (hj : j < m.length) (hall : ∀ t, t < m.length → okR n R (rdN m t)) : ∃ r h a : Nat, (rd_T36 m (j : Int)).f0 = (r : Int) ∧ (rd_T36 m (j : Int)).f1 = (h : Int) ∧ (rd_T36 m (j : Int)).f2 = (a : Int) ∧ r < R ∧ (h : Int) < n ∧ (a : Int) < n ∧ ((h : Int) == (a : Int)) = false ∧
    (∀ i, metC (m.take (j + 1)) i = upd (metC (m.take j)) (h * 20 + a) (metC (m.take j) (h * 20 + a) + 1) i) ∧
    (∀ i, gamC (m.take (j + 1)) i = upd (upd (gamC (m.take j)) (r * 20 + h) (gamC (m.take j) (r * 20 + h) + 1)) (r * 20 + a) (upd (gamC (m.take j)) (r * 20 + h) (gamC (m.take j) (r * 20 + h) + 1) (r * 20 + a) + 1) i) := by
  have hx : okR n R (rd_T36 m (j : Int)) := hall j hj
  have hts : m.take (j + 1) = m.take j ++ [rd_T36 m (j : Int)] := by rw [List.take_succ_eq_append_getElem hj, rd_nat m hj]
  generalize rd_T36 m (j : Int) = x at hx hts ⊢
  obtain ⟨h1, h2, ⟨h3, h4⟩, ⟨h5, h6⟩, h7⟩ := hx
  refine ⟨x.f0.toNat, x.f1.toNat, x.f2.toNat, by omega, by omega, by omega, by omega, by omega, by omega, by simp; omega, fun i => ?_, fun i => ?_⟩
  · rw [hts]
    unfold metC upd
    rw [List.countP_append, List.countP_singleton]
    by_cases e : i = x.f1.toNat * 20 + x.f2.toNat
    · subst e; simp
    · rw [if_neg e]
      have : (x.f1.toNat * 20 + x.f2.toNat == i) = false := by simp; omega
      simp [this]
  · rw [hts]
    unfold gamC upd
    rw [List.countP_append, List.countP_singleton, List.countP_append, List.countP_singleton]
    by_cases e : i = x.f0.toNat * 20 + x.f2.toNat
    · subst e
      have : (x.f0.toNat * 20 + x.f1.toNat == x.f0.toNat * 20 + x.f2.toNat) = false := by simp; omega
      have e2 : ¬ x.f0.toNat * 20 + x.f2.toNat = x.f0.toNat * 20 + x.f1.toNat := by omega
      simp [this]
      omega
    · rw [if_neg e]
      have e3 : (x.f0.toNat * 20 + x.f2.toNat == i) = false := by simp; omega
      by_cases e2 : i = x.f0.toNat * 20 + x.f1.toNat
      · subst e2
        rw [e3]
        simp
        omega
      · rw [if_neg e2]
        have : (x.f0.toNat * 20 + x.f1.toNat == i) = false := by simp; omega
        simp [this, e3]

/-- The numbers of a list, as bits. -/
def bitsOf (l : List Nat) : Nat := l.foldr (fun x acc => acc ||| 1 <<< x) 0
theorem bitsOf_test (l : List Nat) (i : Nat) : (bitsOf l).testBit i = decide (i ∈ l) := by
  induction l with
  | nil => simp [bitsOf]
  | cons x l ih =>
    unfold bitsOf at ih ⊢
    rw [List.foldr_cons, Nat.testBit_or, ih, Nat.one_shiftLeft, Nat.testBit_two_pow]
    by_cases e : x = i
    · subst e; simp
    · simp [e, Ne.symm e]
theorem count_bit {l : List Nat} (h : l.Nodup) (i : Nat) : l.count i = if (bitsOf l).testBit i then 1 else 0 := by
  rw [bitsOf_test]
  by_cases hi : i ∈ l
  · rw [h.count, if_pos hi]
    simp [hi]
  · rw [List.count_eq_zero_of_not_mem hi]
    simp [hi]
def metK (m : List S36) : List Nat := m.map fun x => x.f1.toNat * 20 + x.f2.toNat
def gamK (m : List S36) : List Nat := m.map (fun x => x.f0.toNat * 20 + x.f1.toNat) ++ m.map (fun x => x.f0.toNat * 20 + x.f2.toNat)
def bitI (M i : Nat) : Int := if M.testBit i then 1 else 0
theorem metC_bit {m : List S36} (h : (metK m).Nodup) : metC m = bitI (bitsOf (metK m)) := by
  funext i
  have := count_bit h i
  unfold metC bitI
  rw [show (m.countP fun x => x.f1.toNat * 20 + x.f2.toNat == i) = (metK m).count i by unfold metK List.count; rw [List.countP_map]; rfl, this]
  split <;> rfl
theorem gamC_bit {m : List S36} (h : (gamK m).Nodup) : gamC m = bitI (bitsOf (gamK m)) := by
  funext i
  have := count_bit h i
  unfold gamC bitI
  have e : ((m.countP fun x => x.f0.toNat * 20 + x.f1.toNat == i : Nat) : Int) + (m.countP fun x => x.f0.toNat * 20 + x.f2.toNat == i : Nat) = ((gamK m).count i : Nat) := by
    unfold gamK List.count
    rw [List.countP_append, List.countP_map, List.countP_map]
    rfl
  rw [e, this]
  split <;> rfl
def tabB (n k : Int) (m : List S36) : Bool := nodupN (metK m) 0 && (nodupN (gamK m) 0 && allTB n k (roundsF n k).1.toNat (bitI (bitsOf (metK m))) (bitI (bitsOf (gamK m))))
theorem tabB_sound {n k : Int} {m : List S36} (h : tabB n k m = true) : allT n k (roundsF n k).1.toNat (metC m) (gamC m) := by
  unfold tabB at h
  simp only [Bool.and_eq_true] at h
  rw [metC_bit (nodupN_sound _ _ h.1).1, gamC_bit (nodupN_sound _ _ h.2.1).1]
  exact allTB_sound h.2.2
theorem make_tabB : okAll (fun n k => tabB n k (makeF n k)) = true := by decide +kernel
theorem make_tab {n k : Int} (hok : okNK n k) : allT n k (roundsF n k).1.toNat (metC (makeF n k)) (gamC (makeF n k)) := tabB_sound (okAll_use make_tabB hok)

theorem right_yes {n k : Int} (h : okNK n k) (w : World) : Calls Try.prog 20 #[.int .i64 n, .int .i64 k] w fun e w' => e = .returned (.bool true) ∧ Below w.heap.size w w' := by
  obtain ⟨a, b, c, d⟩ := h
  by_cases h1 : k = 1
  · subst h1
    go_enter Try.func20, Try.ntmps20
    go_wp2
    go_ret
    exact ⟨rfl, Below.refl _ _⟩
  · by_cases h2 : k = 2
    · subst h2
      go_enter Try.func20, Try.ntmps20
      go_wp2
      go_ret
      exact ⟨rfl, Below.refl _ _⟩
    · obtain rfl : k = 3 := by omega
      go_enter Try.func20, Try.ntmps20
      go_wp2
      go_ret
      exact ⟨rfl, Below.refl _ _⟩
theorem right_no {n k : Int} (h : ¬ okNK n k) (w : World) : Calls Try.prog 20 #[.int .i64 n, .int .i64 k] w fun e w' => e = .returned (.bool false) ∧ Below w.heap.size w w' := by
  by_cases a : 2 ≤ n
  · by_cases b : n ≤ 20
    · have h3 : ¬ (1 ≤ k ∧ k ≤ 3) := fun h' => h ⟨a, b, h'⟩
      have k1 : (k == 1) = false := by simp; omega
      have k2 : (k == 2) = false := by simp; omega
      have k3 : (k == 3) = false := by simp; omega
      clear h h3
      go_enter Try.func20, Try.ntmps20
      go_wp2
      go_ret
      exact ⟨rfl, Below.refl _ _⟩
    · clear h
      go_enter Try.func20, Try.ntmps20
      go_wp2
      go_ret
      exact ⟨rfl, Below.refl _ _⟩
  · clear h
    go_enter Try.func20, Try.ntmps20
    go_wp2
    go_ret
    exact ⟨rfl, Below.refl _ _⟩
end Go.Proofs.Ytihmfpefmmdecaa.All
