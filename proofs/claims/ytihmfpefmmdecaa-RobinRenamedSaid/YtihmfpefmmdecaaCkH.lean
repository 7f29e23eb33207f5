/- What robin.Check answers, in plain words on lists; small words for its walk. -/
import Derived.Test.YtihmfpefmmdecaaCheckRow
import Derived.Deep.DeepCutAuto
import Derived.Carry
import Derived.BigQuiet
import Derived.Deep.RegionHeld3
import Derived.Deep.AppendLies
import Derived.Shelf.SlSortCmp.QuietGrown
namespace Go.Proofs.Ytihmfpefmmdecaa.All
open Go.RowKit Go.Proofs Go.Sort Go.Proofs.YtihmfpefmmdecaaW.PrintWords Go.Proofs.YtihmfpefmmdecaaW.PrintLast
attribute [local go_sem] run_makeMap

def keysB (x : S36) : List (Int × Int) := [(x.f0, x.f1), (x.f0, x.f2)]
def okR (n R : Int) (x : S36) : Prop := 0 ≤ x.f0 ∧ x.f0 < R ∧ (0 ≤ x.f1 ∧ x.f1 < n) ∧ (0 ≤ x.f2 ∧ x.f2 < n) ∧ x.f1 ≠ x.f2
instance (n R : Int) (x : S36) : Decidable (okR n R x) := by unfold okR; exact inferInstance
def busyL (pre : List S36) : List (Int × Int) := pre.flatMap keysB
def prevOk (pre : List S36) (x : S36) : Prop := ∀ y, pre.getLast? = some y → ordI y.f0 y.f1 x.f0 x.f1 < 0
instance (pre : List S36) (x : S36) : Decidable (prevOk pre x) := by
  unfold prevOk
  cases pre.getLast? with
  | none => exact .isTrue (by simp)
  | some y => exact decidable_of_iff (ordI y.f0 y.f1 x.f0 x.f1 < 0) (by simp)
/-- The meeting x may follow pre. -/
def okAt (n R : Int) (pre : List S36) (x : S36) : Prop := okR n R x ∧ prevOk pre x ∧ (x.f0, x.f1) ∉ busyL pre ∧ (x.f0, x.f2) ∉ busyL pre
def okPre (n R : Int) (m : List S36) (j : Nat) : Prop := ∀ t (h : t < m.length), t < j → okAt n R (m.take t) m[t]
def byL (R : Int) (pre : List S36) : List (List S36) := (List.range R.toNat).map fun r : Nat => pre.filter fun x => x.f0 == (r : Int)
def keyM (x : S36) : Int × Int := (min x.f1 x.f2, max x.f1 x.f2)
/-- The meetings of a round. -/
def ofR (m : List S36) (r : Int) : List S36 := m.filter fun x => x.f0 == r
def metL (n k : Int) (m : List S36) (j : Nat) : List (Int × Int) := (List.range j).flatMap fun r : Nat => (ofR m (pairF n k r).1).map keyM
def twin (n k : Int) (m : List S36) (r : Int) : Prop := 0 ≤ (pairF n k r).2 → (ofR m (pairF n k r).2).Perm ((ofR m (pairF n k r).1).map (turnM (pairF n k r).2))
/-- What robin.Check accepts. -/
def robinOK (n k : Int) (m : List S36) : Prop :=
  okPre n (roundsF n k).1 m m.length ∧ (metL n k m (rds n).toNat).Nodup ∧ (∀ r : Nat, (r : Int) < rds n → twin n k m r) ∧ ((metL n k m (rds n).toNat).length : Int) = n * (n - 1) / 2
open Classical in
noncomputable def checkF (n k : Int) (m : List S36) : Int := if okNK n k then if robinOK n k m then 0 else 200 else 1

theorem okPre_succ {n R : Int} {m : List S36} {j : Nat} (h : okPre n R m j) (hj : j < m.length) (hx : okAt n R (m.take j) m[j]) : okPre n R m (j + 1) := by
  intro t ht h2
  by_cases e : t = j
  · subst e
    exact hx
  · exact h t ht (by omega)

theorem byL_len (R : Int) (pre : List S36) : (byL R pre).length = R.toNat := by simp [byL]
theorem byL_get {R : Int} {pre : List S36} {r : Int} (h0 : 0 ≤ r) (h1 : r < R) : (byL R pre)[r.toNat]? = some (ofR pre r) := by
  unfold byL ofR
  rw [List.getElem?_map, List.getElem?_range (by omega)]
  simp
  congr 1
  funext x
  rw [Int.max_eq_left h0]
theorem byL_snoc {R : Int} {pre : List S36} {x : S36} (h0 : 0 ≤ x.f0) (h1 : x.f0 < R) : (byL R pre).set x.f0.toNat (ofR pre x.f0 ++ [x]) = byL R (pre ++ [x]) := by
  apply List.ext_getElem?
  intro i
  by_cases e : i = x.f0.toNat
  · subst e
    rw [List.getElem?_set_self (by rw [byL_len]; omega), byL_get h0 h1]
    simp [ofR]
  · rw [List.getElem?_set_ne (Ne.symm e)]
    unfold byL
    rw [List.getElem?_map, List.getElem?_map]
    by_cases hi : i < R.toNat
    · rw [List.getElem?_range hi]
      have : (x.f0 == (i : Int)) = false := by simp; omega
      simp [this]
    · rw [List.getElem?_eq_none (by simp; omega)]
      rfl

theorem busyL_len (pre : List S36) : (busyL pre).length = 2 * pre.length := by
  induction pre with
  | nil => rfl
  | cons y ys ih => simp [busyL, keysB] at ih ⊢; omega

theorem SetAt.of_heap {W W' : World} {b : Nat} {ks : List (Int × Int)} (hs : SetAt W b ks) (h : W'.heap[b]? = W.heap[b]?) : SetAt W' b ks := by
  obtain ⟨n, D, ⟨es, c, hb, r⟩, r2⟩ := hs
  exact ⟨n, D, ⟨es, c, h.trans hb, r⟩, r2⟩

/-- What the first loop of Check keeps. -/
def CkL (n : Int) (R : Int) (RN : Nat) (m : List S36) (w : World) (Bb Bm : Nat) (j : Nat) (vs : List Value) (wr : World) : Prop :=
  okPre n RN m j ∧ SetAt wr Bm (busyL (m.take j)) ∧ ByAt w.heap.size wr Bb vs (byL RN (m.take j)) ∧ Boxed wr w.heap.size 3 (.int .i64 n) ∧ wr.heap[w.heap.size + 2]? = some (.cells #[.int .i64 n, .int .i64 R] 92 (0, 0)) ∧ Below w.heap.size w wr

/-- What the second loop of Check keeps. -/
def CkM (n k R : Int) (RN : Nat) (m : List S36) (w : World) (Bb Bt : Nat) (vs : List Value) (r : Nat) (wr : World) : Prop :=
  (metL n k m r).Nodup ∧ (∀ r' : Nat, r' < r → twin n k m r') ∧ SetAt wr Bt (metL n k m r) ∧ ByAt w.heap.size wr Bb vs (byL RN m) ∧ Boxed wr w.heap.size 3 (.int .i64 n) ∧ wr.heap[w.heap.size + 2]? = some (.cells #[.int .i64 n, .int .i64 R] 92 (0, 0)) ∧ Below w.heap.size w wr

theorem pair_range {n k r : Int} (hok : okNK n k) (h0 : 0 ≤ r) (h1 : r < rds n) : 0 ≤ (pairF n k r).1 ∧ (pairF n k r).1 < (roundsF n k).1 ∧ (0 ≤ (pairF n k r).2 → (pairF n k r).2 < (roundsF n k).1) := by
  unfold pairF roundsF
  rw [if_pos hok]
  obtain ⟨a, b, c, d⟩ := hok
  by_cases h2 : k = 2
  · subst h2
    simp
    omega
  · by_cases h3 : k = 3
    · subst h3
      simp
      omega
    · have : k = 1 := by omega
      subst this
      simp
      omega
theorem metL_succ (n k : Int) (m : List S36) (r : Nat) : metL n k m (r + 1) = metL n k m r ++ (ofR m (pairF n k r).1).map keyM := by
  unfold metL
  rw [List.range_succ, List.flatMap_append]
  simp
theorem ofR_ok {n RN : Int} {m : List S36} (h : okPre n RN m m.length) (r : Int) : ∀ x ∈ ofR m r, okR n RN x ∧ x.f0 = r := by
  intro x hx
  obtain ⟨h1, h2⟩ := List.mem_filter.1 hx
  obtain ⟨t, ht, rfl⟩ := List.getElem_of_mem h1
  exact ⟨(h t ht ht).1, by simpa using h2⟩

/-- What the innermost loop of Check keeps. -/
def Ck3 (n R : Int) (RN : Nat) (m : List S36) (w : World) (Bb : Nat) (vs : List Value) (wr : World) : Prop :=
  ByAt w.heap.size wr Bb vs (byL RN m) ∧ Boxed wr w.heap.size 3 (.int .i64 n) ∧ wr.heap[w.heap.size + 2]? = some (.cells #[.int .i64 n, .int .i64 R] 92 (0, 0)) ∧ Below w.heap.size w wr
theorem Ck3.row {n R : Int} {RN : Nat} {m : List S36} {w wr : World} {Bb : Nat} {vs : List Value} (h : Ck3 n R RN m w Bb vs wr) {A : Option Addr} {c r : Nat} {l l' : List S36} (hv : vs[r]? = some (.slice A l.length c)) (hl : (byL RN m)[r]? = some l') (e : l' = l) : Kd.C k36 wr A l.length l := by
  subst e
  exact reads_at (h.1.2.2.1 _ _ _ hv hl)
theorem Ck3.grown {n R : Int} {RN : Nat} {m : List S36} {w wr W : World} {Bb : Nat} {vs : List Value} (h : Ck3 n R RN m w Bb vs wr) (hb : Below wr.heap.size wr W) : Ck3 n R RN m w Bb vs W :=
  have g := grown_of_below hb none
  ⟨h.1.grown g, boxed_grown h.2.1 g (fun _ e => by cases e), cells_kept h.2.2.1 g (fun _ e => by cases e), h.2.2.2.trans (hb.mono h.2.2.2.size)⟩
theorem Ck3.other {n R : Int} {RN : Nat} {m : List S36} {w wr W : World} {Bb b : Nat} {vs : List Value} (h : Ck3 n R RN m w Bb vs wr) (hg : wr.grownBy W (some b)) (hb : ∀ cs t fr, wr.heap[b]? ≠ some (.cells cs t fr)) (hwb : w.heap.size ≤ b) : Ck3 n R RN m w Bb vs W := by
  have keep : ∀ (i : Nat) (c : Array Value) (t : TypeId), wr.heap[i]? = some (.cells c t (0, 0)) → W.heap[i]? = some (.cells c t (0, 0)) := fun i c t hi => (hg.block i (Array.getElem?_eq_some_iff.1 hi).1 (fun e => by cases e; exact hb _ _ _ hi)).trans hi
  exact ⟨h.1.other hg hb, keep _ _ _ h.2.1, keep _ _ _ h.2.2.1, h.2.2.2.grown hg h.2.2.2.size (fun j e => by cases e; exact hwb)⟩
theorem take_map_snocK (l : List S36) {t : Nat} (ht : t < l.length) : (l.take (t + 1)).map keyM = (l.take t).map keyM ++ [keyM (rd_T36 l t)] := by
  rw [take_snocM l ht, List.map_append]
  rfl

theorem check_dup {n k : Int} {m : List S36} (hok : okNK n k) {r : Nat} (hr : (r : Int) < rds n) {l1 l2 : List (Int × Int)} (h : metL n k m (r + 1) = l1 ++ l2) (hd : ¬ l1.Nodup) : checkF n k m = 200 := by
  unfold checkF
  rw [if_pos hok, if_neg]
  rintro ⟨_, h2, _⟩
  refine hd ?_
  have : (metL n k m (r + 1)).Nodup := by
    obtain ⟨d, hd⟩ : ∃ d, (rds n).toNat = r + 1 + d := ⟨(rds n).toNat - (r + 1), by omega⟩
    rw [hd] at h2
    unfold metL at h2 ⊢
    rw [List.range_add, List.flatMap_append] at h2
    exact (List.nodup_append.1 h2).1
  rw [h] at this
  exact (List.nodup_append.1 this).1

theorem metL_len (n k : Int) (m : List S36) (r : Nat) : (metL n k m r).length ≤ r * m.length := by
  induction r with
  | zero => simp [metL]
  | succ r ih =>
    rw [metL_succ, List.length_append, List.length_map, Nat.succ_mul]
    exact Nat.add_le_add ih (List.length_filter_le _ _)

theorem mLt_trans {a b c : S36} (h : mLt a b) (k : mLt b c) : mLt a c := by unfold mLt at *; omega
theorem mLt_le {a b : S36} (h : mLt a b) : mLe a b := by unfold mLt at h; unfold mLe; omega
theorem mLt_irrefl {a : S36} : ¬ mLt a a := by unfold mLt; omega
theorem mLe_both {a b : S36} (h : mLe a b) (k : mLe b a) : a.f0 = b.f0 ∧ a.f1 = b.f1 := by unfold mLe at *; omega
theorem pair_one {l : List S36} (h : l.Pairwise mLt) {a b : S36} (ha : a ∈ l) (hb : b ∈ l) (e : a.f0 = b.f0 ∧ a.f1 = b.f1) : a = b := by
  induction l with
  | nil => cases ha
  | cons y ys ih =>
    obtain ⟨h1, h2⟩ := List.pairwise_cons.1 h
    rcases List.mem_cons.1 ha with e1 | ha'
    · rcases List.mem_cons.1 hb with e2 | hb'
      · rw [e1, e2]
      · have := h1 b hb'
        rw [← e1] at this
        unfold mLt at this
        omega
    · rcases List.mem_cons.1 hb with e2 | hb'
      · have := h1 a ha'
        rw [← e2] at this
        unfold mLt at this
        omega
      · exact ih h2 ha' hb'
theorem eq_of_strict {l ys : List S36} (h : l.Pairwise mLt) (hy : ys.Pairwise mLe) (hp : l.Perm ys) : l = ys := by
  induction l generalizing ys with
  | nil => exact (List.nil_perm.1 hp).symm
  | cons x xs ih =>
    cases ys with
    | nil => exact absurd (List.perm_nil.1 hp) (by simp)
    | cons y ys =>
      have e : x = y := by
        have hx : x ∈ y :: ys := hp.mem_iff.1 List.mem_cons_self
        have hy' : y ∈ x :: xs := hp.mem_iff.2 List.mem_cons_self
        rcases List.mem_cons.1 hx with e | hx
        · exact e
        · rcases List.mem_cons.1 hy' with e | hy'
          · exact e.symm
          · exact pair_one h List.mem_cons_self (List.mem_cons_of_mem _ hy') (mLe_both (mLt_le ((List.pairwise_cons.1 h).1 y hy')) ((List.pairwise_cons.1 hy).1 x hx))
      subst e
      rw [ih (List.pairwise_cons.1 h).2 (List.pairwise_cons.1 hy).2 (List.Perm.cons_inv hp)]
theorem strict_snoc {l : List S36} {x : S36} (h : l.Pairwise mLt) (hx : ∀ y, l.getLast? = some y → mLt y x) : (l ++ [x]).Pairwise mLt := by
  refine List.pairwise_append.2 ⟨h, List.pairwise_singleton _ _, ?_⟩
  intro a ha b hb
  rw [List.mem_singleton.1 hb]
  rcases List.eq_nil_or_concat l with rfl | ⟨l', z, rfl⟩
  · cases ha
  · rw [List.concat_eq_append] at *
    have hz := hx z (by simp)
    rcases List.mem_append.1 ha with ha | ha
    · exact mLt_trans ((List.pairwise_append.1 h).2.2 a ha z (by simp)) hz
    · rw [List.mem_singleton.1 ha]
      exact hz
theorem ok_strict {n R : Int} {m : List S36} : ∀ j, j ≤ m.length → okPre n R m m.length → (m.take j).Pairwise mLt := by
  intro j
  induction j with
  | zero => intro _ _; simp
  | succ j ih =>
    intro hj h
    rw [List.take_succ_eq_append_getElem (by omega)]
    refine strict_snoc (ih (by omega) h) fun y hy => ?_
    have := (h j (by omega) (by omega)).2.1 y hy
    exact (ordI_neg _ _ _ _).1 this
theorem ofR_strict {n R : Int} {m : List S36} (h : okPre n R m m.length) (r : Int) : (ofR m r).Pairwise mLt := by
  have := ok_strict m.length (Nat.le_refl _) h
  rw [List.take_length] at this
  exact this.filter _
theorem check_twin {n k : Int} {m : List S36} (hok : okNK n k) {r : Nat} (hr : (r : Int) < rds n) (h : ¬ twin n k m r) : checkF n k m = 200 := by
  unfold checkF
  rw [if_pos hok, if_neg]
  rintro ⟨_, _, h3, _⟩
  exact h (h3 r hr)

theorem ck_round {n R : Int} {RN : Nat} {m : List S36} {w Wb W' : World} {Bb Bm j : Nat} {vs' : List Value} {x : S36} {l : List S36} (hj : j < m.length) (hx : x = m[j]) (hpre : okPre n RN m j) (hok : okAt n RN (m.take j) x)
    (hset : SetAt Wb Bm (busyL (m.take j) ++ [(x.f0, x.f1)] ++ [(x.f0, x.f2)])) (hsn : (byL RN (m.take j)).set x.f0.toNat (l ++ [x]) = byL RN (m.take j ++ [x]))
    (b3 : Wb.heap[w.heap.size]? = some (.cells #[.int .i64 n] 3 (0, 0))) (b7 : Wb.heap[w.heap.size + 2]? = some (.cells #[.int .i64 n, .int .i64 R] 92 (0, 0))) (hbb : Below w.heap.size w Wb) (hB1 : w.heap.size + 2 < Bb)
    (hby : ByAt w.heap.size W' Bb vs' ((byL RN (m.take j)).set x.f0.toNat (l ++ [x]))) (hbel : Below w.heap.size Wb W') (hoth : Oth Bb Wb W') (hrest : ∀ b, (∀ cs t fr, Wb.heap[b]? ≠ some (.cells cs t fr)) → b < Wb.heap.size → W'.heap[b]? = Wb.heap[b]?) :
    CkL n R RN m w Bb Bm (j + 1) vs' W' := by
  have et : m.take (j + 1) = m.take j ++ [x] := by rw [List.take_succ_eq_append_getElem hj, hx]
  refine ⟨okPre_succ hpre hj (by rw [← hx]; exact hok), ?_, ?_, hoth _ _ _ (by omega) (by decide) b3, hoth _ _ _ (by omega) (by decide) b7, hbb.trans hbel⟩
  · rw [et]
    have e : busyL (m.take j ++ [x]) = busyL (m.take j) ++ [(x.f0, x.f1)] ++ [(x.f0, x.f2)] := by simp [busyL, keysB]
    rw [e]
    exact hset.of_heap (hrest _ hset.not_cells hset.lt)
  · rw [et, ← hsn]
    exact hby

theorem check_bad {n k RR : Int} {m : List S36} (hok : okNK n k) (hR : (roundsF n k).1 = RR) (h : ¬ okPre n RR m m.length) : checkF n k m = 200 := by
  unfold checkF
  rw [if_pos hok, if_neg]
  rintro ⟨h1, _⟩
  rw [hR] at h1
  exact h h1

theorem below_grow {w W : World} (h : Below w.heap.size w W) (os : Array Obj) : Below w.heap.size w (grow W os) :=
  h.trans ⟨rfl, rfl, rfl, by simp, fun i hi => heap_grow_old W os (Nat.lt_of_lt_of_le hi h.size)⟩
theorem two_new (W : World) (o1 o2 : Obj) : ((W.alloc o1).alloc o2).heap[W.heap.size]? = some o1 ∧ ((W.alloc o1).alloc o2).heap[W.heap.size + 1]? = some o2 ∧ Below W.heap.size W ((W.alloc o1).alloc o2).drew := by
  refine ⟨?_, ?_, (((Below.refl _ W).alloc (Nat.le_refl _) _).alloc (by simp) _).drew⟩
  · exact (Below.heap_alloc _ _ _ (by simp)).trans (World.alloc_heap_new W _)
  · have := World.alloc_heap_new (W.alloc o1) o2
    simpa using this

theorem in_grown (n : Int) (B : Nat) (w : World) (hB : w.cell? ⟨B, 0, none⟩ = some (.int .i64 n)) (hlt : B < w.heap.size) (x : Int) (q : Nat) (os : Array Obj) :
    Calls Try.prog 49 #[.int .i64 x, .pointer (some ⟨B, 0, none⟩)] (grow (w.drewN q) os) fun e w' => e = .returned (.bool (decide (0 ≤ x ∧ x < n))) ∧ ∃ q' os', w' = grow ((grow (w.drewN q) os).drewN q') os' := by
  refine (in_calls n x B _ ?_).mono fun e w' h => ⟨h.1, 0, #[], by rw [grow_empty]; exact h.2⟩
  rw [cell?_grow _ _ _ (by simpa using hlt)]
  exact hB
theorem nn_bound {n : Int} (h1 : 2 ≤ n) (h2 : n ≤ 20) : 0 ≤ n * (n - 1) ∧ n * (n - 1) ≤ 380 := by
  refine ⟨Int.mul_nonneg (by omega) (by omega), ?_⟩
  have : n * (n - 1) ≤ 20 * 19 := Int.mul_le_mul h2 (by omega) (by omega) (by omega)
  omega

theorem check_end {n k : Int} {m : List S36} {r : Nat} (hok : okNK n k) (hr : rds n = (r : Int)) (hp : okPre n (roundsF n k).1 m m.length) (hnd : (metL n k m r).Nodup) (htw : ∀ r' : Nat, r' < r → twin n k m r') :
    (((metL n k m r).length : Int) = n * (n - 1) / 2 → checkF n k m = 0) ∧ (¬ ((metL n k m r).length : Int) = n * (n - 1) / 2 → checkF n k m = 200) := by
  have e : (rds n).toNat = r := by omega
  constructor
  · intro h
    unfold checkF
    rw [if_pos hok, if_pos]
    refine ⟨hp, by rw [e]; exact hnd, fun r' h' => htw r' (by omega), by rw [e]; exact h⟩
  · intro h
    unfold checkF
    rw [if_pos hok, if_neg]
    rintro ⟨_, _, _, h4⟩
    rw [e] at h4
    exact h h4
theorem made_nil (N : Nat) : (madeCells (Value.slice none 0 0).cells (N * 1)).toList = (List.replicate N (Value.slice none 0 0)).toArray.toList := by
  rw [List.toList_toArray]
  refine List.eq_replicate_iff.2 ⟨by simp [madeCells], ?_⟩
  intro b hb
  unfold madeCells at hb
  rw [Array.toList_map] at hb
  obtain ⟨i, _, rfl⟩ := List.mem_map.1 hb
  have e : (Value.slice none 0 0).cells = #[Value.slice none 0 0] := rfl
  rw [e]
  simp [Nat.mod_one]
end Go.Proofs.Ytihmfpefmmdecaa.All
