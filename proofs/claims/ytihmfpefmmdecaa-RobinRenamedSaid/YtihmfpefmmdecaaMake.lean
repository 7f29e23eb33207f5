/- Contract of robin.Make: what it makes, up to the order of what it adds, and in order. -/
import Derived.Test.YtihmfpefmmdecaaMakeDefs
import Derived.Maps.OwnIn
namespace Go.Proofs.Ytihmfpefmmdecaa.All
open Go.RowKit Go.Proofs Go.Sort Go.Proofs.YtihmfpefmmdecaaW.PrintWords Go.Proofs.YtihmfpefmmdecaaW.PrintLast
attribute [local go_sem] Oper.semAt_some

set_option maxRecDepth 100000 in
set_option maxHeartbeats 4000000 in
theorem make_no (n k : Int) (w : World) (h : ¬ okNK n k) (hn : -9223372036854775808 ≤ n) (hn' : n ≤ 9223372036854775807) :
    Calls Try.prog 18 #[.int .i64 n, .int .i64 k] w fun e w' => e = .returned (.tuple #[.slice none 0 0, .int .i64 1]) ∧ Below w.heap.size w w' := by
  have ho := of_no n k ((w.alloc (.cells #[.int .i64 k] 3)).alloc (.cells #[.slice none 0 0] 22)) h hn hn'
  have F := Lib.hid ho
  clear ho h
  go_enter Try.func18, Try.ntmps18
  go_wp2_with fail
  refine F.out.mono ?_
  rintro e w1 ⟨r, rfl, rfl⟩
  go_wp2_with fail
  exact bodyPost_ret (v := .tuple #[.slice none 0 0, .int .i64 1]) (by simp [results, Try.results18, go_sem]) rfl ⟨rfl, ((((Below.refl _ w).alloc (Nat.le_refl _) _).alloc (by simp) _).alloc (by simp; omega) _).alloc (by simp; omega) _⟩

theorem boxed_one {W : World} {B : Nat} {t : TypeId} {u v : Value} (h : Boxed W B t u) (h' : Boxed W B t v) : u = v := by
  have a := h.cell
  rw [h'.cell] at a
  exact (Option.some.inj a).symm

def RowAt (n0 B4 : Nat) (W : World) (v : Value) (zs : List S36) : Prop := Boxed W B4 22 v ∧ W.ownsRow n0 36 3 v zs.length (flatM zs)
def ApartR (x v : Value) : Prop := ∀ g, x.ownBlock = some g → v.ownBlock ≠ some g

theorem apart_row {w : World} {base k : Nat} {x v : Value} {xs : List Value} (h : ApartR x v) (_ho : w.ownsRow base 36 3 x k xs) : x.ownBlock = none ∨ x.ownBlock ≠ v.ownBlock := by
  rcases hx : x.ownBlock with _ | g
  · exact .inl rfl
  · exact .inr fun e => h g hx e.symm

theorem keeps_below {B : Nat} {W W' : World} (h : Below W.heap.size W W') : KeepsFrom B W W' := KeepsFrom.of_grownBy (row := none) ⟨h.os, h.tape, h.output, h.size, fun i hi _ => h.block i hi⟩ (fun _ e => by cases e)

/-- Boxes of other types than the row's own stay as they lie, but for one. -/
def Oth (B4 : Nat) (X Y : World) : Prop := ∀ (b : Nat) (cs : Array Value) (t : TypeId), b ≠ B4 → t ≠ 36 → X.heap[b]? = some (.cells cs t (0, 0)) → Y.heap[b]? = some (.cells cs t (0, 0))
theorem Oth.refl (B4 : Nat) (X : World) : Oth B4 X X := fun _ _ _ _ _ h => h
theorem Oth.trans {B4 : Nat} {X Y Z : World} (h : Oth B4 X Y) (k : Oth B4 Y Z) : Oth B4 X Z := fun b cs t h1 h2 h3 => k b cs t h1 h2 (h b cs t h1 h2 h3)
theorem Oth.of_below {B4 : Nat} {X Y : World} (h : Below X.heap.size X Y) : Oth B4 X Y := fun b _ _ _ _ h3 => (h.block b (Array.getElem?_eq_some_iff.1 h3).1).trans h3

theorem row_step {wr Wm w1 : World} {n0 B4 k m : Nat} {v v' xv : Value} {ys ms : List S36} {cells news : List Value} (hr : RowAt n0 B4 wr v ys) (hn0 : n0 ≤ wr.heap.size) (hB : n0 ≤ B4) (ha : ApartR xv v) (hx : wr.ownsRow 0 36 3 xv k cells)
    (hm : Below wr.heap.size wr Wm) (hown' : w1.ownsRow n0 36 3 v' (ys.length + m) (flatM ys ++ news)) (hms : ms.length = m) (hnews : news = flatM ms) (hgrow : Wm.grownBy w1 v.ownBlock) (hat : v'.ownBlock = v.ownBlock ∨ v'.ownBlock = some Wm.heap.size) :
    Boxed w1 B4 22 v ∧ RowAt n0 B4 (w1.setCell ⟨B4, 0, none⟩ v') v' (ys ++ ms) ∧ ApartR xv v' ∧ (w1.setCell ⟨B4, 0, none⟩ v').ownsRow 0 36 3 xv k cells ∧ Below n0 wr (w1.setCell ⟨B4, 0, none⟩ v') ∧ KeepsFrom n0 wr (w1.setCell ⟨B4, 0, none⟩ v') ∧ Oth B4 wr (w1.setCell ⟨B4, 0, none⟩ v') := by
  obtain ⟨hb, ho⟩ := hr
  subst hms hnews
  have gm : wr.grownBy Wm none := ⟨hm.os, hm.tape, hm.output, hm.size, fun i hi _ => hm.block i hi⟩
  have hbm : Boxed Wm B4 22 v := hb.kept gm (by simp)
  have hom : Wm.ownsRow n0 36 3 v ys.length (flatM ys) := ho.kept gm (by by_cases e : v.ownBlock = none; exact .inl e; exact .inr e)
  have hxm : Wm.ownsRow 0 36 3 xv k cells := hx.kept gm (by by_cases e : xv.ownBlock = none; exact .inl e; exact .inr e)
  have hb1 : Boxed w1 B4 22 v := hbm.kept hgrow (hbm.not_row (by decide) hom)
  have hx1 : w1.ownsRow 0 36 3 xv k cells := hxm.kept hgrow (apart_row ha hx)
  have hlt : ∀ g, xv.ownBlock = some g → g < wr.heap.size := by
    intro g hg
    rcases hx.2 with ⟨rfl, _⟩ | ⟨g', cap, cur, rfl, _, h3, _⟩
    · simp [Value.ownBlock] at hg
    · simp [Value.ownBlock] at hg
      subst hg
      exact (Array.getElem?_eq_some_iff.1 h3).1
  have hn : n0 ≤ Wm.heap.size := Nat.le_trans hn0 hm.size
  have hrow : ∀ j, v.ownBlock = some j → n0 ≤ j := by
    intro g hg
    rcases ho.2 with ⟨rfl, _⟩ | ⟨g', cap, cur, rfl, h2, h3, _⟩
    · simp [Value.ownBlock] at hg
    · simp [Value.ownBlock] at hg
      omega
  have hoth : Oth B4 wr (w1.setCell ⟨B4, 0, none⟩ v') := by
    intro b cs t hb4 ht h
    have hbm2 := (Oth.of_below (B4 := B4) hm) b cs t hb4 ht h
    refine (Below.heap_setCell _ _ _ _ hb4).trans ((hgrow.block b (Array.getElem?_eq_some_iff.1 hbm2).1 fun e => ?_).trans hbm2)
    rcases hom.2 with ⟨rfl, _⟩ | ⟨g, cap, cur, rfl, _, hgb, _⟩
    · simp [Value.ownBlock] at e
    · simp [Value.ownBlock] at e
      subst e
      rw [hgb] at hbm2
      cases hbm2
      exact ht rfl
  refine ⟨hb1, ⟨hb1.set v', ?_⟩, ?_, ?_, ?_, ?_, hoth⟩
  · rw [flatM, List.flatMap_append, List.length_append]
    exact hown'.kept (grownBy_setCell' w1 B4 v') (.inr (hb1.not_row (by decide) hown').symm)
  · intro g hg e
    rcases hat with h | h
    · exact ha g hg (h.symm.trans e)
    · rw [h] at e
      cases e
      have := hlt _ hg
      have := hm.size
      omega
  · exact hx1.kept (grownBy_setCell' w1 B4 v') (.inr (hb1.not_row (by decide) hx1).symm)
  · exact (((hm.mono hn0).grown hgrow hn hrow).setCell hB v')
  · refine (keeps_below hm).trans (((KeepsOthers.of_grownBy hgrow fun j o ej hj => ?_).trans (KeepsOthers.setCell _ _ _)).from _)
    rcases hom.2 with ⟨rfl, _⟩ | ⟨g, cap, cur, rfl, _, hgb, _⟩
    · simp [Value.ownBlock] at ej
    · simp [Value.ownBlock] at ej
      subst ej
      rw [hgb] at hj
      cases hj
      rfl

theorem owns_grown {W W' : World} {base k : Nat} {v : Value} {row : Option Nat} {xs : List Value} (h : W.ownsRow base 36 3 v k xs) (hg : W.grownBy W' row) (hr : ∀ r, row = some r → ∃ o : Obj, W.heap[r]? = some o ∧ o.isCells = false) : W'.ownsRow base 36 3 v k xs := by
  refine ⟨h.1, ?_⟩
  rcases h.2 with hn | ⟨g, cap, cur, h2, h3, h4, h5⟩
  · exact .inl hn
  · exact .inr ⟨g, cap, cur, h2, h3, cells_kept h4 hg hr, h5⟩

theorem boxed_grown {W W' : World} {B t : Nat} {v : Value} {row : Option Nat} (h : Boxed W B t v) (hg : W.grownBy W' row) (hr : ∀ r, row = some r → ∃ o : Obj, W.heap[r]? = some o ∧ o.isCells = false) : Boxed W' B t v := cells_kept h hg hr

theorem reads_at {w : World} {base cap : Nat} {A : Option Addr} {zs : List S36} (h : w.ownsRow base 36 3 (.slice A zs.length cap) zs.length (flatM zs)) : Kd.C k36 w A zs.length zs := by
  obtain ⟨A', c, e, _, hc⟩ := reads_own h
  cases e
  exact hc

theorem take_map_snocR (f : S36 → S36) (zs : List S36) {k : Nat} (hk : k < zs.length) : (zs.take (k + 1)).map f = (zs.take k).map f ++ [f (rd_T36 zs k)] := by
  rw [take_snocM zs hk, List.map_append]
  rfl

/-! ### an append inside a region that draws, in a round -/
theorem wpIn_at_zero {F : Fence} {n : Nat} {P : Program} {o : Oper} {l : List Oper} {h : 0 < (o :: l).toArray.size} {a : Act} {w : World} {K : Act → World → Prop} {Q : Exit → Act → World → Prop} : Oper.wpIn F n P ((o :: l).toArray[0]'h) a w K Q = Oper.wpIn F n P o a w K Q := rfl
theorem wpIn_at_succ {F : Fence} {n : Nat} {P : Program} {o : Oper} {l : List Oper} {k : Nat} {h : k + 1 < (o :: l).toArray.size} {a : Act} {w : World} {K : Act → World → Prop} {Q : Exit → Act → World → Prop} : Oper.wpIn F n P ((o :: l).toArray[k + 1]'h) a w K Q = Oper.wpIn F n P (l.toArray[k]'(by simpa using h)) a w K Q := rfl
/-- 'Oper.wpIn' at an append, under a name that the walk does not lay open. -/
def AppGoal (F : Fence) (n : Nat) (P : Program) (d : Option Tmp) (s x : Operand) (t ty : TypeId) (pos : String) (af : Array Edge) (a : Act) (w : World) (K : Act → World → Prop) (Q : Exit → Act → World → Prop) : Prop :=
  Oper.wpIn F n P { dst := d, op := Op.call { callee := Callee.builtin Builtin.append, args := #[s, x], argTypes := #[t, t] }, type := ty, pos := pos, after := af, guard := none } a w K Q
theorem app_opaque {F : Fence} {n : Nat} {P : Program} {d : Option Tmp} {s x : Operand} {t ty : TypeId} {pos : String} {af : Array Edge} {a : Act} {w : World} {K : Act → World → Prop} {Q : Exit → Act → World → Prop} :
    Oper.wpIn F n P { dst := d, op := Op.call { callee := Callee.builtin Builtin.append, args := #[s, x], argTypes := #[t, t] }, type := ty, pos := pos, after := af, guard := none } a w K Q = AppGoal F n P d s x t ty pos af a w K Q := rfl
theorem app_law {F : Fence} {nF : Nat} {P : Program} {d : Option Tmp} {s x : Operand} {t ty : TypeId} {pos : String} {af : Array Edge} {a : Act} {w : World} {K : Act → World → Prop} {Q : Exit → Act → World → Prop}
    (base : Nat) (e : TypeId) (i : TypeInfo) (z : Value) (size bytes : Nat) (ht : P.underlying t = some (.slice e)) (hi : P.info? e = some i) (hz : i.zero = some z)
    (hsize : i.size = size) (hby : i.bytes = bytes) (hzs : z.cells.size = size) (hsz : 0 < size)
    (v : Value) (n : Nat) (xs : List Value) (hs : a.eval s = v) (hown : w.ownsRow base e size v n xs)
    (ad : Addr) (m c : Nat) (news : List Value) (hx : a.eval x = .slice (some ad) m c) (hl : news.length = m * size) (hnews : ∀ j u, news[j]? = some u → w.cell? (ad.add j) = some u) (h1 : ∀ u ∈ news, u.oneCell' = true)
    (h63 : n + m ≤ maxLen) (hbytes : (n + m) * bytes ≤ 140737488355328) (hbase : base ≤ w.heap.size)
    (h : ∀ v' w', w'.ownsRow base e size v' (n + m) (xs ++ news) → w.grownBy w' v.ownBlock → (v'.ownBlock = v.ownBlock ∨ v'.ownBlock = some w.heap.size) → K (a.put d v') w') :
    AppGoal F nF P d s x t ty pos af a w K Q := by
  obtain ⟨v', w', hr, h2, h3, h4, h5⟩ := run_append_own_at (P := P) w base t ty e i z size bytes ht hi hz hsize hby hzs hsz v n xs hown ad m c news hl hnews h1 h63 hbytes hbase
  unfold AppGoal Oper.wpIn
  refine ⟨by simp [Oper.about, resolve, Target.leads, Sem.run_pure], ?_⟩
  rw [Oper.semAt_plain F _ _ (by intro c hc'; cases hc')]
  simp [execOp, resolve, invoke, builtin, hs, hx, hr, Result.andThen]
  exact h v' w' h2 h3 h5

theorem owns_cells {w : World} {base g n cap : Nat} {xs : List Value} (h : w.ownsRow base 36 3 (.slice (some ⟨g, 0, none⟩) n cap) n xs) : ∀ j u, xs[j]? = some u → w.cell? (({ block := g, off := 0, spot := none } : Addr).add j) = some u := by
  intro j u hj
  rcases h.2 with ⟨h, _⟩ | ⟨g', cap', cur, e, _, h3, _, _, _, h7⟩
  · cases h
  · cases e
    rw [add_plain]
    unfold World.cell?
    rw [← h7, List.getElem?_take] at hj
    rw [h3]
    split at hj
    · simpa using hj
    · cases hj
theorem flat_one {ys : List S36} : ∀ u ∈ flatM ys, u.oneCell' = true := by
  intro u hu
  obtain ⟨y, _, hy⟩ := List.mem_flatMap.1 hu
  exact mcells_one y u hy
theorem flat_len {ys : List S36} : (flatM ys).length = ys.length * 3 := by
  induction ys with
  | nil => rfl
  | cons y ys ih => rw [flatM, List.flatMap_cons, List.length_append]; unfold flatM at ih; rw [ih]; simp [mcells]; omega
theorem circleL_pos (n r : Int) (h1 : 2 ≤ n) (h2 : n ≤ 20) : 1 ≤ (circleL n r).length := by
  unfold circleL partL headL
  by_cases h : n % 2 = 0
  · simp [h]
  · have : 3 ≤ n := by omega
    rw [if_neg h]
    simp
    unfold rds
    omega

/-- What the loop of Make keeps. -/
def MkI (n k R : Int) (w W5 : World) (pre : List Rnd) (W : World) : Prop := ∃ v zs, RowAt w.heap.size (w.heap.size + 1) W v zs ∧ zs.Perm (rawOf n k pre) ∧ Boxed W w.heap.size 3 (.int .i64 k) ∧ W.heap[w.heap.size + 3]? = some (.cells #[.int .i64 n, .int .i64 R] 92 (0, 0)) ∧ W.heap[w.heap.size + 4]? = some (.cells #[.int .i64 n, .int .i64 R] 92 (0, 0)) ∧ Below w.heap.size W5 W
theorem mkI_own (n k R : Int) (w W5 : World) (B : Nat) (hB : w.heap.size ≤ B) (h5 : w.heap.size ≤ W5.heap.size) : OwnFrom B (MkI n k R w W5) := by
  rintro s W W' row ⟨v, zs, ⟨hb, ho⟩, hp, h3, h4, h5', hbel⟩ hg hr
  have hr2 := fun r e => (hr r e).2
  exact ⟨v, zs, ⟨boxed_grown hb hg hr2, owns_grown ho hg hr2⟩, hp, boxed_grown h3 hg hr2, cells_kept h4 hg hr2, cells_kept h5' hg hr2, hbel.grown hg (Nat.le_trans h5 hbel.size) (fun j e => Nat.le_trans hB (hr j e).1)⟩

attribute [local go_sem ↓] wpIn_at_zero wpIn_at_succ app_opaque
theorem mk_end {n k R : Int} {w W5 W W2 W' : World} {B : Nat} {v : Value} {zs : List S36} {pre : List Rnd} (hBw : w.heap.size ≤ B) (hr : RowAt w.heap.size (w.heap.size + 1) W' v zs) (hp : zs.Perm (rawOf n k pre)) (b0 : Boxed W w.heap.size 3 (.int .i64 k)) (b3 : W.heap[w.heap.size + 3]? = some (.cells #[.int .i64 n, .int .i64 R] 92 (0, 0)))
    (b4 : W.heap[w.heap.size + 4]? = some (.cells #[.int .i64 n, .int .i64 R] 92 (0, 0))) (h5 : Below w.heap.size W5 W) (h2 : Below W.heap.size W W2) (hb : Below w.heap.size W2 W') (hk : KeepsFrom w.heap.size W2 W') (ho : Oth (w.heap.size + 1) W2 W') :
    KeepsFrom B W W' ∧ KB (w.heap.size + 4) W W' ∧ MkI n k R w W5 pre W' := by
  have ho2 := (Oth.of_below (B4 := w.heap.size + 1) h2).trans ho
  have q0 : W'.heap[w.heap.size]? = some (.cells #[.int .i64 k] 3 (0, 0)) := ho2 _ _ _ (by omega) (by decide) b0
  have q3 := ho2 _ _ _ (by omega) (by decide) b3
  have q4 := ho2 _ _ _ (by omega) (by decide) b4
  have lt4 : w.heap.size + 4 < W.heap.size := (Array.getElem?_eq_some_iff.1 b4).1
  have hk2 := (keeps_below (B := w.heap.size) h2).trans hk
  exact ⟨⟨hk2.size, fun i o hi h3 h4 => hk2.same i o (by omega) h3 h4⟩, ⟨hk2.size, fun _ => q4.trans b4.symm⟩, v, zs, hr, hp, q0, q3, q4, h5.trans ((h2.mono (by omega)).trans hb)⟩

set_option maxRecDepth 100000 in
set_option maxHeartbeats 8000000 in
theorem make_yes (n k : Int) (w : World) (h : okNK n k) :
    Calls Try.prog 18 #[.int .i64 n, .int .i64 k] w fun e w' => ∃ v ys, e = .returned (.tuple #[v, .int .i64 0]) ∧ ys.Perm (rawL n k) ∧ ys.Pairwise mLe ∧ w'.ownsRow w.heap.size 36 3 v ys.length (flatM ys) ∧ Below w.heap.size w w' := by
  have ho := of_yes n k ((w.alloc (.cells #[.int .i64 k] 3)).alloc (.cells #[.slice none 0 0] 22)) h
  obtain ⟨h1, h2, h3, h4⟩ := h
  have F := Lib.hid ho
  clear ho
  refine (callsIn_wide (n := 9)).1 ?_
  refine callsIn_of_wp_marks Try.func18 rfl trivial ?_ rfl
  simp only [Try.ntmps18, List.size_toArray, List.length_cons, List.length_nil, Nat.reduceAdd, Nat.reduceSub, Array.replicate_succ, Array.replicate_zero, List.push_toArray, List.append_toArray, List.nil_append, List.cons_append]
  gi_wp2_with fail
  refine ⟨trivial, callsIn_wide.2 (F.out.mono ?_)⟩
  rintro e w1 ⟨rfl, rfl⟩
  clear F
  generalize hR : rds n = R
  have HR := Lib.hid hR
  clear hR
  gi_wp2_with fail
  refine ⟨trivial, callsIn_wide.2 ((all_calls n R _).mono ?_)⟩
  rintro e w1 ⟨rfl, rfl⟩
  gi_wp2_with fail
  obtain ⟨W5, hW5⟩ : ∃ W5, ((((w.alloc (Obj.cells #[Value.int IntKind.i64 k] 3)).alloc (Obj.cells #[Value.slice none 0 0] 22)).alloc (Obj.cells #[Value.int IntKind.i64 n, Value.int IntKind.i64 R] 92)).alloc (Obj.cells #[Value.int IntKind.i64 n, Value.int IntKind.i64 R] 92)).alloc (Obj.cells #[Value.int IntKind.i64 n, Value.int IntKind.i64 R] 92) = W5 := ⟨_, rfl⟩
  have hb5 : Below w.heap.size w W5 := by
    rw [← hW5]
    exact (((((Below.refl _ w).alloc (Nat.le_refl _) _).alloc (by simp) _).alloc (by simp; omega) _).alloc (by simp; omega) _).alloc (by simp; omega) _
  have hs5 : W5.heap.size = w.heap.size + 5 := by rw [← hW5]; simp
  have c0 : Boxed W5 w.heap.size 3 (.int .i64 k) := by
    rw [← hW5]
    exact ((((Boxed.new w 3 _).alloc _).alloc _).alloc _).alloc _
  have c1 : Boxed W5 (w.heap.size + 1) 22 (.slice none 0 0) := by
    have := Boxed.new (w.alloc (.cells #[.int .i64 k] 3)) 22 (.slice none 0 0)
    rw [World.size_alloc] at this
    rw [← hW5]
    exact ((this.alloc _).alloc _).alloc _
  have c3 : W5.heap[w.heap.size + 3]? = some (.cells #[.int .i64 n, .int .i64 R] 92 (0, 0)) := by
    have := World.alloc_heap_new (((w.alloc (Obj.cells #[Value.int IntKind.i64 k] 3)).alloc (Obj.cells #[Value.slice none 0 0] 22)).alloc (Obj.cells #[Value.int IntKind.i64 n, Value.int IntKind.i64 R] 92)) (Obj.cells #[Value.int IntKind.i64 n, Value.int IntKind.i64 R] 92)
    rw [← hW5]
    exact (Below.heap_alloc _ _ _ (by simp)).trans (by simpa using this)
  have c4 : W5.heap[w.heap.size + 4]? = some (.cells #[.int .i64 n, .int .i64 R] 92 (0, 0)) := by
    have := World.alloc_heap_new ((((w.alloc (Obj.cells #[Value.int IntKind.i64 k] 3)).alloc (Obj.cells #[Value.slice none 0 0] 22)).alloc (Obj.cells #[Value.int IntKind.i64 n, Value.int IntKind.i64 R] 92)).alloc (Obj.cells #[Value.int IntKind.i64 n, Value.int IntKind.i64 R] 92)) (Obj.cells #[Value.int IntKind.i64 n, Value.int IntKind.i64 R] 92)
    rw [← hW5]
    simpa using this
  rw [hW5]
  clear hW5
  have hseq := all_seq 8 (by omega) (w.heap.size + 4) n h1 h2 W5 (by omega) (by simp [World.cell?, c4]) (by rw [HR.out]; simp [World.cell?, c4])
  simp only [Nat.add_assoc, Nat.reduceAdd]
  refine Range.wp_rangeR (by omega) (gf := 92) (lb := #[.pointer (some ⟨w.heap.size + 4, 0, none⟩)]) rfl (enters_of Try.func92 (by kernel_rfl) rfl) hseq KB.trans (KB.put (by omega)) (Below.refl _ _) (fun _ => rfl)
    (MkI n k R w W5) (fun _ _ _ => False) (mkI_own n k R w W5 _ (by omega) (by omega)) (fun _ _ _ _ _ hs _ _ => hs)
    ⟨_, [], ⟨c1, World.ownsRow_nil _ _ _ _⟩, List.Perm.refl _, c0, c3, c4, Below.refl _ _⟩
    (fun x a' W => (∃ v, Boxed W (w.heap.size + 1) 22 v ∧ ApartR x.2.1 v ∧ W.ownsRow 0 36 3 x.2.1 x.2.2.length (flatM x.2.2)) ∧ ∃ u24 u25, a' = { tmps := #[.int .i64 n, .int .i64 k, undef, .pointer (some ⟨w.heap.size, 0, none⟩), .pointer (some ⟨w.heap.size + 1, 0, none⟩), .int .i64 0, .pointer (some ⟨w.heap.size + 3, 0, none⟩), .bool true, .int .i64 x.1, x.2.1, undef, undef, undef, undef, .tuple #[.agg #[.int .i64 n, .int .i64 R], .bool true], .int .i64 n, .int .i64 k, .tuple #[.agg #[.int .i64 n, .int .i64 R], .bool true], .agg #[.int .i64 n, .int .i64 R], .bool true, .bool true, .bool false, .agg #[.int .i64 n, .int .i64 R], .func (.func 92) #[] #[.pointer (some ⟨w.heap.size + 4, 0, none⟩)], u24, u25, undef, undef, undef, undef, undef, undef, undef, undef, undef, undef, undef, undef, undef, undef, undef, undef, undef, undef, undef, undef, undef, undef, undef, undef, undef, undef, undef, undef, undef], defers := [] })
    (fun x a' _ X Y row hs hg hr => by
      obtain ⟨⟨v, h1, h2, h3⟩, h4⟩ := hs
      exact ⟨⟨v, boxed_grown h1 hg (fun r e => (hr r e).2), h2, owns_grown h3 hg (fun r e => (hr r e).2)⟩, h4⟩)
    ?assign ?body ?done ?stop
  case assign =>
    rintro l pre x W0 W K hlt ⟨v, zs, ⟨hb, ho⟩, hp, _⟩ hB0 hRd hI hSp hK
    gi_wp2
    refine hK _ _ (KeepsFrom.refl _ _) (KB.refl _ _) hI ⟨⟨v, boxed_grown hb (grown_of_below hB0 none) (fun _ e => by cases e), ?_, owns_low (Nat.zero_le _) hRd⟩, _, _, rfl⟩
    intro g hg e
    have : g < W0.heap.size := by
      rcases ho.2 with ⟨rfl, _⟩ | ⟨g', cap, cur, rfl, _, h3, _⟩
      · simp [Value.ownBlock] at e
      · simp [Value.ownBlock] at e
        subst e
        exact (Array.getElem?_eq_some_iff.1 h3).1
    rcases hRd.2 with ⟨h, _⟩ | ⟨g', cap, cur, h, h2, h3, _⟩
    · rw [h] at hg
      simp [Value.ownBlock] at hg
    · rw [h] at hg
      simp [Value.ownBlock] at hg
      omega
  case body =>
    rintro l pre x a' W hl _ ⟨v, zs, hrow, hp, b0, b3, b4, hB5⟩ ⟨⟨v', hv', hap, hox⟩, u24, u25, rfl⟩ hSp
    obtain rfl := boxed_one hrow.1 hv'
    clear hv'
    obtain ⟨j, hj, hU⟩ := hSp
    have hx0 : 0 ≤ x.1 ∧ x.1 ≤ 100 := by
      have hm : x.1 ∈ (pre ++ [x]).map (·.1) := by simp
      rw [hU.1] at hm
      obtain ⟨i, hi, e⟩ := List.mem_map.1 hm
      have := List.mem_range.1 hi
      have := rds_le n h1 h2
      omega
    have hxl : x.2.2.length ≤ 10 := by
      have := (hU.2 x (by simp)).1.length_eq
      have := circleL_len n x.1 h1 h2
      omega
    have hx1 : 1 ≤ x.2.2.length := by
      have := (hU.2 x (by simp)).1.length_eq
      have := circleL_pos n x.1 h1 h2
      omega
    have hzl : zs.length ≤ 380 := by
      have := hp.length_eq
      have := rawOf_len (k := k) h1 h2 pre (fun y hy => hU.2 y (by simp [hy]))
      have hr := rds_le n h1 h2
      have hu := upTo_len hU
      rw [List.length_append, List.length_cons, List.length_nil] at hu
      omega
    clear hU
    have d0 : W.cell? ⟨w.heap.size + 3, 0, none⟩ = some (.int .i64 n) := by simp [World.cell?, b3]
    have d1 : W.cell? ⟨w.heap.size + 3, 1, none⟩ = some (.int .i64 R) := by simp [World.cell?, b3]
    have d2 := b0.cell
    have hpc := pair_calls n k x.1 W hx0.1 hx0.2 h1 h2
    rw [HR.out] at hpc
    obtain ⟨ra, hra⟩ : ∃ ra, (pairF n k x.1).1 = ra := ⟨_, rfl⟩
    obtain ⟨rb, hrb⟩ : ∃ rb, (pairF n k x.1).2 = rb := ⟨_, rfl⟩
    rw [hra, hrb] at hpc
    have F := Lib.hid (And.intro hpc (And.intro hra (And.intro hrb (And.intro hrow (And.intro hp (And.intro b0 (And.intro b3 (And.intro hB5 (And.intro hap (And.intro hox b4))))))))))
    clear hpc hra hrb hrow hp b0 b3 b4 hB5 hap hox hj hseq c0 c1 c3 c4 hb5
    gi_wp2_with fail
    refine ⟨trivial, CallsIn.inRound l (callsIn_wide.2 (F.out.1.mono ?_))⟩
    rintro e W2 ⟨rfl, q, rfl⟩
    obtain ⟨-, hra, hrb, hrow, hp, b0, b3, hB5, hap, hox, b4⟩ := F.out
    clear F
    generalize hW2 : (W.alloc (.cells #[.int .i64 n, .int .i64 R] 92)).drewN q = W2
    have hBW : Below W.heap.size W W2 := by
      rw [← hW2]
      exact pw_below_drewN ((Below.refl _ W).alloc (Nat.le_refl _) _) q
    clear hW2
    have gW : W.grownBy W2 none := grown_of_below hBW none
    have hrow2 : RowAt w.heap.size (w.heap.size + 1) W2 v zs := ⟨boxed_grown hrow.1 gW (fun _ e => by cases e), owns_grown hrow.2 gW (fun _ e => by cases e)⟩
    have hox2 := owns_grown hox gW (fun _ e => by cases e)
    obtain ⟨A, cap, hxv, hcap, hxc⟩ := reads_own hox2
    have F := Lib.hid (And.intro hra (And.intro hrb (And.intro hrow2 (And.intro hp (And.intro b0 (And.intro b3 (And.intro hB5 (And.intro hap (And.intro hox2 (And.intro hBW (And.intro hxc b4)))))))))))
    clear hra hrb hrow hrow2 hp b0 b3 b4 hB5 hap hox hox2 hBW hxc gW d0 d1 d2 hcap
    rw [hxv]
    gi_wp2_with fail
    gi_loopw [35] (fun i wr => ∃ j : Nat, j ≤ x.2.2.length ∧ i = .int .i64 j ∧ ∃ v, RowAt w.heap.size (w.heap.size + 1) wr v (zs ++ (x.2.2.take j).map (setR ra)) ∧ ApartR x.2.1 v ∧ wr.ownsRow 0 36 3 x.2.1 x.2.2.length (flatM x.2.2) ∧ Below w.heap.size W2 wr ∧ KeepsFrom w.heap.size W2 wr ∧ Oth (w.heap.size + 1) W2 wr)
      (fun i _ => x.2.2.length - (intOf i).toNat)
    case atStart => exact ⟨0, Nat.zero_le _, rfl, v, by simpa using F.out.2.2.1, F.out.2.2.2.2.2.2.2.1, F.out.2.2.2.2.2.2.2.2.1, Below.refl _ _, KeepsFrom.refl _ _, Oth.refl _ _⟩
    case round =>
      obtain ⟨i, hi, rfl, v2, hrow, hap, hox, hbel, hkf, hoth⟩ := hrel
      by_cases hlt : i < x.2.2.length
      · obtain ⟨ad, e, e0, e1, e2⟩ := at_T36 (reads_at (by rw [← hxv]; exact hox)) i (by omega) (by omega)
        simp only [Int.toNat_natCast] at e0 e1 e2
        subst e
        obtain ⟨i0, hi0, hz0, hz1, hz2⟩ := info_parts info36
        have cv := hrow.1.cell
        have hn0 : w.heap.size ≤ wr.heap.size := by
          have := F.out.2.2.2.2.2.2.1.size
          have := F.out.2.2.2.2.2.2.2.2.2.1.size
          have := hbel.size
          omega
        have hll : (zs ++ (x.2.2.take i).map (setR ra)).length ≤ 400 := by rw [List.length_append, List.length_map, List.length_take]; omega
        have hsn := take_map_snocR (setR ra) x.2.2 hlt
        obtain ⟨ys, hys⟩ : ∃ ys, zs ++ (x.2.2.take i).map (setR ra) = ys := ⟨_, rfl⟩
        have hsn2 : zs ++ (x.2.2.take (i + 1)).map (setR ra) = ys ++ [setR ra (rd_T36 x.2.2 i)] := by rw [hsn, ← hys, List.append_assoc]
        have HS := Lib.hid hsn2
        rw [hys] at hrow hll
        clear hsn hsn2 hys
        have hro := hrow.2
        have hB1 := hrow.1.lt
        have G := Lib.hid (And.intro hrow (And.intro hap (And.intro hox (And.intro hbel (And.intro hkf hoth)))))
        clear hrow hap hox hbel hkf hoth
        gi_wp2_with (gi_at_builtin; refine wpListIn_append_own_at _ rfl _ _ 22 rfl w.heap.size 36 i0 (.agg #[.int .i64 0, .int .i64 0, .int .i64 0]) 3 24 Try.underlying22 hi0 hz0 hz1 hz2 rfl (by decide) _ _ _ rfl ((hro.alloc _).alloc _) ⟨wr.heap.size + 1, 0, none⟩ 1 1 (mcells (setR ra (rd_T36 x.2.2 i))) rfl rfl ?c1 ?c2 ?c3 ?c4 ?c5 ?_)
        case c1 => exact news_cells _ (mcells (setR ra (rd_T36 x.2.2 i))) 36 (by simp)
        case c2 => exact mcells_one _
        case c3 => unfold maxLen; omega
        case c4 => omega
        case c5 => simp; omega
        · intro v' w1 hown' hgrow _ hat
          have hm : Below wr.heap.size wr ((wr.alloc (Obj.cells #[Value.int IntKind.i64 ra, Value.int IntKind.i64 (rd_T36 x.2.2 i).f1, Value.int IntKind.i64 (rd_T36 x.2.2 i).f2] 36)).alloc (Obj.cells #[Value.int IntKind.i64 ra, Value.int IntKind.i64 (rd_T36 x.2.2 i).f1, Value.int IntKind.i64 (rd_T36 x.2.2 i).f2] 36)) := ((Below.refl _ wr).alloc (Nat.le_refl _) _).alloc (by simp) _
          obtain ⟨hb1, r1, r2, r3, r4, r5, r6⟩ := row_step (ms := [setR ra (rd_T36 x.2.2 i)]) G.out.1 hn0 (by omega) G.out.2.1 G.out.2.2.1 hm hown' rfl (by simp [flatM]) hgrow (by simpa using hat)
          obtain ⟨g', cap', rfl⟩ := ownsRow_succ hown'
          have q1 := hb1.cell
          have q2 := hb1.frozen
          have G2 := Lib.hid (And.intro r1 (And.intro r2 (And.intro r3 (And.intro (G.out.2.2.2.1.trans r4) (And.intro (G.out.2.2.2.2.1.trans r5) (G.out.2.2.2.2.2.trans r6))))))
          clear hm hb1 r1 r2 r3 r4 r5 r6 hown' hgrow hat G hro cv
          gi_wp2_with fail
          refine ⟨⟨i + 1, by omega, by simp, _, by rw [HS.out]; exact G2.out.1, G2.out.2.1, G2.out.2.2.1, G2.out.2.2.2.1, G2.out.2.2.2.2⟩, ?_⟩
          simp only [intOf]
          omega
      · obtain rfl : i = x.2.2.length := by omega
        rw [List.take_length] at hrow
        obtain ⟨zz, hzz⟩ : ∃ zz, zs ++ List.map (setR ra) x.2.2 = zz := ⟨_, rfl⟩
        rw [hzz] at hrow
        have hlz : zz.length ≤ 390 := by rw [← hzz, List.length_append, List.length_map]; omega
        have HZZ := Lib.hid hzz
        clear hzz
        have cv := hrow.1.cell
        have hP : stepL n k x.1 x.2.2 = x.2.2.map (setR ra) ++ if rb ≥ 0 then x.2.2.map (turnM rb) else [] := by rw [stepL, F.out.1, F.out.2.1]
        have HP := Lib.hid hP
        clear hP
        obtain ⟨i0, hi0, hz0, hz1, hz2⟩ := info_parts info36
        by_cases hbn : rb ≥ 0
        · have hbn' : (0 : Int) ≤ rb := hbn
          have htu := turned_calls cap A x.2.2 rb wr.drew (by omega) (reads_at (by rw [← hxv]; exact hox))
          have hsz : w.heap.size ≤ wr.heap.size := Nat.le_of_lt (Nat.lt_of_le_of_lt (Nat.le_succ _) hrow.1.lt)
          have G := Lib.hid (And.intro hrow (And.intro hap (And.intro hox (And.intro hbel (And.intro hkf (And.intro hoth htu))))))
          clear hrow hap hox hbel hkf hoth htu
          gi_wp2_with fail
          gi_region_with (first
            | (refine ⟨trivial, CallsIn.inRound l (callsIn_wide.2 (G.out.2.2.2.2.2.2.mono ?_))⟩
               rintro e W7 ⟨v7, y7, rfl, hl7, hp7, hs7, ho7, hb7⟩
               have hb7' : Below wr.heap.size wr W7 := (below_drew (Below.refl _ wr)).trans hb7
               have hrow7 : RowAt w.heap.size (w.heap.size + 1) W7 v2 zz := ⟨boxed_grown G.out.1.1 (grown_of_below hb7' none) (fun _ e => by cases e), owns_grown G.out.1.2 (grown_of_below hb7' none) (fun _ e => by cases e)⟩
               have cv7 := hrow7.1.cell
               obtain ⟨g7, c7, rfl⟩ : ∃ g7 c7, v7 = .slice (some ⟨g7, 0, none⟩) x.2.2.length c7 := by
                 obtain ⟨m, hm⟩ : ∃ m, x.2.2.length = m + 1 := ⟨x.2.2.length - 1, by omega⟩
                 rw [hm] at ho7 ⊢
                 exact ownsRow_succ ho7
               have G7 := Lib.hid (And.intro hl7 (And.intro hp7 (And.intro ho7 (And.intro hb7' hrow7))))
               clear hl7 hp7 hs7 ho7 hb7 hb7' hrow7)
            | (refine app_law w.heap.size 36 i0 (.agg #[.int .i64 0, .int .i64 0, .int .i64 0]) 3 24 Try.underlying22 hi0 hz0 hz1 hz2 rfl (by decide) v2 zz.length (flatM zz) (by rfl) G7.out.2.2.2.2.2 ⟨g7, 0, none⟩ x.2.2.length c7 (flatM y7) (by rfl) (by rw [flat_len, G7.out.1]) (owns_cells G7.out.2.2.1) flat_one (by unfold maxLen; omega) (by omega) (Nat.le_trans hsz G7.out.2.2.2.1.size) ?_
               intro v8 w8 hown8 hgrow8 hat8
               obtain ⟨hb8, r1, r2, r3, r4, r5, r6⟩ := row_step (ms := y7) G.out.1 hsz (by omega) G.out.2.1 G.out.2.2.1 G7.out.2.2.2.1 hown8 G7.out.1 rfl hgrow8 hat8
               obtain ⟨g8, c8, rfl⟩ : ∃ g8 c8, v8 = .slice (some ⟨g8, 0, none⟩) (zz.length + x.2.2.length) c8 := by
                 obtain ⟨m, hm⟩ : ∃ m, zz.length + x.2.2.length = m + 1 := ⟨zz.length + x.2.2.length - 1, by omega⟩
                 rw [hm] at hown8 ⊢
                 exact ownsRow_succ hown8
               have q1 := hb8.cell
               have q2 := hb8.frozen
               have G8 := Lib.hid (And.intro r1 (And.intro r2 (And.intro r3 (And.intro (G.out.2.2.2.1.trans r4) (And.intro (G.out.2.2.2.2.1.trans r5) (G.out.2.2.2.2.2.1.trans r6))))))
               clear hb8 r1 r2 r3 r4 r5 r6 hown8 hgrow8 hat8 cv7))
          all_goals (
            gi_wp2_with fail
            refine mk_end (by omega) G8.out.1 (by rw [rawOf_snoc, HP.out, if_pos hbn, ← List.append_assoc, ← HZZ.out]; exact (F.out.2.2.2.1.append (List.Perm.refl _)).append G7.out.2.1) F.out.2.2.2.2.1 F.out.2.2.2.2.2.1 F.out.2.2.2.2.2.2.2.2.2.2.2 F.out.2.2.2.2.2.2.1 F.out.2.2.2.2.2.2.2.2.2.1 G8.out.2.2.2.1 G8.out.2.2.2.2.1 G8.out.2.2.2.2.2)
        · have hbn' : rb < 0 := by omega
          have G := Lib.hid (And.intro hrow (And.intro hap (And.intro hox (And.intro hbel (And.intro hkf hoth)))))
          clear hrow hap hox hbel hkf hoth
          gi_wp2_with fail
          refine mk_end (by omega) G.out.1 (by rw [rawOf_snoc, HP.out, if_neg (show ¬ rb ≥ 0 by omega), List.append_nil, ← HZZ.out]; exact F.out.2.2.2.1.append (List.Perm.refl _)) F.out.2.2.2.2.1 F.out.2.2.2.2.2.1 F.out.2.2.2.2.2.2.2.2.2.2.2 F.out.2.2.2.2.2.2.1 F.out.2.2.2.2.2.2.2.2.2.1 G.out.2.2.2.1 G.out.2.2.2.2.1 G.out.2.2.2.2.2
  case done =>
    rintro D xs W hD ⟨j, hj, hU⟩ ⟨v, zs, hrow, hp, b0, b3, b4, hB5⟩ hK
    have hzl : zs.length ≤ 400 := by
      have := hp.length_eq
      have := rawOf_len (k := k) h1 h2 xs hU.2
      have hr := rds_le n h1 h2
      have hu := upTo_len hU
      omega
    obtain ⟨A, cap, rfl, hcap, hc⟩ := reads_own hrow.2
    have hso := sorted_calls cap A zs W (by omega) hc
    have cv := hrow.1.cell
    have F := Lib.hid (And.intro hso (And.intro (hp.trans (rawOf_upTo hU hj)) (And.intro hrow (And.intro (hb5.trans hB5) hK))))
    clear hso hp hrow b0 b3 b4 hB5 hK hU hj hc hcap hseq c0 c1 c3 c4 hb5
    gi_wp2_with fail
    refine ⟨trivial, callsIn_wide.2 (F.out.1.mono ?_)⟩
    rintro e W2 ⟨v2, ys, rfl, hl, hp2, hs2, ho2, hb2⟩
    have hb4 := boxed_grown F.out.2.2.1.1 (grown_of_below hb2 none) (fun _ e => by cases e)
    have hK2 := (hb2.block D (Array.getElem?_eq_some_iff.1 F.out.2.2.2.2).1).trans F.out.2.2.2.2
    obtain ⟨A2, cap2, rfl, _, _⟩ := reads_own (show W2.ownsRow W.heap.size 36 3 v2 ys.length (flatM ys) by rw [hl]; exact ho2)
    have q1 := hb4.cell
    have q2 := hb4.frozen
    have G := Lib.hid (And.intro hp2 (And.intro hs2 (And.intro ho2 (And.intro hb2 (And.intro hb4 hK2)))))
    clear hp2 hs2 ho2 hb2 hb4 hK2 cv
    gi_wp2_with fail
    have hlt1 : w.heap.size + 1 < W2.heap.size := G.out.2.2.2.2.1.lt
    have hK3 : (W2.setCell ⟨w.heap.size + 1, 0, none⟩ (.slice A2 zs.length cap2)).heap[D]? = some (.deferred (some [])) := (Below.heap_setCell _ _ _ _ (by show D ≠ w.heap.size + 1; omega)).trans G.out.2.2.2.2.2
    have hb5 : Boxed (W2.setCell ⟨w.heap.size + 1, 0, none⟩ (.slice A2 zs.length cap2)) (w.heap.size + 1) 22 (.slice A2 zs.length cap2) := G.out.2.2.2.2.1.set _
    refine ⟨by simp, .inl ⟨_, _, rfl, run_takeDeferred hK3, ?_⟩⟩
    have hb6 := boxed_grown hb5 (grownBy_putObj' _ D (.deferred none)) (fun r e => by cases e; exact ⟨_, hK3, rfl⟩)
    have hc6 := hb6.cell
    refine ⟨_, (by simp [results, Try.results18, go_sem, hc6]; rfl), ?_⟩
    have ho3 := (G.out.2.2.1.kept (grownBy_setCell' W2 (w.heap.size + 1) (.slice A2 zs.length cap2)) (.inr (G.out.2.2.2.2.1.not_row (by decide) G.out.2.2.1).symm))
    have ho4 := owns_low (lo := w.heap.size) F.out.2.2.2.1.size (ownsRow_putObj ho3 (.deferred none) hK3 rfl)
    refine ⟨_, ys, rfl, G.out.1.trans F.out.2.1, G.out.2.1, by rw [hl] at ho4 ⊢; exact ho4, ?_⟩
    have hbb := ((F.out.2.2.2.1.trans (G.out.2.2.2.1.mono F.out.2.2.2.1.size)).setCell (p := ⟨w.heap.size + 1, 0, none⟩) (by simp) (.slice A2 zs.length cap2))
    exact hbb.trans (belowK_b (w := w) (Nat.le_refl _) _ D _ _ (by omega) hK3 rfl rfl)
  case stop =>
    rintro D c pre W _ _ h _
    exact h.elim
end Go.Proofs.Ytihmfpefmmdecaa.All
