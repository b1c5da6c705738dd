/- astar: kinds that are not permitted; the reference's faults of a call with a kind. astar: Checked and Plan at a kind that is not permitted; KindFault. relaxplan: levels, supporters and a plan of the task without deletions, as functions; in plain Lean. slices.ContainsFunc at int with a function value that has one or two variables of its own. Printed by genHasF.py. relaxplan: the walk of levels. relaxplan: the walk of supporters. relaxplan: the walks of Plan's closures: achieve (which calls itself), and the look at the levels. No condition beyond what each theorem says. -/
import Derived.Test.YtdokakhgflljgaaGreatL9
import Derived.Test.YtdokakhgflljgaaGreatL11
import Derived.Test.YtdokakhgflljgaaGreatL12
import Derived.Test.YtdokakhgflljgaaGreatL1

namespace Go.Proofs.YtdokakhgflljgaaGreat
open Go.RowKit Go.Shelf

def admK (k : Int) : Bool := decide (k = 0 ∨ k = 1 ∨ k = 4 ∨ k = 5)
/-- The faults of a call with a kind. -/
def kindF (t : Tsk) (b : Bool) : Int × Int := if (taskFault t).1 = 0 then (if b = true then expF t else (4, -8)) else taskFault t
theorem kindF_true (t : Tsk) : kindF t true = expF t := by
  unfold kindF expF
  split <;> simp_all

theorem admissible_any (k : Int) (w : World) : Calls Tryz.prog 44 #[.int .i64 k] w fun e w' => e = .returned (.bool (admK k)) ∧ w = w' := by
  by_cases h0 : k = 0
  · subst h0
    go_enter Tryz.func44, Tryz.ntmps44
    go_wp2_with fail
    go_ret
    exact ⟨rfl, rfl⟩
  · by_cases h1 : k = 1
    · subst h1
      go_enter Tryz.func44, Tryz.ntmps44
      go_wp2_with fail
      go_ret
      exact ⟨rfl, rfl⟩
    · by_cases h4 : k = 4
      · subst h4
        go_enter Tryz.func44, Tryz.ntmps44
        go_wp2_with fail
        go_ret
        exact ⟨rfl, rfl⟩
      · by_cases h5 : k = 5
        · subst h5
          go_enter Tryz.func44, Tryz.ntmps44
          go_wp2_with fail
          go_ret
          exact ⟨rfl, rfl⟩
        · have HR := Lib.hid (show admK k = false by unfold admK; simp [h0, h1, h4, h5])
          have b0 : (k == 0) = false := by simpa using h0
          have b1 : (k == 1) = false := by simpa using h1
          have b4 : (k == 4) = false := by simpa using h4
          have b5 : (k == 5) = false := by simpa using h5
          clear h0 h1 h4 h5
          go_enter Tryz.func44, Tryz.ntmps44
          go_wp2_with fail
          go_ret
          exact ⟨congrArg (fun b => Ending.returned (Value.bool b)) HR.out.symm, rfl⟩

set_option maxRecDepth 100000 in
set_option maxHeartbeats 4000000 in
theorem value4_any (t : Tsk) (ok : t.Ok) (L : List Nat) (hL : ∀ x ∈ L, Good t.n x) : ValC t 4 L (cutsH t) := by
  intro w vi vg vo vs x h hx hs
  obtain ⟨ai, ci, h1, _⟩ := h.init.form
  obtain ⟨ag, cg, h2, _⟩ := h.goal.form
  obtain ⟨ao, co, h3, hmo⟩ := h.ops.form
  subst h1 h2 h3
  have K1 := (Keeps.refl (fun _ => False) w).alloc (.cells #[.int .i64 t.n, .slice ai t.init.length ci, .slice ag t.goal.length cg, .slice ao t.ops.length co] 25)
  have HB := Lib.hid (Four.new w (.int .i64 t.n) (.slice ai t.init.length ci) (.slice ag t.goal.length cg) (.slice ao t.ops.length co) 25)
  have HT := Lib.hid (h.keeps0 K1); have HS := Lib.hid (hs.keeps0 K1); have HK1 := Lib.hid K1
  have OK := Lib.hid ok; have HX := Lib.hid (hL x hx)
  clear h hs K1 ok hL hx
  go_enter Tryz.func59, Tryz.ntmps59
  go_upto_region 20 with fail
  generalize (w.alloc (.cells #[.int .i64 t.n, .slice ai t.init.length ci, .slice ag t.goal.length cg, .slice ao t.ops.length co] 25)) = w1 at HT HB HK1 HS ⊢
  obtain ⟨d0, d1, d2, d3⟩ := HB.out
  have hbx := HB.out.lt
  go_wp2_with fail
  refine (cuts_any _ _ _ _ _ t x HT.out OK.out HX.out HS.out).mono ?_
  rintro e w2 ⟨vx, rfl, hk⟩
  have HK2 := Lib.hid (HK1.out.trans hk)
  unfold fltV
  clear hk d0 d1 d2 d3
  go_wp2_with fail
  go_ret
  exact ⟨rfl, HK2.out.trans ((Keeps.refl (fun _ => False) w2).alloc _)⟩

/-- What Value says of a state. -/
def kindH (t : Tsk) (k : Int) : Nat → Int := if k = 1 then maxH t else if k = 2 then addH t else if k = 4 then cutsH t else if k = 5 then pairsH t else fun _ => 0
/-- What is said at the permitted kinds. -/
theorem says_kind {k : Int} (h : admK k = true) (t : Tsk) : SaysH t k (kindH t k) := fun l ok hx => by
  have hg := good_explored ok hx
  unfold admK at h
  rcases of_decide_eq_true h with rfl | rfl | rfl | rfl
  · have e : kindH t 0 = fun _ => 0 := rfl
    rw [e]
    exact ⟨value0_any t l, ⟨fun x _ => ⟨by decide, by decide⟩, fun x _ p y _ _ => ⟨(costN_bound (ops_cost ok) p).1, by decide⟩⟩⟩
  · exact ⟨value1_any t ok l hg, max_adm ok l⟩
  · exact ⟨value4_any t ok l hg, cuts_adm ok l hg⟩
  · exact ⟨value5_any t ok l hg, pairs_adm ok l hg⟩

end Go.Proofs.YtdokakhgflljgaaGreat

namespace Go.Proofs.YtdokakhgflljgaaGreat
open Go.RowKit Go.Shelf

theorem opsFault_at (n : Int) : ∀ (os : List Opr) (k : Int), 0 ≤ k → (opsFault n k os).1 ≠ 0 → (opsFault n k os).2 ≠ -7
  | [], k, _, h => absurd rfl h
  | o :: r, k, hk, h => by
    unfold opsFault at h ⊢
    split
    · exact opsFault_at n r (k + 1) (by omega) (by rename_i he; rw [if_pos he] at h; exact h)
    · simp only; omega
theorem taskFault_at7 {t : Tsk} (h : (taskFault t).1 ≠ 0) : (taskFault t).2 ≠ -7 := by
  unfold taskFault at h ⊢
  split
  · decide
  · split
    · decide
    · split
      · decide
      · split
        · decide
        · rename_i a b c d
          rw [if_neg a, if_neg b, if_neg c, if_neg d] at h
          exact opsFault_at _ _ _ (Int.le_refl _) h

def NoPost (t : Tsk) (w : World) (e : Ending) (w' : World) : Prop := ∃ pv lv c i, e = .returned (.tuple #[.pointer pv, lv, .agg #[.int .i64 c, .int .i64 i]]) ∧ (c, i) = kindF t false ∧ c ≠ 0 ∧ Keeps (fun _ => False) w w'

set_option maxRecDepth 100000 in
set_option maxHeartbeats 2000000 in
theorem acheckNo_any (w : World) (vi vg vo : Value) (t : Tsk) (h : TaskAt w vi vg vo t) :
    Calls Tryz.prog 29 #[.agg #[.int .i64 t.n, vi, vg, vo], .bool false] w (NoPost t w) := by
  obtain ⟨ai, ci, h1, _⟩ := h.init.form
  obtain ⟨ag, cg, h2, _⟩ := h.goal.form
  obtain ⟨ao, co, h3, hmo⟩ := h.ops.form
  subst h1 h2 h3
  have K1 := (Keeps.refl (fun _ => False) w).alloc (.cells #[.int .i64 t.n, .slice ai t.init.length ci, .slice ag t.goal.length cg, .slice ao t.ops.length co] 25)
  have HT := h.keeps0 (K1.alloc (.cells #[.int .i64 0, .int .i64 0] 31))
  have HB := (Four.new w (.int .i64 t.n) (.slice ai t.init.length ci) (.slice ag t.goal.length cg) (.slice ao t.ops.length co) 25).keeps0 ((Keeps.refl _ _).alloc (.cells #[.int .i64 0, .int .i64 0] 31))
  have HF : Flt w ((w.alloc (.cells #[.int .i64 t.n, .slice ai t.init.length ci, .slice ag t.goal.length cg, .slice ao t.ops.length co] 25)).alloc (.cells #[.int .i64 0, .int .i64 0] 31)) (w.heap.size + 1) 31 :=
    ⟨by have := heap_alloc_new (w.alloc (.cells #[.int .i64 t.n, .slice ai t.init.length ci, .slice ag t.goal.length cg, .slice ao t.ops.length co] 25)) (.cells #[.int .i64 0, .int .i64 0] 31); rwa [World.size_alloc] at this, by omega, K1.alloc _⟩
  replace HT := Lib.hid HT; replace HB := Lib.hid HB; replace HF := Lib.hid HF
  clear h K1
  go_enter Tryz.func29, Tryz.ntmps29
  go_upto_region 1 with fail
  generalize ((w.alloc (.cells #[.int .i64 t.n, .slice ai t.init.length ci, .slice ag t.goal.length cg, .slice ao t.ops.length co] 25)).alloc (.cells #[.int .i64 0, .int .i64 0] 31)) = w1 at HT HB HF ⊢
  have hbx := HB.out.lt
  obtain ⟨d0, d1, d2, d3⟩ := HB.out
  go_wp2_with fail
  refine (checked_any _ _ _ _ t HT.out).mono ?_; rintro e w2 hr
  have hform : (∃ pv lv c i, e = .returned (.tuple #[.pointer pv, lv, .agg #[.int .i64 c, .int .i64 i]]) ∧ ((c ≠ 0 ∧ i ≠ -7 ∧ (c, i) = kindF t false) ∨ (((c = 0 ∧ i = 0) ∨ (c ≠ 0 ∧ i = -7)) ∧ (4, -8) = kindF t false))) := by
    rcases hr.2 with ⟨hc, he⟩ | ⟨hok, hx, he⟩ | ⟨hok, l, hx, b, v, vl, ws, he, _⟩
    · refine ⟨_, _, _, _, he, .inl ⟨hc, taskFault_at7 hc, ?_⟩⟩
      unfold kindF; rw [if_neg hc]
    · refine ⟨_, _, _, _, he, .inr ⟨.inr ⟨by decide, rfl⟩, ?_⟩⟩
      unfold kindF; rw [if_pos (taskFault_zero.2 hok)]; rfl
    · refine ⟨_, _, _, _, he, .inr ⟨.inl ⟨rfl, rfl⟩, ?_⟩⟩
      unfold kindF; rw [if_pos (taskFault_zero.2 hok)]; rfl
  obtain ⟨pv, lv, c, i, rfl, hcase⟩ := hform
  have HC := Lib.hid hcase
  have KA := (Keeps.refl (fun _ => False) w2).alloc (.cells #[.int .i64 c, .int .i64 i] 31)
  have HF3 := Lib.hid (HF.out.keeps0 (hr.1.trans KA))
  have F0 := Lib.hid (heap_alloc_new w2 (.cells #[.int .i64 c, .int .i64 i] 31))
  clear d0 d1 d2 d3 hbx hr KA HT HB HF hcase
  go_upto_region 2 with fail
  generalize w2.alloc (.cells #[.int .i64 c, .int .i64 i] 31) = w3 at HF3 F0 ⊢
  generalize w2.heap.size = b3 at F0 ⊢
  obtain ⟨f0, f1, _, _, fl⟩ := pair_cells F0.out
  obtain ⟨e0, e1, z0, z1, hF⟩ := HF3.out.cells
  rcases HC.out with ⟨hc, hi, hk⟩ | ⟨hci, hk⟩
  · have HK := Lib.hid hk; have HCZ := Lib.hid hc
    have b0 : (c == 0) = false := by simpa using hc
    have b1 : (i == -7) = false := by simpa using hi
    clear hc hi hk
    go_wp2_with fail
    go_region
    all_goals
      go_wp2
      refine bodyPost_ret (results_tmp2_cell _ _ (w.heap.size + 1) 31 #[.int .i64 c, .int .i64 i] (0, 0) _ rfl rfl (((Keeps.refl (fun _ => False) _).drew).heap (HF3.out.set (.int .i64 c) (.int .i64 i)).1 (fun h => h)) Tryz.underlying31 rfl (by kernel_rfl)) rfl ?_
      exact ⟨_, _, c, i, rfl, HK.out, HCZ.out, (HF3.out.set (.int .i64 c) (.int .i64 i)).2.drew⟩
  · have HK := Lib.hid hk
    have HST := Lib.hid (HF3.out.set (.int .i64 4) (.int .i64 (-8)))
    clear hk
    rcases hci with ⟨rfl, rfl⟩ | ⟨hc, rfl⟩
    · go_wp2_with fail
      refine bodyPost_ret (results_tmp2_cell _ _ (w.heap.size + 1) 31 #[.int .i64 4, .int .i64 (-8)] (0, 0) _ rfl rfl HST.out.1 Tryz.underlying31 rfl (by kernel_rfl)) rfl ?_
      exact ⟨_, _, 4, -8, rfl, HK.out, by decide, HST.out.2⟩
    · have b0 : (c == 0) = false := by simpa using hc
      clear hc
      go_wp2_with fail
      refine bodyPost_ret (results_tmp2_cell _ _ (w.heap.size + 1) 31 #[.int .i64 4, .int .i64 (-8)] (0, 0) _ rfl rfl HST.out.1 Tryz.underlying31 rfl (by kernel_rfl)) rfl ?_
      exact ⟨_, _, 4, -8, rfl, HK.out, by decide, HST.out.2⟩

end Go.Proofs.YtdokakhgflljgaaGreat

namespace Go.Proofs.YtdokakhgflljgaaGreat

/-! ### levels -/
def lev0 (n : Int) (s : List Int) : List Int := zeroV (List.replicate n.toNat (-1)) s
def levAdd (k : Int) (v ps : List Int) : List Int := ps.foldl (fun v p => if getV v p < 0 then v.set p.toNat k else v) v
def levBad (k : Int) (v ps : List Int) : Bool := ps.any fun p => decide (getV v p < 0 ∨ k ≤ getV v p)
def levOp (k : Int) (o : Opr) (v : List Int) : List Int := if levBad k v o.pre = true then v else levAdd k v o.add
def levR (k : Int) (ops : List Opr) (v : List Int) : List Int := ops.foldl (fun v o => levOp k o v) v
def levTo (ops : List Opr) (v : List Int) : Nat → List Int
  | 0 => v
  | k + 1 => levR ((k + 1 : Nat) : Int) ops (levTo ops v k)
def levelsV (t : Tsk) (s : List Int) : List Int := levTo t.ops (lev0 t.n s) t.n.toNat
theorem levAdd_snoc (k : Int) (v ps : List Int) (p : Int) : levAdd k v (ps ++ [p]) = if getV (levAdd k v ps) p < 0 then (levAdd k v ps).set p.toNat k else levAdd k v ps := by unfold levAdd; rw [List.foldl_append]; rfl
theorem levR_snoc (k : Int) (ops : List Opr) (o : Opr) (v : List Int) : levR k (ops ++ [o]) v = levOp k o (levR k ops v) := by unfold levR; rw [List.foldl_append]; rfl

/-- Levels are numbers from -1 to n. -/
def LevI (n : Nat) (m : Nat) (v : List Int) : Prop := v.length = n ∧ ∀ y ∈ v, -1 ≤ y ∧ y ≤ m
theorem LevI.get {n m : Nat} {v : List Int} (h : LevI n m v) {p : Int} (hp : p.toNat < n) : -1 ≤ getV v p ∧ getV v p ≤ m := by
  unfold getV
  rw [List.getD_eq_getElem?_getD, List.getElem?_eq_getElem (by have := h.1; omega)]
  exact h.2 _ (List.getElem_mem _)
theorem LevI.mono {n m k : Nat} {v : List Int} (h : LevI n m v) (hk : m ≤ k) : LevI n k v := ⟨h.1, fun y hy => by have := h.2 y hy; omega⟩
theorem LevI.set {n m : Nat} {v : List Int} (h : LevI n m v) (i : Nat) {x : Int} (hx : -1 ≤ x ∧ x ≤ m) : LevI n m (v.set i x) := ⟨by rw [List.length_set]; exact h.1, fun y hy => by
  rcases List.mem_or_eq_of_mem_set hy with h2 | h2
  · exact h.2 y h2
  · rw [h2]; exact hx⟩
theorem zeroV_lev {n m : Nat} : ∀ (ps v : List Int), LevI n m v → LevI n m (zeroV v ps)
  | [], v, h => h
  | p :: r, v, h => zeroV_lev r (v.set p.toNat 0) (h.set _ (by omega))
theorem lev0_ok (n : Int) (s : List Int) (m : Nat) : LevI n.toNat m (lev0 n s) := zeroV_lev s _ ⟨by simp, fun y hy => by rw [(List.mem_replicate.1 hy).2]; omega⟩
theorem levAdd_ok {n m : Nat} {k : Int} (hk : -1 ≤ k ∧ k ≤ m) : ∀ (ps v : List Int), LevI n m v → LevI n m (levAdd k v ps)
  | [], v, h => h
  | p :: r, v, h => by
    unfold levAdd
    rw [List.foldl_cons]
    refine levAdd_ok hk r _ ?_
    split
    · exact h.set _ hk
    · exact h
theorem levOp_ok {n m : Nat} {k : Int} (hk : -1 ≤ k ∧ k ≤ m) (o : Opr) {v : List Int} (h : LevI n m v) : LevI n m (levOp k o v) := by
  unfold levOp
  split
  · exact h
  · exact levAdd_ok hk _ _ h
theorem levR_ok {n m : Nat} {k : Int} (hk : -1 ≤ k ∧ k ≤ m) : ∀ (ops : List Opr) (v : List Int), LevI n m v → LevI n m (levR k ops v)
  | [], v, h => h
  | o :: r, v, h => by
    unfold levR
    rw [List.foldl_cons]
    exact levR_ok hk r _ (levOp_ok hk o h)
theorem levTo_ok {n m : Nat} (ops : List Opr) {v : List Int} (h : LevI n m v) : ∀ k, k ≤ m → LevI n m (levTo ops v k)
  | 0, _ => h
  | k + 1, hk => levR_ok (by omega) ops _ (levTo_ok ops h k (by omega))
theorem levelsV_ok (t : Tsk) (s : List Int) : LevI t.n.toNat t.n.toNat (levelsV t s) := levTo_ok t.ops (lev0_ok t.n s t.n.toNat) _ (Nat.le_refl _)

/-! ### supporters -/
def supPre (n : Int) (lv ps : List Int) : Int × Int := ps.foldl (fun a p => (a.1 + getV lv p, if getV lv p < 0 then n else max a.2 (getV lv p))) (0, -1)
def supAdd (i sum top : Int) (lv : List Int) (st : List Int × List Int) (ps : List Int) : List Int × List Int :=
  ps.foldl (fun st p => if top < getV lv p ∧ 0 < getV lv p ∧ (getV st.1 p < 0 ∨ sum < getV st.2 p) then (st.1.set p.toNat i, st.2.set p.toNat sum) else st) st
def supTo (n : Int) (lv : List Int) (ops : List Opr) : Nat → List Int × List Int
  | 0 => (List.replicate n.toNat (-1), List.replicate n.toNat 0)
  | k + 1 => match ops[k]? with
    | some o => supAdd (k : Int) (supPre n lv o.pre).1 (supPre n lv o.pre).2 lv (supTo n lv ops k) o.add
    | none => supTo n lv ops k
def supV (t : Tsk) (s : List Int) : List Int := (supTo t.n (levelsV t s) t.ops t.ops.length).1
theorem supPre_snoc (n : Int) (lv ps : List Int) (p : Int) : supPre n lv (ps ++ [p]) = ((supPre n lv ps).1 + getV lv p, if getV lv p < 0 then n else max (supPre n lv ps).2 (getV lv p)) := by unfold supPre; rw [List.foldl_append]; rfl
theorem supAdd_snoc (i sum top : Int) (lv : List Int) (st : List Int × List Int) (ps : List Int) (p : Int) : supAdd i sum top lv st (ps ++ [p]) =
    if top < getV lv p ∧ 0 < getV lv p ∧ (getV (supAdd i sum top lv st ps).1 p < 0 ∨ sum < getV (supAdd i sum top lv st ps).2 p) then ((supAdd i sum top lv st ps).1.set p.toNat i, (supAdd i sum top lv st ps).2.set p.toNat sum) else supAdd i sum top lv st ps := by
  unfold supAdd; rw [List.foldl_append]; rfl
theorem supPre_low {n : Int} {m : Nat} {lv : List Int} (h : LevI n.toNat m lv) (h0 : 0 ≤ n) (hm : (m : Int) ≤ n) : ∀ (ps : List Int), (∀ p ∈ ps, 0 ≤ p ∧ p < n) → ∀ a : Int × Int, -1 ≤ a.2 ∧ a.2 ≤ n →
    a.1 - ps.length ≤ (ps.foldl (fun a p => (a.1 + getV lv p, if getV lv p < 0 then n else max a.2 (getV lv p))) a).1 ∧ (ps.foldl (fun a p => (a.1 + getV lv p, if getV lv p < 0 then n else max a.2 (getV lv p))) a).1 ≤ a.1 + n * ps.length ∧
    -1 ≤ (ps.foldl (fun a p => (a.1 + getV lv p, if getV lv p < 0 then n else max a.2 (getV lv p))) a).2 ∧ (ps.foldl (fun a p => (a.1 + getV lv p, if getV lv p < 0 then n else max a.2 (getV lv p))) a).2 ≤ n
  | [], _, a, ha => by simp; omega
  | p :: r, hp, a, ha => by
    have h1 := h.get (p := p) (by have := hp p (by simp); omega)
    obtain ⟨g1, g2, g3, g4⟩ := supPre_low h h0 hm r (fun q hq => hp q (by simp [hq])) (a.1 + getV lv p, if getV lv p < 0 then n else max a.2 (getV lv p)) (by simp only; split <;> omega)
    rw [List.foldl_cons]
    simp only at g1 g2
    refine ⟨by rw [List.length_cons]; omega, ?_, g3, g4⟩
    rw [List.length_cons, show n * ((r.length + 1 : Nat) : Int) = n * (r.length : Int) + n by rw [Int.natCast_succ, Int.mul_add, Int.mul_one]]
    omega
/-- Supporters are -1 or numbers of operators. -/
def SupI (n m : Nat) (c : Int) (st : List Int × List Int) : Prop := st.1.length = n ∧ st.2.length = n ∧ (∀ y ∈ st.1, -1 ≤ y ∧ y < (m : Int)) ∧ ∀ y ∈ st.2, -c ≤ y ∧ y ≤ c
theorem supAdd_ok {n m : Nat} {c i sum top : Int} (hi : -1 ≤ i ∧ i < (m : Int)) (hs : -c ≤ sum ∧ sum ≤ c) (lv : List Int) : ∀ (ps : List Int) (st : List Int × List Int), SupI n m c st → SupI n m c (supAdd i sum top lv st ps)
  | [], st, h => h
  | p :: r, st, h => by
    unfold supAdd
    rw [List.foldl_cons]
    refine supAdd_ok hi hs lv r _ ?_
    split
    · refine ⟨by rw [List.length_set]; exact h.1, by rw [List.length_set]; exact h.2.1, fun y hy => ?_, fun y hy => ?_⟩
      · rcases List.mem_or_eq_of_mem_set hy with h2 | h2
        · exact h.2.2.1 y h2
        · rw [h2]; exact hi
      · rcases List.mem_or_eq_of_mem_set hy with h2 | h2
        · exact h.2.2.2 y h2
        · rw [h2]; exact hs
    · exact h
theorem supTo_ok {t : Tsk} (ok : t.Ok) (s : List Int) : ∀ k, k ≤ t.ops.length → SupI t.n.toNat k 1000 (supTo t.n (levelsV t s) t.ops k)
  | 0, _ => ⟨by simp [supTo], by simp [supTo], fun y hy => by rw [(List.mem_replicate.1 hy).2]; decide, fun y hy => by rw [(List.mem_replicate.1 hy).2]; decide⟩
  | k + 1, hk => by
    have ih := supTo_ok ok s k (by omega)
    obtain ⟨o, ho⟩ : ∃ o, t.ops[k]? = some o := ⟨_, List.getElem?_eq_getElem (by omega)⟩
    have oko := ok.ops o (List.mem_of_getElem? ho)
    have n0 := ok.n0; have n1 := ok.n1
    have hl : (o.pre.length : Int) ≤ 24 := by
      rcases setFrom_length oko.pre with h | h
      · rw [h]; decide
      · omega
    have hp := supPre_low (levelsV_ok t s) n0 (by omega) o.pre (isSet_iff.1 oko.pre).1 (0, -1) (by simp only; omega)
    have hm : t.n * (o.pre.length : Int) ≤ 24 * 24 := Int.mul_le_mul n1 hl (by omega) (by decide)
    rw [supTo, ho]
    simp only
    have e : SupI t.n.toNat (k + 1) 1000 (supTo t.n (levelsV t s) t.ops k) := ⟨ih.1, ih.2.1, fun y hy => by have := ih.2.2.1 y hy; omega, ih.2.2.2⟩
    refine supAdd_ok (by omega) ?_ _ _ _ e
    unfold supPre
    have h1 := hp.1; have h2 := hp.2.1
    simp only at h1 h2
    omega
theorem supV_ok {t : Tsk} (ok : t.Ok) (s : List Int) : (supV t s).length = t.n.toNat ∧ ∀ y ∈ supV t s, -1 ≤ y ∧ y < (t.ops.length : Int) := by
  have h := supTo_ok ok s t.ops.length (Nat.le_refl _)
  exact ⟨h.1, h.2.2.1⟩

/-! ### the plan -/
def opPre (ops : List Opr) (i : Int) : List Int := ((ops[i.toNat]?).map Opr.pre).getD []
def ach (sup : List Int) (ops : List Opr) : Nat → Int → List Bool × List Int → List Bool × List Int
  | 0, _, st => st
  | k + 1, p, st => if getV sup p < 0 ∨ getB st.1 (getV sup p) = true then st else
    (((opPre ops (getV sup p)).foldl (fun st q => ach sup ops k q st) (st.1.set (getV sup p).toNat true, st.2)).1,
     ((opPre ops (getV sup p)).foldl (fun st q => ach sup ops k q st) (st.1.set (getV sup p).toNat true, st.2)).2 ++ [getV sup p])
def achs (sup : List Int) (ops : List Opr) (k : Nat) (st : List Bool × List Int) (ps : List Int) : List Bool × List Int := ps.foldl (fun st q => ach sup ops k q st) st
def relP (t : Tsk) (s : List Int) : List Int := (achs (supV t s) t.ops (t.ops.length + 1) (List.replicate t.ops.length false, []) t.goal).2
/-- Is there a plan of the task without deletions? -/
def relOk (t : Tsk) (s : List Int) : Bool := !t.goal.any fun p => decide (getV (levelsV t s) p < 0)
theorem achs_snoc (sup : List Int) (ops : List Opr) (k : Nat) (st : List Bool × List Int) (ps : List Int) (p : Int) : achs sup ops k st (ps ++ [p]) = ach sup ops k p (achs sup ops k st ps) := by unfold achs; rw [List.foldl_append]; rfl
theorem ach_skip {sup : List Int} {ops : List Opr} {k : Nat} {p : Int} {st : List Bool × List Int} (h : getV sup p < 0 ∨ getB st.1 (getV sup p) = true) : ach sup ops (k + 1) p st = st := by rw [ach, if_pos h]
theorem ach_go {sup : List Int} {ops : List Opr} {k : Nat} {p : Int} {st : List Bool × List Int} (h : ¬ (getV sup p < 0 ∨ getB st.1 (getV sup p) = true)) :
    ach sup ops (k + 1) p st = ((achs sup ops k (st.1.set (getV sup p).toNat true, st.2) (opPre ops (getV sup p))).1, (achs sup ops k (st.1.set (getV sup p).toNat true, st.2) (opPre ops (getV sup p))).2 ++ [getV sup p]) := by rw [ach, if_neg h]; rfl

/-- Every step of the plan is an operator, and none comes twice. -/
structure AchI (m : Nat) (st st' : List Bool × List Int) : Prop where
  len : st'.1.length = m
  more : offs st'.1 + st'.2.length ≤ offs st.1 + st.2.length
  fewer : offs st'.1 ≤ offs st.1
  ops : ∀ i ∈ st'.2, 0 ≤ i ∧ i < (m : Int)
/-- What the supporters and the operators must be. -/
structure AchNeed (sup : List Int) (ops : List Opr) : Prop where
  inn : ∀ p : Int, 0 ≤ p → p.toNat < sup.length → -1 ≤ getV sup p ∧ getV sup p < (ops.length : Int)
  pre : ∀ o ∈ ops, ∀ p ∈ o.pre, 0 ≤ p ∧ p.toNat < sup.length
theorem AchNeed.opPre {sup : List Int} {ops : List Opr} (h : AchNeed sup ops) (i : Int) : ∀ p ∈ opPre ops i, 0 ≤ p ∧ p.toNat < sup.length := fun p hp => by
  unfold Go.Proofs.YtdokakhgflljgaaGreat.opPre at hp
  cases ho : ops[i.toNat]? with
  | none => rw [ho] at hp; cases hp
  | some o => rw [ho] at hp; exact h.pre o (List.mem_of_getElem? ho) p hp
theorem achs_of {sup : List Int} {ops : List Opr} {k : Nat} (h : ∀ (p : Int) (st : List Bool × List Int), 0 ≤ p → p.toNat < sup.length → st.1.length = ops.length → (∀ i ∈ st.2, 0 ≤ i ∧ i < (ops.length : Int)) → AchI ops.length st (ach sup ops k p st)) :
    ∀ (ps : List Int) (st : List Bool × List Int), (∀ p ∈ ps, 0 ≤ p ∧ p.toNat < sup.length) → st.1.length = ops.length → (∀ i ∈ st.2, 0 ≤ i ∧ i < (ops.length : Int)) → AchI ops.length st (achs sup ops k st ps)
  | [], st, _, hl, ho => ⟨hl, Nat.le_refl _, Nat.le_refl _, ho⟩
  | q :: r, st, hp, hl, ho => by
    have a := h q st (hp q (by simp)).1 (hp q (by simp)).2 hl ho
    have b := achs_of h r (ach sup ops k q st) (fun p hpp => hp p (by simp [hpp])) a.len a.ops
    exact ⟨b.len, Nat.le_trans b.more a.more, Nat.le_trans b.fewer a.fewer, b.ops⟩
theorem ach_ok {sup : List Int} {ops : List Opr} (hn : AchNeed sup ops) : ∀ (k : Nat) (p : Int) (st : List Bool × List Int), 0 ≤ p → p.toNat < sup.length → st.1.length = ops.length → (∀ i ∈ st.2, 0 ≤ i ∧ i < (ops.length : Int)) → AchI ops.length st (ach sup ops k p st)
  | 0, p, st, _, _, hl, ho => ⟨hl, Nat.le_refl _, Nat.le_refl _, ho⟩
  | k + 1, p, st, hp0, hp, hl, ho => by
    by_cases hc : getV sup p < 0 ∨ getB st.1 (getV sup p) = true
    · rw [ach_skip hc]; exact ⟨hl, Nat.le_refl _, Nat.le_refl _, ho⟩
    · have h1 := hn.inn p hp0 hp
      have hf : getB st.1 (getV sup p) = false := by
        cases h : getB st.1 (getV sup p) with
        | false => rfl
        | true => exact absurd (.inr h) hc
      have hneg : ¬ getV sup p < 0 := fun e => hc (.inl e)
      have hlt : (getV sup p).toNat < st.1.length := by omega
      have hoff := offs_set st.1 _ (getB_false hlt hf)
      have b := achs_of (ach_ok hn k) (opPre ops (getV sup p)) (st.1.set (getV sup p).toNat true, st.2) (hn.opPre _) (by simp only; rw [List.length_set, hl]) ho
      rw [ach_go hc]
      refine ⟨b.len, ?_, ?_, fun i hi => ?_⟩
      · have := b.more; simp only [List.length_append, List.length_singleton] at this ⊢; omega
      · have := b.fewer; simp only at this ⊢; omega
      · rcases List.mem_append.1 hi with h | h
        · exact b.ops i h
        · have : i = getV sup p := by simpa using h
          omega
theorem achs_ok {sup : List Int} {ops : List Opr} (hn : AchNeed sup ops) (k : Nat) : ∀ (ps : List Int) (st : List Bool × List Int), (∀ p ∈ ps, 0 ≤ p ∧ p.toNat < sup.length) → st.1.length = ops.length → (∀ i ∈ st.2, 0 ≤ i ∧ i < (ops.length : Int)) → AchI ops.length st (achs sup ops k st ps) :=
  achs_of (ach_ok hn k)
theorem sup_need {t : Tsk} (ok : t.Ok) (s : List Int) : AchNeed (supV t s) t.ops := by
  obtain ⟨h1, h2⟩ := supV_ok ok s
  have n0 := ok.n0
  refine ⟨fun p _ hp => ?_, fun o ho p hp => by have := (isSet_iff.1 (ok.ops o ho).pre).1 p hp; omega⟩
  unfold getV
  rw [List.getD_eq_getElem?_getD, List.getElem?_eq_getElem hp]
  exact h2 _ (List.getElem_mem _)
theorem offs_falses (n : Nat) : offs (List.replicate n false) = n := by unfold offs; simp
theorem relP_ok {t : Tsk} (ok : t.Ok) (s : List Int) : (relP t s).length ≤ 40 ∧ ∀ i ∈ relP t s, 0 ≤ i ∧ i < (t.ops.length : Int) := by
  have n0 := ok.n0
  have h := achs_ok (sup_need ok s) (t.ops.length + 1) t.goal (List.replicate t.ops.length false, []) (fun p hp => by have := (isSet_iff.1 ok.goal).1 p hp; have := (supV_ok ok s).1; omega) (by simp) (fun i hi => by cases hi)
  have h1 := h.more
  simp only [offs_falses, List.length_nil] at h1
  have := ok.few
  exact ⟨by unfold relP; omega, h.ops⟩

end Go.Proofs.YtdokakhgflljgaaGreat

namespace Go.Proofs.YtdokakhgflljgaaGreat
open Go.RowKit

/-- A function value says of every element of a list whether pr holds. -/
def HasP1 (G : Nat) (x0 : Nat) (pr : Int → Bool) (l : List Int) (w : World) : Prop := ∀ (W : World) (x : Int), Keeps (fun _ => False) w W → x ∈ l → Calls Tryz.prog G #[.int .i64 x, .pointer (some ⟨x0, 0, none⟩)] W fun e W' => e = .returned (.bool (pr x)) ∧ Keeps (fun _ => False) W W'
set_option maxHeartbeats 1000000 in
theorem indexF1_any (G : Nat) (x0 : Nat) (pr : Int → Bool) (hen : ∀ args w, (callFunc G args).run Tryz.prog w = .ok (.enter G args) w) (w : World) (va : Value) (a : List Int) (ha : Ints w va a) (hf : HasP1 G x0 pr a w) :
    Calls Tryz.prog 119 #[va, .func (.func G) #[] #[.pointer (some ⟨x0, 0, none⟩)]] w fun e w' => ∃ k : Int, e = .returned (.int .i64 k) ∧ (decide (0 ≤ k) = a.any pr) ∧ Keeps (fun _ => False) w w' := by
  obtain ⟨ao, ca, hv, ma⟩ := ha.form
  have CA := Lib.hid (ha.cell hv)
  have HF := Lib.hid hf
  subst hv
  clear ha hf
  go_enter Tryz.func119, Tryz.ntmps119
  go_wp2_with fail
  go_loopw [8] (fun i wr => ∃ k : Nat, k ≤ a.length ∧ i = .int .i64 (k : Int) ∧ (a.take k).any pr = false ∧ Keeps (fun _ => False) w wr) (fun i _ => a.length - (intOf i).toNat)
  case atStart => exact ⟨0, Nat.zero_le _, rfl, rfl, Keeps.refl _ _⟩
  case round =>
    obtain ⟨k, hk, rfl, ht, hkw⟩ := hrel
    have HT := Lib.hid ht; clear ht
    have KW := Lib.hid hkw; clear hkw
    by_cases hlt : k < a.length
    · obtain ⟨ba, oa, rfl, ha'⟩ := CA.out (by omega)
      obtain ⟨x, hx⟩ : ∃ x, a[k]? = some x := ⟨_, List.getElem?_eq_getElem hlt⟩
      have ha1 := KW.out.cell (ha' k _ hx) (fun h => h)
      have HXM := Lib.hid (List.mem_of_getElem? hx)
      have HTK := Lib.hid (show (a.take (k + 1)).any pr = pr x by rw [take_getS hx, List.any_append, HT.out]; simp)
      clear ha' hx
      go_wp2_with fail
      refine (HF.out _ x KW.out HXM.out).mono ?_; rintro e w1 ⟨rfl, hk1⟩
      have KW1 := Lib.hid (KW.out.trans hk1)
      clear hk1
      cases hp : pr x with
      | true =>
        have hf : Hid (a.any pr = true) := by
          unfold Hid
          exact List.any_eq_true.2 ⟨x, HXM.out, hp⟩
        clear hp
        go_wp2_with fail
        go_ret
        exact ⟨_, rfl, by rw [hf.out]; simp, KW1.out⟩
      | false =>
        rw [hp] at HTK
        clear hp
        go_wp2_with fail
        go_roundw
        case rel => exact ⟨k + 1, by omega, by go_num, HTK.out, KW1.out⟩
        case measure => simp [intOf]; omega
    · have hf : Hid (a.any pr = false) := by
        unfold Hid
        have := HT.out
        rwa [List.take_of_length_le (by omega)] at this
      go_wp2_with fail
      go_ret
      exact ⟨_, rfl, by rw [hf.out]; rfl, KW.out⟩
theorem containsF1_any (G : Nat) (x0 : Nat) (pr : Int → Bool) (hen : ∀ args w, (callFunc G args).run Tryz.prog w = .ok (.enter G args) w) (w : World) (va : Value) (a : List Int) (ha : Ints w va a) (hf : HasP1 G x0 pr a w) :
    Calls Tryz.prog 97 #[va, .func (.func G) #[] #[.pointer (some ⟨x0, 0, none⟩)]] w fun e w' => e = .returned (.bool (a.any pr)) ∧ Keeps (fun _ => False) w w' := by
  have H := Lib.hid (indexF1_any G x0 pr hen w va a ha hf)
  clear ha hf
  generalize a.any pr = r at H ⊢
  go_enter Tryz.func97, Tryz.ntmps97
  go_wp2_with fail
  refine H.out.mono ?_; rintro e w1 ⟨k, rfl, hk, hkw⟩
  have KW := Lib.hid hkw
  have HK := Lib.hid hk
  clear hkw hk
  go_wp2_with fail
  go_ret
  exact ⟨congrArg (fun b => Ending.returned (Value.bool b)) HK.out, KW.out⟩

/-- A function value says of every element of a list whether pr holds. -/
def HasP2 (G : Nat) (x0 x1 : Nat) (pr : Int → Bool) (l : List Int) (w : World) : Prop := ∀ (W : World) (x : Int), Keeps (fun _ => False) w W → x ∈ l → Calls Tryz.prog G #[.int .i64 x, .pointer (some ⟨x0, 0, none⟩), .pointer (some ⟨x1, 0, none⟩)] W fun e W' => e = .returned (.bool (pr x)) ∧ Keeps (fun _ => False) W W'
set_option maxHeartbeats 1000000 in
theorem indexF2_any (G : Nat) (x0 x1 : Nat) (pr : Int → Bool) (hen : ∀ args w, (callFunc G args).run Tryz.prog w = .ok (.enter G args) w) (w : World) (va : Value) (a : List Int) (ha : Ints w va a) (hf : HasP2 G x0 x1 pr a w) :
    Calls Tryz.prog 119 #[va, .func (.func G) #[] #[.pointer (some ⟨x0, 0, none⟩), .pointer (some ⟨x1, 0, none⟩)]] w fun e w' => ∃ k : Int, e = .returned (.int .i64 k) ∧ (decide (0 ≤ k) = a.any pr) ∧ Keeps (fun _ => False) w w' := by
  obtain ⟨ao, ca, hv, ma⟩ := ha.form
  have CA := Lib.hid (ha.cell hv)
  have HF := Lib.hid hf
  subst hv
  clear ha hf
  go_enter Tryz.func119, Tryz.ntmps119
  go_wp2_with fail
  go_loopw [8] (fun i wr => ∃ k : Nat, k ≤ a.length ∧ i = .int .i64 (k : Int) ∧ (a.take k).any pr = false ∧ Keeps (fun _ => False) w wr) (fun i _ => a.length - (intOf i).toNat)
  case atStart => exact ⟨0, Nat.zero_le _, rfl, rfl, Keeps.refl _ _⟩
  case round =>
    obtain ⟨k, hk, rfl, ht, hkw⟩ := hrel
    have HT := Lib.hid ht; clear ht
    have KW := Lib.hid hkw; clear hkw
    by_cases hlt : k < a.length
    · obtain ⟨ba, oa, rfl, ha'⟩ := CA.out (by omega)
      obtain ⟨x, hx⟩ : ∃ x, a[k]? = some x := ⟨_, List.getElem?_eq_getElem hlt⟩
      have ha1 := KW.out.cell (ha' k _ hx) (fun h => h)
      have HXM := Lib.hid (List.mem_of_getElem? hx)
      have HTK := Lib.hid (show (a.take (k + 1)).any pr = pr x by rw [take_getS hx, List.any_append, HT.out]; simp)
      clear ha' hx
      go_wp2_with fail
      refine (HF.out _ x KW.out HXM.out).mono ?_; rintro e w1 ⟨rfl, hk1⟩
      have KW1 := Lib.hid (KW.out.trans hk1)
      clear hk1
      cases hp : pr x with
      | true =>
        have hf : Hid (a.any pr = true) := by
          unfold Hid
          exact List.any_eq_true.2 ⟨x, HXM.out, hp⟩
        clear hp
        go_wp2_with fail
        go_ret
        exact ⟨_, rfl, by rw [hf.out]; simp, KW1.out⟩
      | false =>
        rw [hp] at HTK
        clear hp
        go_wp2_with fail
        go_roundw
        case rel => exact ⟨k + 1, by omega, by go_num, HTK.out, KW1.out⟩
        case measure => simp [intOf]; omega
    · have hf : Hid (a.any pr = false) := by
        unfold Hid
        have := HT.out
        rwa [List.take_of_length_le (by omega)] at this
      go_wp2_with fail
      go_ret
      exact ⟨_, rfl, by rw [hf.out]; rfl, KW.out⟩
theorem containsF2_any (G : Nat) (x0 x1 : Nat) (pr : Int → Bool) (hen : ∀ args w, (callFunc G args).run Tryz.prog w = .ok (.enter G args) w) (w : World) (va : Value) (a : List Int) (ha : Ints w va a) (hf : HasP2 G x0 x1 pr a w) :
    Calls Tryz.prog 97 #[va, .func (.func G) #[] #[.pointer (some ⟨x0, 0, none⟩), .pointer (some ⟨x1, 0, none⟩)]] w fun e w' => e = .returned (.bool (a.any pr)) ∧ Keeps (fun _ => False) w w' := by
  have H := Lib.hid (indexF2_any G x0 x1 pr hen w va a ha hf)
  clear ha hf
  generalize a.any pr = r at H ⊢
  go_enter Tryz.func97, Tryz.ntmps97
  go_wp2_with fail
  refine H.out.mono ?_; rintro e w1 ⟨k, rfl, hk, hkw⟩
  have KW := Lib.hid hkw
  have HK := Lib.hid hk
  clear hkw hk
  go_wp2_with fail
  go_ret
  exact ⟨congrArg (fun b => Ending.returned (Value.bool b)) HK.out, KW.out⟩

end Go.Proofs.YtdokakhgflljgaaGreat

namespace Go.Proofs.YtdokakhgflljgaaGreat
open Go.RowKit Go.Shelf

theorem IArr.get {W : World} {g : Nat} {v : List Int} (h : IArr W g v) {j : Nat} (hj : j < v.length) : W.cell? ⟨g, j, none⟩ = some (.int .i64 (getV v (j : Int))) := h.cell (getV_at hj)

set_option maxRecDepth 100000 in
set_option maxHeartbeats 2000000 in
theorem lev1_any (W : World) (b5 b9 g n : Nat) (v : List Int) (k x : Int) (h5 : W.cell? ⟨b5, 0, none⟩ = some (.slice (some ⟨g, 0, none⟩) n n)) (h9 : W.cell? ⟨b9, 0, none⟩ = some (.int .i64 k)) (hv : IArr W g v) (hl : v.length = n) (hx : 0 ≤ x ∧ x < (n : Int)) :
    Calls Tryz.prog 118 #[.int .i64 x, .pointer (some ⟨b5, 0, none⟩), .pointer (some ⟨b9, 0, none⟩)] W fun e W' => e = .returned (.bool (decide (getV v x < 0 ∨ k ≤ getV v x))) ∧ Keeps (fun _ => False) W W' := by
  obtain ⟨j, rfl⟩ := Int.eq_ofNat_of_zero_le hx.1
  have hg := hv.get (j := j) (by omega)
  have hgl := hv.lt
  have hb5 : b5 < W.heap.size := World.block_lt_of_cell? W _ h5
  have hb9 : b9 < W.heap.size := World.block_lt_of_cell? W _ h9
  have hxn := hx.2
  clear hv hx
  generalize getV v (j : Int) = y at hg ⊢
  go_enter Tryz.func118, Tryz.ntmps118
  by_cases h0 : y < 0
  · have hd : decide (y < 0) = true := by simpa using h0
    have HR := Lib.hid (show decide (y < 0 ∨ k ≤ y) = true by simp [h0])
    clear h0
    go_wp2_with fail
    go_quiet (fail)
    go_wp2_with fail
    go_ret
    exact ⟨congrArg (fun b => Ending.returned (Value.bool b)) HR.out.symm, (Keeps.refl _ _).drewN _⟩
  · have hd : decide (y < 0) = false := by simpa using h0
    have HR := Lib.hid (show decide (y < 0 ∨ k ≤ y) = decide (k ≤ y) by simp [h0])
    clear h0
    go_wp2_with fail
    go_quiet (fail)
    go_wp2_with fail
    go_ret
    exact ⟨congrArg (fun b => Ending.returned (Value.bool b)) HR.out.symm, (Keeps.refl _ _).drewN _⟩

section
variable (w3 : World) (g n : Nat)
def ArrAt (v : List Int) (wr : World) : Prop := IArr wr g v ∧ Keeps (fun b => b = g) w3 wr
/-- At a level: its box, and the levels so far. -/
def LevAt (ops : List Opr) (v0 : List Int) (m : Nat) (v9 : Value) (wr : World) : Prop :=
  ∃ k b9 : Nat, k + m = n ∧ v9 = .pointer (some ⟨b9, 0, none⟩) ∧ w3.heap.size ≤ b9 ∧ wr.heap[b9]? = some (.cells #[.int .i64 ((k : Int) + 1)] 3 (0, 0)) ∧ ArrAt w3 g (levTo ops v0 k) wr
end

set_option maxRecDepth 100000 in
set_option maxHeartbeats 8000000 in
theorem levels_any (w : World) (vi vg vo vs : Value) (t : Tsk) (s : List Int) (h : TaskAt w vi vg vo t) (ok : t.Ok) (hs : Ints w vs s) (hsb : ∀ p ∈ s, 0 ≤ p ∧ p < t.n) :
    Calls Tryz.prog 95 #[.agg #[.int .i64 t.n, vi, vg, vo], vs] w fun e w' => ∃ g, e = .returned (.slice (some ⟨g, 0, none⟩) t.n.toNat t.n.toNat) ∧ IArr w' g (levelsV t s) ∧ w.heap.size ≤ g ∧ Keeps (fun _ => False) w w' := by
  obtain ⟨ai, ci, h1, _⟩ := h.init.form
  obtain ⟨ag, cg, h2, _⟩ := h.goal.form
  obtain ⟨ao, co, h3, hmo⟩ := h.ops.form
  obtain ⟨a4, cs, h4, hms⟩ := hs.form
  subst h1 h2 h3 h4
  have hn0 : 0 ≤ t.n ∧ t.n ≤ 24 := ⟨by have := ok.n0; omega, ok.n1⟩
  obtain ⟨n, hn⟩ : ∃ n : Nat, t.n = (n : Int) := ⟨t.n.toNat, by omega⟩
  have HNT := Lib.hid (show t.n.toNat = n by omega)
  have hn24 : n ≤ 24 := by omega
  have HN := Lib.hid hn; clear hn
  have K1 := (Keeps.refl (fun _ => False) w).alloc (.cells #[.int .i64 t.n, .slice ai t.init.length ci, .slice ag t.goal.length cg, .slice ao t.ops.length co] 25)
  have HB := Lib.hid (Four.new w (.int .i64 t.n) (.slice ai t.init.length ci) (.slice ag t.goal.length cg) (.slice ao t.ops.length co) 25)
  have HT := Lib.hid (h.keeps0 K1); have HS := Lib.hid (hs.keeps0 K1); have HK1 := Lib.hid K1; have OK := Lib.hid ok; have HSB := Lib.hid hsb
  have HPRE := Lib.hid (show ∀ o ∈ t.ops, ∀ p ∈ o.pre, 0 ≤ p ∧ p < (n : Int) from fun o ho => by have := (isSet_iff.1 (ok.ops o ho).pre).1; rw [HN.out] at this; exact this)
  have HADD := Lib.hid (show ∀ o ∈ t.ops, ∀ p ∈ o.add, 0 ≤ p ∧ p < (n : Int) from fun o ho => by have := (isSet_iff.1 (ok.ops o ho).add).1; rw [HN.out] at this; exact this)
  have hen := enters_of (P := Tryz.prog) Tryz.func118 (by kernel_rfl) rfl
  have HEN := Lib.hid hen
  clear h ok hs hsb K1 hen
  go_enter Tryz.func95, Tryz.ntmps95
  go_upto_region 1 with fail
  generalize (w.alloc (.cells #[.int .i64 t.n, .slice ai t.init.length ci, .slice ag t.goal.length cg, .slice ao t.ops.length co] 25)) = w1 at HT HB HK1 HS ⊢
  obtain ⟨d0, d1, d2, d3⟩ := HB.out
  have hbx := HB.out.lt
  have hmk := run_make_ints w1 t.n n HN.out (by omega)
  go_upto_region 2 with fail
  have KM := ((Keeps.refl (fun _ => False) w1).alloc (.cells (Array.replicate n (Value.int .i64 0)) 3))
  have KM2 := (Keeps.refl (fun _ => False) (w1.alloc (.cells (Array.replicate n (Value.int .i64 0)) 3))).alloc (.cells #[.slice (some ⟨w1.heap.size, 0, none⟩) n n] 22)
  have HA := Lib.hid ((IArr.zeros w1 n).keeps KM2 (fun h => h))
  have h5 := heap_alloc_new (w1.alloc (.cells (Array.replicate n (Value.int .i64 0)) 3)) (.cells #[.slice (some ⟨w1.heap.size, 0, none⟩) n n] 22)
  rw [World.size_alloc] at h5
  have HKM := Lib.hid (KM.trans KM2)
  obtain ⟨g, hg⟩ : ∃ g, w1.heap.size = g := ⟨_, rfl⟩
  have HG := Lib.hid hg
  rw [hg] at HA h5 HKM ⊢
  have H5 := Lib.hid h5
  have hgw : w.heap.size < g := by omega
  have HGW := Lib.hid hgw
  clear d0 d1 d2 d3 hbx hmk KM KM2 h5 hgw
  generalize (w1.alloc (.cells (Array.replicate n (Value.int .i64 0)) 3)).alloc (.cells #[.slice (some ⟨g, 0, none⟩) n n] 22) = w3 at HA H5 HKM ⊢
  have HKW : ∀ wq : World, Keeps (fun b => b = g) w3 wq → Keeps (fun _ => False) w1 wq := fun wq hk => HKM.out.trans' hk (fun i hi => .inr (by have := HG.out; omega))
  replace HKW := Lib.hid HKW
  have HC5 : ∀ wq : World, Keeps (fun b => b = g) w3 wq → wq.cell? ⟨g + 1, 0, none⟩ = some (.slice (some ⟨g, 0, none⟩) n n) := fun wq hk => (cell_of_blk (hk.heap H5.out (by omega))).trans rfl
  replace HC5 := Lib.hid HC5
  clear hg
  have c5 := HC5.out w3 (Keeps.refl _ _)
  have hl5 := lt_of_heap H5.out
  go_wp2_with fail
  clear c5 hl5
  go_loopw [19] (fun v19 wr => ∃ k : Nat, v19 = .int .i64 (k : Int) ∧ k ≤ n ∧ Keeps (fun b => b = g) w3 wr ∧ ∃ l : List Int, l.length = n ∧ (∀ j, j < k → l[j]? = some (-1)) ∧ IArr wr g l) (fun v19 _ => n - (intOf v19).toNat)
  case atStart => exact ⟨0, rfl, Nat.zero_le _, Keeps.refl _ _, _, List.length_replicate, fun j hj => absurd hj (by omega), HA.out⟩
  case round =>
    obtain ⟨k, rfl, hk, hkr, l, hl, hlj, hla⟩ := hrel
    have hc5 := HC5.out wr hkr
    have hb5 : g + 1 < wr.heap.size := World.block_lt_of_cell? wr _ hc5
    by_cases hlt : k < n
    · have hnk : (k : Int) < (n : Int) := by omega
      obtain ⟨x, hx⟩ : ∃ x, l[k]? = some x := ⟨_, List.getElem?_eq_getElem (by omega)⟩
      have hc := hla.cell hx
      have hf := hla.frozen k
      have hlt' := hla.lt
      have HN1 := Lib.hid (show Keeps (fun b => b = g) w3 (wr.setCell ⟨g, k, none⟩ (.int .i64 (-1))) ∧ ∃ l' : List Int, l'.length = n ∧ (∀ j, j < k + 1 → l'[j]? = some (-1)) ∧ IArr (wr.setCell ⟨g, k, none⟩ (.int .i64 (-1))) g l' from
        ⟨hkr.trans (keeps_set _ _ _ _), l.set k (-1), by rw [List.length_set]; exact hl, fun j hj => by
          rw [List.getElem?_set]
          split
          · rw [if_pos (by omega)]
          · exact hlj j (by omega), hla.set k _⟩)
      clear hkr hl hlj hla hx
      go_wp2_with fail
      go_roundw
      case rel => exact ⟨k + 1, by go_num, by omega, HN1.out⟩
      case measure => simp [intOf]; omega
    · have HV := Lib.hid (show IArr wr g (List.replicate n (-1)) by
        have e : l = List.replicate n (-1) := List.eq_replicate_iff.2 ⟨hl, fun b hb => by
          obtain ⟨j, hj⟩ := List.mem_iff_getElem?.1 hb
          have h1 := hlj j (by have := (List.getElem?_eq_some_iff.1 hj).1; omega)
          rw [h1] at hj; cases hj; rfl⟩
        rw [← e]; exact hla)
      have HKR := Lib.hid hkr
      have HLE := Lib.hid (show lev0 t.n s = zeroV (List.replicate n (-1)) s by unfold lev0; rw [HNT.out])
      clear hkr hl hlj hla hc5 hb5
      go_wp2_with fail
      go_loopw [28] (fun v28 wr => ∃ k : Nat, v28 = .int .i64 (k : Int) ∧ k ≤ s.length ∧ Keeps (fun b => b = g) w3 wr ∧ IArr wr g (zeroV (List.replicate n (-1)) (s.take k))) (fun v28 _ => s.length - (intOf v28).toNat)
      case atStart => exact ⟨0, rfl, Nat.zero_le _, HKR.out, HV.out⟩
      case round =>
        obtain ⟨k2, rfl, hk2, hkq, hza⟩ := hrel
        have HKW1 := Lib.hid (HKW.out wr hkq)
        by_cases hls : k2 < s.length
        · have hc5 := HC5.out wr hkq
          have hb5 : g + 1 < wr.heap.size := World.block_lt_of_cell? wr _ hc5
          obtain ⟨bs, ofs, rfl, hcs⟩ := (HS.out.keeps0 HKW1.out).cell rfl (by omega)
          obtain ⟨p, hp⟩ : ∃ p, s[k2]? = some p := ⟨_, List.getElem?_eq_getElem hls⟩
          have hc1 := hcs k2 p hp
          have hpb := HSB.out p (List.mem_of_getElem? hp)
          obtain ⟨j, rfl⟩ := Int.eq_ofNat_of_zero_le hpb.1
          have hjn : (j : Int) < (n : Int) := by have := HN.out; omega
          have hzl : (zeroV (List.replicate n (-1)) (s.take k2)).length = n := (zeroV_lev (n := n) (m := 0) (s.take k2) (List.replicate n (-1)) ⟨List.length_replicate, fun y hy => by rw [(List.mem_replicate.1 hy).2]; omega⟩).1
          have hg2 := hza.get (j := j) (by rw [hzl]; omega)
          have hf := hza.frozen j
          have hlt' := hza.lt
          have HN2 := Lib.hid (show Keeps (fun b => b = g) w3 (wr.setCell ⟨g, j, none⟩ (.int .i64 0)) ∧ IArr (wr.setCell ⟨g, j, none⟩ (.int .i64 0)) g (zeroV (List.replicate n (-1)) (s.take (k2 + 1))) from
            ⟨hkq.trans (keeps_set _ _ _ _), by rw [take_getS hp, zeroV_snoc, Int.toNat_natCast]; exact hza.set j 0⟩)
          generalize getV (zeroV (List.replicate n (-1)) (s.take k2)) (j : Int) = y at hg2
          clear hkq hza hcs hp hpb hzl
          go_wp2_with fail
          go_roundw
          case rel => exact ⟨k2 + 1, by go_num, by omega, HN2.out⟩
          case measure => simp [intOf]; omega
        · rw [List.take_of_length_le (by omega), ← HLE.out] at hza
          have HZA := Lib.hid hza; have HKQ := Lib.hid hkq
          have HL0 := Lib.hid (show LevI n n (lev0 t.n s) by have h := lev0_ok t.n s n; rw [HNT.out] at h; exact h)
          have HLV := Lib.hid (show levelsV t s = levTo t.ops (lev0 t.n s) n by unfold levelsV; rw [HNT.out])
          generalize lev0 t.n s = v0 at HZA HL0 HLV
          have KA := (Keeps.refl (fun _ => False) wr).alloc (.cells #[.int .i64 1] 3)
          have HLA := Lib.hid (show LevAt w3 g n t.ops v0 n (.pointer (some ⟨wr.heap.size, 0, none⟩)) (wr.alloc (.cells #[.int .i64 1] 3)) from
            ⟨0, wr.heap.size, by omega, rfl, HKQ.out.size, heap_alloc_new wr _, HZA.out.keeps KA (fun h => h), HKQ.out.trans (KA.mono (fun _ _ h => h.elim))⟩)
          have HG3 := Lib.hid (show g < w3.heap.size by have := lt_of_heap H5.out; omega)
          clear hza hkq KA HZA HKQ
          go_wp2_with fail
          go_loopg [9] n (fun m v9 wr' => LevAt w3 g n t.ops v0 m v9 wr')
          case atStart => exact HLA.out
          case round =>
            obtain ⟨k, b9, hkm, rfl, hb9, h9, hva, hkv⟩ := hrel
            have HKV := Lib.hid hkv; have HVA := Lib.hid hva; have H9 := Lib.hid h9; have HKM9 := Lib.hid hkm
            have KW := Lib.hid (HKW.out wr hkv)
            have c9 : wr.cell? ⟨b9, 0, none⟩ = some (.int .i64 ((k : Int) + 1)) := (cell_of_blk h9).trans rfl
            have l9 := lt_of_heap h9
            obtain ⟨d0, d1, d2, d3⟩ := (HB.out.keeps0 KW.out)
            have hbx : w.heap.size < wr.heap.size := World.block_lt_of_cell? wr _ d0
            have HB9 := Lib.hid (show ¬ b9 = g from fun e => by have := HG3.out; omega)
            have HB93 := Lib.hid hb9
            have hnn : t.n = (n : Int) := HN.out
            clear hkv hva h9 hb9
            by_cases hlt : k < n
            · have hd : decide ((k : Int) + 1 ≤ t.n) = true := by simp; omega
              have hk24 : (k : Int) + 1 ≤ 24 := by omega
              clear hnn
              go_wp2_with fail
              clear d0 d1 d2 d3 hbx c9 l9 hd
              have HLI := Lib.hid (show LevI n n (levTo t.ops v0 k) from levTo_ok t.ops HL0.out k (by omega))
              have HNK := Lib.hid (show levTo t.ops v0 (k + 1) = levR ((k : Int) + 1) t.ops (levTo t.ops v0 k) by rw [levTo]; rfl)
              generalize levTo t.ops v0 k = vk at HVA HLI HNK
              generalize hw7 : wr = w7 at HKV HVA H9 KW ⊢
              clear hw7
              go_loopw [45] (fun v45 wr' => ∃ j : Nat, v45 = .int .i64 (j : Int) ∧ j ≤ t.ops.length ∧ ArrAt w7 g (levR ((k : Int) + 1) (t.ops.take j) vk) wr') (fun v45 _ => t.ops.length - (intOf v45).toNat)
              case atStart => exact ⟨0, rfl, Nat.zero_le _, HVA.out, Keeps.refl _ _⟩
              case round =>
                obtain ⟨j, rfl, hj, hva, hkv⟩ := hrel
                have HVJ := Lib.hid hva; have HKJ := Lib.hid hkv
                clear hva hkv
                by_cases hjl : j < t.ops.length
                · have KW2 := Lib.hid (HKW.out wr (HKV.out.trans HKJ.out))
                  obtain ⟨bo, oo, rfl, hcell⟩ := HT.out.ops.cell rfl (by omega)
                  obtain ⟨o, ho⟩ : ∃ o, t.ops[j]? = some o := ⟨_, List.getElem?_eq_getElem hjl⟩
                  obtain ⟨va, vb, vd, p0', p1', p2', p3', i1, i2, i3⟩ := hcell j o ho
                  have p0 := KW2.out.cell p0' (fun h => h); have p1 := KW2.out.cell p1' (fun h => h); have p2 := KW2.out.cell p2' (fun h => h); have p3 := KW2.out.cell p3' (fun h => h)
                  clear p0' p1' p2' p3'
                  obtain ⟨a1, k1, f1, _⟩ := i1.form
                  obtain ⟨a2, k3, f2, _⟩ := i2.form
                  obtain ⟨a3, k4, f3, _⟩ := i3.form
                  subst f1 f2 f3
                  have I1 := Lib.hid i1; have I2 := Lib.hid i2
                  have HPO := Lib.hid (HPRE.out o (List.mem_of_getElem? ho)); have HAO := Lib.hid (HADD.out o (List.mem_of_getElem? ho))
                  have HNX := Lib.hid (show levR ((k : Int) + 1) (t.ops.take (j + 1)) vk = levOp ((k : Int) + 1) o (levR ((k : Int) + 1) (t.ops.take j) vk) by rw [take_getS ho, levR_snoc])
                  have HLJ := Lib.hid (show LevI n n (levR ((k : Int) + 1) (t.ops.take j) vk) from levR_ok (by omega) _ _ HLI.out)
                  have K4 := (Keeps.refl (fun _ => False) wr).alloc (.cells #[.slice a1 o.pre.length k1, .slice a2 o.add.length k3, .slice a3 o.del.length k4, .int .i64 o.cost] 80)
                  have HO4 := Lib.hid (Four.new wr (.slice a1 o.pre.length k1) (.slice a2 o.add.length k3) (.slice a3 o.del.length k4) (.int .i64 o.cost) 80)
                  have HVJ4 := Lib.hid (HVJ.out.keeps K4 (fun h => h)); have HKJ4 := Lib.hid (HKJ.out.trans (K4.mono (fun _ _ h => h.elim))); have KW4 := Lib.hid (KW2.out.trans K4)
                  clear hcell ho i1 i2 i3 K4 HVJ HKJ KW2
                  go_upto_region 18 with fail
                  generalize hw4 : (wr.alloc (.cells #[.slice a1 o.pre.length k1, .slice a2 o.add.length k3, .slice a3 o.del.length k4, .int .i64 o.cost] 80)) = w4 at HVJ4 HKJ4 HO4 KW4 ⊢
                  clear p0 p1 p2 p3 hw4
                  obtain ⟨b4, hb4⟩ : ∃ b4, wr.heap.size = b4 := ⟨_, rfl⟩
                  rw [hb4] at HO4 ⊢
                  clear hb4
                  generalize levR ((k : Int) + 1) (t.ops.take j) vk = vj at HVJ4 HNX HLJ ⊢
                  have HC54 := Lib.hid (HC5.out w4 (HKV.out.trans HKJ4.out))
                  have H94 := Lib.hid (HKJ4.out.heap H9.out HB9.out)
                  obtain ⟨q0, q1, q2, q3⟩ := HO4.out
                  have hq4 := HO4.out.lt
                  go_wp2_with fail
                  refine (containsF2_any 118 (g + 1) b9 (fun p => decide (getV vj p < 0 ∨ ((k : Int) + 1) ≤ getV vj p)) HEN.out w4 _ o.pre (I1.out.keeps0 KW4.out) (fun W x hk hx => lev1_any W (g + 1) b9 g n vj ((k : Int) + 1) x (hk.cell HC54.out (fun h => h)) (hk.cell ((cell_of_blk H94.out).trans rfl) (fun h => h)) (HVJ4.out.keeps hk (fun h => h)) HLJ.out.1 (HPO.out x hx))).mono ?_
                  rintro e w5 ⟨rfl, hk5⟩
                  have HVJ5 := Lib.hid (HVJ4.out.keeps hk5 (fun h => h)); have HKJ5 := Lib.hid (HKJ4.out.trans (hk5.mono (fun _ _ h => h.elim))); have HO5 := Lib.hid (HO4.out.keeps0 hk5)
                  have HBAD := Lib.hid (show (o.pre.any fun p => decide (getV vj p < 0 ∨ ((k : Int) + 1) ≤ getV vj p)) = levBad ((k : Int) + 1) vj o.pre from rfl)
                  rw [HBAD.out]
                  clear hk5 HVJ4 HKJ4 HO4 q0 q1 q2 q3 hq4 HC54 H94
                  cases hb : levBad ((k : Int) + 1) vj o.pre with
                  | true =>
                    have HNE := Lib.hid (show levR ((k : Int) + 1) (t.ops.take (j + 1)) vk = vj by rw [HNX.out]; unfold levOp; rw [if_pos hb])
                    clear hb
                    go_wp2_with fail
                    go_roundw
                    case rel => exact ⟨j + 1, by go_num, by omega, by rw [HNE.out]; exact HVJ5.out, HKJ5.out⟩
                    case measure => simp [intOf]; omega
                  | false =>
                    have HNE := Lib.hid (show levR ((k : Int) + 1) (t.ops.take (j + 1)) vk = levAdd ((k : Int) + 1) vj o.add by rw [HNX.out]; unfold levOp; rw [hb]; rfl)
                    obtain ⟨q0, q1, q2, q3⟩ := HO5.out
                    have hq5 := HO5.out.lt
                    clear hb
                    go_wp2_with fail
                    clear q0 q1 q2 q3 hq5
                    go_loopw [56] (fun v56 wr' => ∃ i : Nat, v56 = .int .i64 (i : Int) ∧ i ≤ o.add.length ∧ ArrAt w7 g (levAdd ((k : Int) + 1) vj (o.add.take i)) wr') (fun v56 _ => o.add.length - (intOf v56).toNat)
                    case atStart => exact ⟨0, rfl, Nat.zero_le _, HVJ5.out, HKJ5.out⟩
                    case round =>
                      obtain ⟨i, rfl, hi, hva, hkv⟩ := hrel
                      by_cases hil : i < o.add.length
                      · have KW6 := Lib.hid (HKW.out wr (HKV.out.trans hkv))
                        have hc5 := HC5.out wr (HKV.out.trans hkv)
                        have hl5 : g + 1 < wr.heap.size := World.block_lt_of_cell? wr _ hc5
                        have h9r := hkv.heap H9.out HB9.out
                        have c9 : wr.cell? ⟨b9, 0, none⟩ = some (.int .i64 ((k : Int) + 1)) := (cell_of_blk h9r).trans rfl
                        have l9 := lt_of_heap h9r
                        obtain ⟨b2, o2, rfl, hca⟩ := (I2.out.keeps0 KW6.out).cell rfl (by omega)
                        obtain ⟨p, hp⟩ : ∃ p, o.add[i]? = some p := ⟨_, List.getElem?_eq_getElem hil⟩
                        have hpb := HAO.out p (List.mem_of_getElem? hp)
                        obtain ⟨p, rfl⟩ := Int.eq_ofNat_of_zero_le hpb.1
                        have hc2 := hca i _ hp
                        have hpi : (p : Int) < (n : Int) := by omega
                        have HTK := Lib.hid (show levAdd ((k : Int) + 1) vj (o.add.take (i + 1)) = if getV (levAdd ((k : Int) + 1) vj (o.add.take i)) (p : Int) < 0 then (levAdd ((k : Int) + 1) vj (o.add.take i)).set p ((k : Int) + 1) else levAdd ((k : Int) + 1) vj (o.add.take i) by rw [take_getS hp, levAdd_snoc, Int.toNat_natCast])
                        have hlen : (levAdd ((k : Int) + 1) vj (o.add.take i)).length = n := (levAdd_ok (by omega) (o.add.take i) vj HLJ.out).1
                        generalize levAdd ((k : Int) + 1) vj (o.add.take i) = vi at hva HTK hlen
                        have hg2 := hva.get (j := p) (by omega)
                        have hgf := hva.frozen p
                        have hgl := hva.lt
                        have HVI := Lib.hid hva; have HKI := Lib.hid hkv
                        clear hca hp hpb hlen hva hkv h9r
                        by_cases hneg : getV vi (p : Int) < 0
                        · have hd : decide (getV vi (p : Int) < 0) = true := by simpa using hneg
                          have HN := Lib.hid (show levAdd ((k : Int) + 1) vj (o.add.take (i + 1)) = vi.set p ((k : Int) + 1) by rw [HTK.out, if_pos hneg])
                          clear hneg
                          generalize getV vi (p : Int) = y at hg2 hd
                          go_wp2_with fail
                          go_roundw
                          case rel => exact ⟨i + 1, by go_num, by omega, by rw [HN.out]; exact HVI.out.set p _, HKI.out.trans (keeps_set _ _ _ _)⟩
                          case measure => simp [intOf]; omega
                        · have hd : decide (getV vi (p : Int) < 0) = false := by simpa using hneg
                          have HN := Lib.hid (show levAdd ((k : Int) + 1) vj (o.add.take (i + 1)) = vi by rw [HTK.out, if_neg hneg])
                          clear hneg
                          generalize getV vi (p : Int) = y at hg2 hd
                          go_wp2_with fail
                          go_roundw
                          case rel => exact ⟨i + 1, by go_num, by omega, by rw [HN.out]; exact HVI.out, HKI.out⟩
                          case measure => simp [intOf]; omega
                      · rw [List.take_of_length_le (by omega), ← HNE.out] at hva
                        have HVI := Lib.hid hva; have HKI := Lib.hid hkv
                        clear hva hkv
                        go_wp2_with fail
                        go_roundw
                        case rel => exact ⟨j + 1, by go_num, by omega, HVI.out, HKI.out⟩
                        case measure => simp [intOf]; omega
                · rw [List.take_of_length_le (by omega), ← HNK.out] at HVJ
                  have h9r := HKJ.out.heap H9.out HB9.out
                  have c9 : wr.cell? ⟨b9, 0, none⟩ = some (.int .i64 ((k : Int) + 1)) := (cell_of_blk h9r).trans rfl
                  have l9 := lt_of_heap h9r
                  obtain ⟨m, hm⟩ : ∃ m, n = k + 1 + m := ⟨n - (k + 1), by omega⟩
                  have KA := (Keeps.refl (fun _ => False) wr).alloc (.cells #[.int .i64 ((k : Int) + 1 + 1)] 3)
                  have HNEW := Lib.hid (show LevAt w3 g n t.ops v0 m (.pointer (some ⟨wr.heap.size, 0, none⟩)) (wr.alloc (.cells #[.int .i64 ((k : Int) + 1 + 1)] 3)) from
                    ⟨k + 1, wr.heap.size, by omega, rfl, by have := HKV.out.size; have := HKJ.out.size; omega, by have h := heap_alloc_new wr (.cells #[.int .i64 ((k : Int) + 1 + 1)] 3); rw [show (((k + 1 : Nat) : Int) + 1) = (k : Int) + 1 + 1 by omega]; exact h, HVJ.out.keeps KA (fun h => h), (HKV.out.trans HKJ.out).trans (KA.mono (fun _ _ h => h.elim))⟩)
                  clear h9r KA
                  go_wp2_with fail
                  go_roundg m
                  case rel => exact HNEW.out
                  case measure => have := HKM9.out; omega
            · have hkn : k = n := by omega
              have hd : decide ((k : Int) + 1 ≤ t.n) = false := by simp; omega
              have HVV := Lib.hid (show IArr wr g (levelsV t s) by rw [HLV.out, ← hkn]; exact HVA.out)
              have hc5 := HC5.out wr HKV.out
              have hl5 : g + 1 < wr.heap.size := World.block_lt_of_cell? wr _ hc5
              have hd2 : ¬ ((k : Int) + 1 ≤ t.n) := by omega
              have hd3 : decide ((k : Int) < t.n) = false := by simp; omega
              clear hnn
              go_wp2_with fail
              go_ret
              exact ⟨g, by rw [HNT.out]; rfl, HVV.out, by have := HGW.out; omega, HK1.out.trans KW.out⟩

end Go.Proofs.YtdokakhgflljgaaGreat

namespace Go.Proofs.YtdokakhgflljgaaGreat
open Go.RowKit Go.Shelf

theorem supPre_ok {t : Tsk} (ok : t.Ok) (s : List Int) {ps : List Int} (hp : isSetB ps t.n = true) (k : Nat) : -24 ≤ (supPre t.n (levelsV t s) (ps.take k)).1 ∧ (supPre t.n (levelsV t s) (ps.take k)).1 ≤ 576 ∧ -1 ≤ (supPre t.n (levelsV t s) (ps.take k)).2 ∧ (supPre t.n (levelsV t s) (ps.take k)).2 ≤ t.n := by
  have n0 := ok.n0; have n1 := ok.n1
  have hl : ((ps.take k).length : Int) ≤ 24 := by
    have h1 : (ps.take k).length ≤ ps.length := by rw [List.length_take]; omega
    rcases setFrom_length hp with h | h
    · rw [h] at h1; simp at h1; rw [h]; simp
    · omega
  have h := supPre_low (levelsV_ok t s) n0 (by omega) (ps.take k) (fun p hpp => (isSet_iff.1 hp).1 p (List.mem_of_mem_take hpp)) (0, -1) (by simp only; omega)
  have hm : t.n * ((ps.take k).length : Int) ≤ 24 * 24 := Int.mul_le_mul n1 hl (by omega) (by decide)
  unfold supPre
  have h1 := h.1; have h2 := h.2.1
  simp only at h1 h2
  exact ⟨by omega, by omega, h.2.2⟩

section
variable (w3 : World) (g1 g2 : Nat)
/-- The supporters and their sums in memory. -/
def SupAt (st : List Int × List Int) (wr : World) : Prop := IArr wr g1 st.1 ∧ IArr wr g2 st.2 ∧ Keeps (fun b => b = g1 ∨ b = g2) w3 wr
end

set_option maxRecDepth 100000 in
set_option maxHeartbeats 8000000 in
theorem supporters_any (w : World) (vi vg vo vs : Value) (t : Tsk) (s : List Int) (h : TaskAt w vi vg vo t) (ok : t.Ok) (hs : Ints w vs s) (hsb : ∀ p ∈ s, 0 ≤ p ∧ p < t.n) :
    Calls Tryz.prog 96 #[.agg #[.int .i64 t.n, vi, vg, vo], vs] w fun e w' => ∃ g, e = .returned (.slice (some ⟨g, 0, none⟩) t.n.toNat t.n.toNat) ∧ IArr w' g (supV t s) ∧ w.heap.size ≤ g ∧ Keeps (fun _ => False) w w' := by
  obtain ⟨ai, ci, h1, _⟩ := h.init.form
  obtain ⟨ag, cg, h2, _⟩ := h.goal.form
  obtain ⟨ao, co, h3, hmo⟩ := h.ops.form
  subst h1 h2 h3
  have hn0 : 0 ≤ t.n ∧ t.n ≤ 24 := ⟨by have := ok.n0; omega, ok.n1⟩
  obtain ⟨n, hn⟩ : ∃ n : Nat, t.n = (n : Int) := ⟨t.n.toNat, by omega⟩
  have HNT := Lib.hid (show t.n.toNat = n by omega)
  have hn24 : n ≤ 24 := by omega
  have HN := Lib.hid hn; clear hn
  have K1 := (Keeps.refl (fun _ => False) w).alloc (.cells #[.int .i64 t.n, .slice ai t.init.length ci, .slice ag t.goal.length cg, .slice ao t.ops.length co] 25)
  have HB := Lib.hid (Four.new w (.int .i64 t.n) (.slice ai t.init.length ci) (.slice ag t.goal.length cg) (.slice ao t.ops.length co) 25)
  have HT := Lib.hid (h.keeps0 K1); have HS := Lib.hid (hs.keeps0 K1); have HK1 := Lib.hid K1; have OK := Lib.hid ok; have HSB := Lib.hid hsb
  have HPRE := Lib.hid (show ∀ o ∈ t.ops, ∀ p ∈ o.pre, 0 ≤ p ∧ p < (n : Int) from fun o ho => by have := (isSet_iff.1 (ok.ops o ho).pre).1; rw [HN.out] at this; exact this)
  have HADD := Lib.hid (show ∀ o ∈ t.ops, ∀ p ∈ o.add, 0 ≤ p ∧ p < (n : Int) from fun o ho => by have := (isSet_iff.1 (ok.ops o ho).add).1; rw [HN.out] at this; exact this)
  have hop40 : t.ops.length ≤ 40 := ok.few
  clear h ok hs hsb K1
  go_enter Tryz.func96, Tryz.ntmps96
  go_upto_region 1 with fail
  generalize (w.alloc (.cells #[.int .i64 t.n, .slice ai t.init.length ci, .slice ag t.goal.length cg, .slice ao t.ops.length co] 25)) = w1 at HT HB HK1 HS ⊢
  obtain ⟨d0, d1, d2, d3⟩ := HB.out
  have hbx := HB.out.lt
  go_wp2_with fail
  refine (levels_any _ _ _ _ _ t s HT.out OK.out HS.out HSB.out).mono ?_; rintro e w2 ⟨g0, rfl, hia, hgl, hk2⟩
  rw [HNT.out]
  have HLV := Lib.hid hia; have HK2 := Lib.hid (HK1.out.trans hk2)
  have HB2 := Lib.hid (HB.out.keeps0 hk2); have HT2 := Lib.hid (HT.out.keeps0 hk2)
  clear d0 d1 d2 d3 hbx hia hgl hk2
  obtain ⟨d0, d1, d2, d3⟩ := HB2.out
  have hbx := HB2.out.lt
  have hmk := run_make_ints w2 t.n n HN.out (by omega)
  go_upto_region 3 with fail
  have KM := (Keeps.refl (fun _ => False) w2).alloc (.cells (Array.replicate n (Value.int .i64 0)) 3)
  have HA1 := Lib.hid (IArr.zeros w2 n)
  have hg0 : g0 < w2.heap.size := HLV.out.lt
  have HKM := Lib.hid KM
  obtain ⟨g1, hg1⟩ : ∃ g, w2.heap.size = g := ⟨_, rfl⟩
  have HG1 := Lib.hid hg1
  rw [hg1] at HA1 hg0 ⊢
  generalize (w2.alloc (.cells (Array.replicate n (Value.int .i64 0)) 3)) = w3 at HA1 HKM ⊢
  clear d0 d1 d2 d3 hbx hmk KM hg1
  obtain ⟨d0, d1, d2, d3⟩ := (HB2.out.keeps0 HKM.out)
  have hbx := (HB2.out.keeps0 HKM.out).lt
  have hmk := run_make_ints w3 t.n n HN.out (by omega)
  go_upto_region 4 with fail
  have KM := (Keeps.refl (fun _ => False) w3).alloc (.cells (Array.replicate n (Value.int .i64 0)) 3)
  have HA2 := Lib.hid (IArr.zeros w3 n)
  have HA1' := Lib.hid (HA1.out.keeps KM (fun h => h))
  have hg1 : g1 < w3.heap.size := HA1.out.lt
  have HKM2 := Lib.hid (HKM.out.trans KM)
  obtain ⟨g2, hg2⟩ : ∃ g, w3.heap.size = g := ⟨_, rfl⟩
  rw [hg2] at HA2 hg1 ⊢
  generalize (w3.alloc (.cells (Array.replicate n (Value.int .i64 0)) 3)) = w4 at HA1' HA2 HKM2 ⊢
  have HGN := Lib.hid (show g1 ≠ g2 ∧ g0 ≠ g1 ∧ g0 ≠ g2 ∧ w2.heap.size ≤ g1 ∧ w2.heap.size ≤ g2 by have := HG1.out; omega)
  clear d0 d1 d2 d3 hbx hmk KM hg2 hg1 hg0 HA1 HKM
  have HKW : ∀ wq : World, Keeps (fun b => b = g1 ∨ b = g2) w4 wq → Keeps (fun _ => False) w2 wq := fun wq hk => HKM2.out.trans' hk (fun i hi => .inr (by have := HGN.out; rcases hi with e | e <;> omega))
  replace HKW := Lib.hid HKW
  go_wp2_with fail
  go_loopw [28] (fun v28 wr => ∃ k : Nat, v28 = .int .i64 (k : Int) ∧ k ≤ n ∧ Keeps (fun b => b = g1 ∨ b = g2) w4 wr ∧ IArr wr g2 (List.replicate n 0) ∧ ∃ l : List Int, l.length = n ∧ (∀ j, j < k → l[j]? = some (-1)) ∧ IArr wr g1 l) (fun v28 _ => n - (intOf v28).toNat)
  case atStart => exact ⟨0, rfl, Nat.zero_le _, Keeps.refl _ _, HA2.out, _, List.length_replicate, fun j hj => absurd hj (by omega), HA1'.out⟩
  case round =>
    obtain ⟨k, rfl, hk, hkr, hz2, l, hl, hlj, hla⟩ := hrel
    by_cases hlt : k < n
    · have hnk : (k : Int) < (n : Int) := by omega
      obtain ⟨x, hx⟩ : ∃ x, l[k]? = some x := ⟨_, List.getElem?_eq_getElem (by omega)⟩
      have hc := hla.cell hx
      have hf := hla.frozen k
      have hlt' := hla.lt
      have HN1 := Lib.hid (show Keeps (fun b => b = g1 ∨ b = g2) w4 (wr.setCell ⟨g1, k, none⟩ (.int .i64 (-1))) ∧ IArr (wr.setCell ⟨g1, k, none⟩ (.int .i64 (-1))) g2 (List.replicate n 0) ∧ ∃ l' : List Int, l'.length = n ∧ (∀ j, j < k + 1 → l'[j]? = some (-1)) ∧ IArr (wr.setCell ⟨g1, k, none⟩ (.int .i64 (-1))) g1 l' from
        ⟨hkr.trans ((keeps_set _ _ _ _).mono (fun _ _ h => .inl h)), hz2.keeps (keeps_set _ _ _ _) (fun e => HGN.out.1 e.symm), l.set k (-1), by rw [List.length_set]; exact hl, fun j hj => by
          rw [List.getElem?_set]
          split
          · rw [if_pos (by omega)]
          · exact hlj j (by omega), hla.set k _⟩)
      clear hkr hl hlj hla hx hz2
      go_wp2_with fail
      go_roundw
      case rel => exact ⟨k + 1, by go_num, by omega, HN1.out⟩
      case measure => simp [intOf]; omega
    · have HV := Lib.hid (show SupAt w4 g1 g2 (supTo t.n (levelsV t s) t.ops 0) wr from by
        have e : l = List.replicate n (-1) := List.eq_replicate_iff.2 ⟨hl, fun b hb => by
          obtain ⟨j, hj⟩ := List.mem_iff_getElem?.1 hb
          have h1 := hlj j (by have := (List.getElem?_eq_some_iff.1 hj).1; omega)
          rw [h1] at hj; cases hj; rfl⟩
        rw [e] at hla
        refine ⟨?_, ?_, hkr⟩
        · rw [supTo, HNT.out]; exact hla
        · rw [supTo, HNT.out]; exact hz2)
      have KW0 := Lib.hid (HKW.out wr hkr)
      clear hkr hl hlj hla hz2
      obtain ⟨d0, d1, d2, d3⟩ := (HB2.out.keeps0 KW0.out)
      have hbx := (HB2.out.keeps0 KW0.out).lt
      go_wp2_with fail
      clear d0 d1 d2 d3 hbx
      go_loopw [38] (fun v38 wr => ∃ k : Nat, v38 = .int .i64 (k : Int) ∧ k ≤ t.ops.length ∧ SupAt w4 g1 g2 (supTo t.n (levelsV t s) t.ops k) wr) (fun v38 _ => t.ops.length - (intOf v38).toNat)
      case atStart => exact ⟨0, rfl, Nat.zero_le _, HV.out⟩
      case round =>
        obtain ⟨k, rfl, hk, hs1, hs2, hks⟩ := hrel
        have KW := Lib.hid (HKW.out wr hks)
        by_cases hkl : k < t.ops.length
        · have HS1 := Lib.hid hs1; have HS2 := Lib.hid hs2; have HKS := Lib.hid hks
          clear hs1 hs2 hks
          obtain ⟨bo, oo, rfl, hcell⟩ := HT2.out.ops.cell rfl (by omega)
          obtain ⟨o, ho⟩ : ∃ o, t.ops[k]? = some o := ⟨_, List.getElem?_eq_getElem hkl⟩
          obtain ⟨va, vb, vd, p0', p1', p2', p3', i1, i2, i3⟩ := hcell k o ho
          have p0 := KW.out.cell p0' (fun h => h); have p1 := KW.out.cell p1' (fun h => h); have p2 := KW.out.cell p2' (fun h => h); have p3 := KW.out.cell p3' (fun h => h)
          clear p0' p1' p2' p3'
          obtain ⟨a1, k1, f1, _⟩ := i1.form
          obtain ⟨a2, k3, f2, _⟩ := i2.form
          obtain ⟨a3, k4, f3, _⟩ := i3.form
          subst f1 f2 f3
          have I1 := Lib.hid i1; have I2 := Lib.hid i2
          have HPO := Lib.hid (HPRE.out o (List.mem_of_getElem? ho)); have HAO := Lib.hid (HADD.out o (List.mem_of_getElem? ho))
          have HOS := Lib.hid (OK.out.ops o (List.mem_of_getElem? ho)).pre
          have HNX := Lib.hid (show supTo t.n (levelsV t s) t.ops (k + 1) = supAdd (k : Int) (supPre t.n (levelsV t s) o.pre).1 (supPre t.n (levelsV t s) o.pre).2 (levelsV t s) (supTo t.n (levelsV t s) t.ops k) o.add by rw [supTo, ho])
          have HSI := Lib.hid (supTo_ok OK.out s k (by omega))
          have HLI := Lib.hid (levelsV_ok t s)
          have K4 := (Keeps.refl (fun _ => False) wr).alloc (.cells #[.slice a1 o.pre.length k1, .slice a2 o.add.length k3, .slice a3 o.del.length k4, .int .i64 o.cost] 80)
          have HO4 := Lib.hid (Four.new wr (.slice a1 o.pre.length k1) (.slice a2 o.add.length k3) (.slice a3 o.del.length k4) (.int .i64 o.cost) 80)
          have HS14 := Lib.hid (HS1.out.keeps K4 (fun h => h)); have HS24 := Lib.hid (HS2.out.keeps K4 (fun h => h)); have HKS4 := Lib.hid (HKS.out.trans (K4.mono (fun _ _ h => h.elim))); have KW4 := Lib.hid (KW.out.trans K4)
          clear hcell ho i1 i2 i3 K4 HS1 HS2 HKS KW
          go_upto_region 13 with fail
          generalize hw5 : (wr.alloc (.cells #[.slice a1 o.pre.length k1, .slice a2 o.add.length k3, .slice a3 o.del.length k4, .int .i64 o.cost] 80)) = w5 at HS14 HS24 HKS4 HO4 KW4 ⊢
          clear p0 p1 p2 p3 hw5
          obtain ⟨b4, hb4⟩ : ∃ b4, wr.heap.size = b4 := ⟨_, rfl⟩
          try rw [hb4] at HO4
          try rw [hb4]
          clear hb4
          generalize supTo t.n (levelsV t s) t.ops k = st at HS14 HS24 HNX HSI
          have HL5 := Lib.hid (HLV.out.keeps KW4.out (fun h => h))
          obtain ⟨q0, q1, q2, q3⟩ := HO4.out
          have hq4 := HO4.out.lt
          obtain ⟨d0, d1, d2, d3⟩ := (HB2.out.keeps0 KW4.out)
          have hbx := (HB2.out.keeps0 KW4.out).lt
          go_wp2_with fail
          go_loop [11, 12, 46] (fun v11 v12 v46 => ∃ j : Nat, j ≤ o.pre.length ∧ v46 = .int .i64 (j : Int) ∧ v11 = .int .i64 (supPre t.n (levelsV t s) (o.pre.take j)).1 ∧ v12 = .int .i64 (supPre t.n (levelsV t s) (o.pre.take j)).2) (fun _ _ v46 => o.pre.length - (intOf v46).toNat)
          case atStart => exact ⟨0, Nat.zero_le _, rfl, rfl, rfl⟩
          case round =>
            obtain ⟨j, hj, rfl, rfl, rfl⟩ := hrel
            have hsp := supPre_ok OK.out s HOS.out j
            by_cases hjl : j < o.pre.length
            · obtain ⟨b1, o1, rfl, hca⟩ := (I1.out.keeps0 KW4.out).cell rfl (by omega)
              obtain ⟨p, hp⟩ : ∃ p, o.pre[j]? = some p := ⟨_, List.getElem?_eq_getElem hjl⟩
              have hpb := HPO.out p (List.mem_of_getElem? hp)
              obtain ⟨p, rfl⟩ := Int.eq_ofNat_of_zero_le hpb.1
              have hc2 := hca j _ hp
              have hpi : (p : Int) < (n : Int) := by omega
              have hg1 := HL5.out.get (j := p) (by have := HLI.out.1; rw [this, HNT.out]; omega)
              have hgl := HL5.out.lt
              have hyb := HLI.out.get (p := (p : Int)) (by rw [HNT.out]; omega)
              have HTK := Lib.hid (show supPre t.n (levelsV t s) (o.pre.take (j + 1)) = ((supPre t.n (levelsV t s) (o.pre.take j)).1 + getV (levelsV t s) (p : Int), if getV (levelsV t s) (p : Int) < 0 then t.n else max (supPre t.n (levelsV t s) (o.pre.take j)).2 (getV (levelsV t s) (p : Int))) by rw [take_getS hp, supPre_snoc])
              clear hca hp hpb
              rw [HNT.out] at hyb
              generalize supPre t.n (levelsV t s) (o.pre.take j) = a at hsp HTK ⊢
              generalize getV (levelsV t s) (p : Int) = y at hg1 hyb HTK
              by_cases hneg : y < 0
              · have hd : decide (y < 0) = true := by simpa using hneg
                have HN2 := Lib.hid (show supPre t.n (levelsV t s) (o.pre.take (j + 1)) = (a.1 + y, t.n) by rw [HTK.out, if_pos hneg])
                clear hneg HTK
                go_wp2_with fail
                go_round
                case rel => exact ⟨j + 1, by omega, by go_num, by rw [HN2.out], by rw [HN2.out]⟩
                case measure => simp [intOf]; omega
              · have hd : decide (y < 0) = false := by simpa using hneg
                have HN2 := Lib.hid (show supPre t.n (levelsV t s) (o.pre.take (j + 1)) = (a.1 + y, max a.2 y) by rw [HTK.out, if_neg hneg])
                clear hneg HTK
                go_wp2_with fail
                all_goals
                  go_round
                  case rel => exact ⟨j + 1, by omega, by go_num, by rw [HN2.out], by rw [HN2.out]⟩
                  case measure => simp [intOf]; omega
            · rw [List.take_of_length_le (by omega)] at hsp ⊢
              have hsp2 := hsp
              obtain ⟨sm, tp, hst⟩ : ∃ sm tp, supPre t.n (levelsV t s) o.pre = (sm, tp) := ⟨_, _, rfl⟩
              rw [hst] at HNX hsp ⊢
              simp only at HNX hsp ⊢
              clear hst hsp2
              go_wp2_with fail
              clear q0 q1 q2 q3 hq4 d0 d1 d2 d3 hbx
              go_loopw [73] (fun v73 wr' => ∃ i : Nat, v73 = .int .i64 (i : Int) ∧ i ≤ o.add.length ∧ SupAt w4 g1 g2 (supAdd (k : Int) sm tp (levelsV t s) st (o.add.take i)) wr') (fun v73 _ => o.add.length - (intOf v73).toNat)
              case atStart => exact ⟨0, rfl, Nat.zero_le _, HS14.out, HS24.out, HKS4.out⟩
              case round =>
                obtain ⟨i, rfl, hi, hs1, hs2, hks⟩ := hrel
                by_cases hil : i < o.add.length
                · have KW6 := Lib.hid (HKW.out wr hks)
                  obtain ⟨b2, o2, rfl, hca⟩ := (I2.out.keeps0 KW6.out).cell rfl (by omega)
                  obtain ⟨p, hp⟩ : ∃ p, o.add[i]? = some p := ⟨_, List.getElem?_eq_getElem hil⟩
                  have hpb := HAO.out p (List.mem_of_getElem? hp)
                  obtain ⟨p, rfl⟩ := Int.eq_ofNat_of_zero_le hpb.1
                  have hc2 := hca i _ hp
                  have hpi : (p : Int) < (n : Int) := by omega
                  have HTK := Lib.hid (show supAdd (k : Int) sm tp (levelsV t s) st (o.add.take (i + 1)) = if tp < getV (levelsV t s) (p : Int) ∧ 0 < getV (levelsV t s) (p : Int) ∧ (getV (supAdd (k : Int) sm tp (levelsV t s) st (o.add.take i)).1 (p : Int) < 0 ∨ sm < getV (supAdd (k : Int) sm tp (levelsV t s) st (o.add.take i)).2 (p : Int)) then ((supAdd (k : Int) sm tp (levelsV t s) st (o.add.take i)).1.set p (k : Int), (supAdd (k : Int) sm tp (levelsV t s) st (o.add.take i)).2.set p sm) else supAdd (k : Int) sm tp (levelsV t s) st (o.add.take i) by rw [take_getS hp, supAdd_snoc, Int.toNat_natCast])
                  have hsi := supAdd_ok (n := t.n.toNat) (m := k + 1) (c := 1000) (i := (k : Int)) (sum := sm) (top := tp) (by omega) (by omega) (levelsV t s) (o.add.take i) st ⟨HSI.out.1, HSI.out.2.1, fun y hy => by have := HSI.out.2.2.1 y hy; omega, HSI.out.2.2.2⟩
                  have hl1 := hsi.1; have hl2 := hsi.2.1
                  rw [HNT.out] at hl1 hl2
                  generalize supAdd (k : Int) sm tp (levelsV t s) st (o.add.take i) = st2 at hs1 hs2 HTK hl1 hl2
                  have hg0 := (HLV.out.keeps KW6.out (fun h => h)).get (j := p) (by have := HLI.out.1; rw [this, HNT.out]; omega)
                  have hgl0 := (HLV.out.keeps KW6.out (fun h => h)).lt
                  have hg1' := hs1.get (j := p) (by omega)
                  have hf1 := hs1.frozen p
                  have hgl1 := hs1.lt
                  have hg2' := hs2.get (j := p) (by omega)
                  have hf2 := hs2.frozen p
                  have hgl2 := hs2.lt
                  have HS1 := Lib.hid hs1; have HS2 := Lib.hid hs2; have HKS := Lib.hid hks
                  have hs2b := (hs2.keeps (keeps_set wr g1 p (.int .i64 (k : Int))) (fun e => HGN.out.1 e.symm))
                  have hg2b := hs2b.get (j := p) (by omega)
                  have hf2b := hs2b.frozen p
                  have HPUT := Lib.hid (show SupAt w4 g1 g2 (st2.1.set p (k : Int), st2.2.set p sm) ((wr.setCell ⟨g1, p, none⟩ (.int .i64 (k : Int))).setCell ⟨g2, p, none⟩ (.int .i64 sm)) from
                    ⟨(hs1.set p (k : Int)).keeps (keeps_set _ g2 p _) (fun e => HGN.out.1 e), hs2b.set p sm, (hks.trans ((keeps_set wr g1 p _).mono (fun _ _ h => .inl h))).trans ((keeps_set _ g2 p _).mono (fun _ _ h => .inr h))⟩)
                  clear hca hp hpb hs1 hs2 hks hsi hs2b
                  generalize getV (levelsV t s) (p : Int) = y at hg0 HTK
                  generalize getV st2.1 (p : Int) = ov at hg1' HTK
                  generalize getV st2.2 (p : Int) = lv at hg2' hg2b HTK
                  by_cases c1 : tp < y
                  · have b1 : decide (tp < y) = true := by simpa using c1
                    by_cases c2 : 0 < y
                    · have b2' : decide (0 < y) = true := by simpa using c2
                      by_cases c3 : ov < 0
                      · have b3 : decide (ov < 0) = true := by simpa using c3
                        have HN2 := Lib.hid (show supAdd (k : Int) sm tp (levelsV t s) st (o.add.take (i + 1)) = (st2.1.set p (k : Int), st2.2.set p sm) by rw [HTK.out, if_pos (by omega)])
                        clear HTK
                        go_wp2_with fail
                        go_roundw
                        case rel => exact ⟨i + 1, by go_num, by omega, by rw [HN2.out]; exact HPUT.out⟩
                        case measure => simp [intOf]; omega
                      · have b3 : decide (ov < 0) = false := by simpa using c3
                        by_cases c4 : sm < lv
                        · have b4' : decide (sm < lv) = true := by simpa using c4
                          have HN2 := Lib.hid (show supAdd (k : Int) sm tp (levelsV t s) st (o.add.take (i + 1)) = (st2.1.set p (k : Int), st2.2.set p sm) by rw [HTK.out, if_pos (by omega)])
                          clear HTK
                          go_wp2_with fail
                          go_roundw
                          case rel => exact ⟨i + 1, by go_num, by omega, by rw [HN2.out]; exact HPUT.out⟩
                          case measure => simp [intOf]; omega
                        · have b4' : decide (sm < lv) = false := by simpa using c4
                          have HN2 := Lib.hid (show supAdd (k : Int) sm tp (levelsV t s) st (o.add.take (i + 1)) = st2 by rw [HTK.out, if_neg (by omega)])
                          clear HTK
                          go_wp2_with fail
                          go_roundw
                          case rel => exact ⟨i + 1, by go_num, by omega, by rw [HN2.out]; exact ⟨HS1.out, HS2.out, HKS.out⟩⟩
                          case measure => simp [intOf]; omega
                    · have b2' : decide (0 < y) = false := by simpa using c2
                      have HN2 := Lib.hid (show supAdd (k : Int) sm tp (levelsV t s) st (o.add.take (i + 1)) = st2 by rw [HTK.out, if_neg (by omega)])
                      clear HTK
                      go_wp2_with fail
                      go_roundw
                      case rel => exact ⟨i + 1, by go_num, by omega, by rw [HN2.out]; exact ⟨HS1.out, HS2.out, HKS.out⟩⟩
                      case measure => simp [intOf]; omega
                  · have b1 : decide (tp < y) = false := by simpa using c1
                    have HN2 := Lib.hid (show supAdd (k : Int) sm tp (levelsV t s) st (o.add.take (i + 1)) = st2 by rw [HTK.out, if_neg (by omega)])
                    clear HTK
                    go_wp2_with fail
                    go_roundw
                    case rel => exact ⟨i + 1, by go_num, by omega, by rw [HN2.out]; exact ⟨HS1.out, HS2.out, HKS.out⟩⟩
                    case measure => simp [intOf]; omega
                · rw [List.take_of_length_le (by omega), ← HNX.out] at hs1 hs2
                  have HS1 := Lib.hid hs1; have HS2 := Lib.hid hs2; have HKS := Lib.hid hks
                  clear hs1 hs2 hks
                  go_wp2_with fail
                  go_roundw
                  case rel => exact ⟨k + 1, by go_num, by omega, HS1.out, HS2.out, HKS.out⟩
                  case measure => simp [intOf]; omega
        · have hkn : k = t.ops.length := by omega
          have HS1 := Lib.hid (show IArr wr g1 (supV t s) by unfold supV; rw [← hkn]; exact hs1)
          clear hs1 hs2 hks
          go_wp2_with fail
          go_ret
          exact ⟨g1, by rw [HNT.out]; rfl, HS1.out, by have := HGN.out; have := HK2.out.size; omega, HK2.out.trans KW.out⟩

end Go.Proofs.YtdokakhgflljgaaGreat

namespace Go.Proofs.YtdokakhgflljgaaGreat
open Go.RowKit Go.Shelf

set_option maxRecDepth 100000 in
set_option maxHeartbeats 2000000 in
theorem below_any (W : World) (b8 g n : Nat) (v : List Int) (x : Int) (h8 : W.cell? ⟨b8, 0, none⟩ = some (.slice (some ⟨g, 0, none⟩) n n)) (hv : IArr W g v) (hl : v.length = n) (hx : 0 ≤ x ∧ x < (n : Int)) :
    Calls Tryz.prog 98 #[.int .i64 x, .pointer (some ⟨b8, 0, none⟩)] W fun e W' => e = .returned (.bool (decide (getV v x < 0))) ∧ Keeps (fun _ => False) W W' := by
  obtain ⟨j, rfl⟩ := Int.eq_ofNat_of_zero_le hx.1
  have hg := hv.get (j := j) (by omega)
  have hgl := hv.lt
  have hb8 : b8 < W.heap.size := World.block_lt_of_cell? W _ h8
  have hxn := hx.2
  clear hv hx
  generalize getV v (j : Int) = y at hg ⊢
  go_enter Tryz.func98, Tryz.ntmps98
  go_wp2_with fail
  go_ret
  exact ⟨rfl, Keeps.refl _ _⟩

/-- What achieve is given: the boxes of its variables, and the supporters. -/
structure AchW (wb w0 : World) (b2 b9 b10 b11 b12 gs gd n m : Nat) (vi vg vo : Value) (t : Tsk) (sup : List Int) : Prop where
  task : TaskAt wb vi vg vo t
  low : ∀ W, Keeps (fun b => b = gd ∨ b = b10) w0 W → Keeps (fun _ => False) wb W
  x2 : Four w0 b2 (.int .i64 t.n) vi vg vo
  x9 : w0.heap[b9]? = some (.cells #[.slice (some ⟨gs, 0, none⟩) n n] 22 (0, 0))
  x11 : w0.heap[b11]? = some (.cells #[.slice (some ⟨gd, 0, none⟩) m m] 44 (0, 0))
  x12 : w0.heap[b12]? = some (.cells #[.func (.func 99) #[] #[.pointer (some ⟨b9, 0, none⟩), .pointer (some ⟨b11, 0, none⟩), .pointer (some ⟨b2, 0, none⟩), .pointer (some ⟨b12, 0, none⟩), .pointer (some ⟨b10, 0, none⟩)]] 172 (0, 0))
  sup : IArr w0 gs sup
  l10 : b10 < w0.heap.size
  ld : gd < w0.heap.size
  n2 : b2 ≠ gd ∧ b2 ≠ b10
  n9 : b9 ≠ gd ∧ b9 ≠ b10
  n11 : b11 ≠ gd ∧ b11 ≠ b10
  n12 : b12 ≠ gd ∧ b12 ≠ b10
  ns : gs ≠ gd ∧ gs ≠ b10
  nd : gd ≠ b10
/-- The steps so far, and the done ones, in memory. -/
def AchAt (w0 : World) (gd b10 : Nat) (st : List Bool × List Int) (W : World) : Prop :=
  BArr W gd st.1 ∧ (∃ vp, W.heap[b10]? = some (.cells #[vp] 22 (0, 0)) ∧ W.ownsRow w0.heap.size 3 1 vp st.2.length (st.2.map (Value.int .i64))) ∧ Keeps (fun b => b = gd ∨ b = b10) w0 W

theorem opPre_at {ops : List Opr} {i : Nat} {o : Opr} (h : ops[i]? = some o) : opPre ops (i : Int) = o.pre := by
  unfold opPre; rw [Int.toNat_natCast, h]; rfl

set_option maxRecDepth 100000 in
set_option maxHeartbeats 8000000 in
theorem achieve_any {wb w0 : World} {b2 b9 b10 b11 b12 gs gd n m : Nat} {vi vg vo : Value} {t : Tsk} {sup : List Int} (hw : AchW wb w0 b2 b9 b10 b11 b12 gs gd n m vi vg vo t sup) (ok : t.Ok) (hn : AchNeed sup t.ops) (hl : sup.length = n) (hm : t.ops.length = m) :
    ∀ (k : Nat) (p : Int) (st : List Bool × List Int) (W : World), 0 ≤ p → p < (n : Int) → st.1.length = m → (∀ i ∈ st.2, 0 ≤ i ∧ i < (m : Int)) → offs st.1 + st.2.length ≤ m → offs st.1 < k → AchAt w0 gd b10 st W →
    Calls Tryz.prog 99 #[.int .i64 p, .pointer (some ⟨b9, 0, none⟩), .pointer (some ⟨b11, 0, none⟩), .pointer (some ⟨b2, 0, none⟩), .pointer (some ⟨b12, 0, none⟩), .pointer (some ⟨b10, 0, none⟩)] W fun e w' =>
      e = .returned (.tuple #[]) ∧ AchAt w0 gd b10 (ach sup t.ops k p st) w' := by
  obtain ⟨ai, ci, h1, _⟩ := hw.task.init.form
  obtain ⟨ag, cg, h2, _⟩ := hw.task.goal.form
  obtain ⟨ao, co, h3, hmo⟩ := hw.task.ops.form
  subst h1 h2 h3
  obtain ⟨i0, hi0, hz0, hz1, hz2⟩ := info_parts Tryz.info3
  have HW := Lib.hid hw; have OK := Lib.hid ok; have HN := Lib.hid hn
  have hm40 : m ≤ 40 := by have := ok.few; omega
  clear hw ok hn
  intro k
  induction k with
  | zero => intro p st W _ _ _ _ _ h; exact absurd h (by omega)
  | succ k ih =>
    intro p st W hp0 hpn hsl hso hmore hk hat
    have IH := Lib.hid ih; clear ih
    obtain ⟨hbd, ⟨vp, hbp, hrow⟩, hkw⟩ := hat
    obtain ⟨j, rfl⟩ := Int.eq_ofNat_of_zero_le hp0
    have hsa : IArr W gs sup := HW.out.sup.keeps hkw (fun e => by have := HW.out.ns; rcases e with e | e <;> omega)
    have hg := hsa.get (j := j) (by omega)
    have hgl := hsa.lt
    have hin := HN.out.inn (j : Int) hp0 (by omega)
    have c9 := Boxed.cell (hkw.heap HW.out.x9 (fun e => by have := HW.out.n9; rcases e with e | e <;> omega))
    have l9 := lt_of_heap (hkw.heap HW.out.x9 (fun e => by have := HW.out.n9; rcases e with e | e <;> omega))
    have HBD := Lib.hid hbd; have HBP := Lib.hid hbp; have HROW := Lib.hid hrow; have HKW := Lib.hid hkw; have HSO := Lib.hid hso
    clear hbd hbp hrow hkw hso hsa
    obtain ⟨y, hy⟩ : ∃ y, getV sup (j : Int) = y := ⟨_, rfl⟩
    have HY := Lib.hid hy
    rw [hy] at hg hin
    clear hy
    go_enter Tryz.func99, Tryz.ntmps99
    by_cases hneg : y < 0
    · have hd : decide (y < 0) = true := by simpa using hneg
      have HR := Lib.hid (show ach sup t.ops (k + 1) (j : Int) st = st from ach_skip (by rw [HY.out]; exact .inl hneg))
      clear hneg
      go_wp2_with fail
      refine bodyPost_ret (results_none rfl _ _ _) rfl ?_
      exact ⟨rfl, by rw [HR.out]; exact ⟨HBD.out, ⟨_, HBP.out, HROW.out⟩, HKW.out⟩⟩
    · have hd : decide (y < 0) = false := by simpa using hneg
      obtain ⟨i, rfl⟩ := Int.eq_ofNat_of_zero_le (show 0 ≤ y by omega)
      have hil : i < m := by omega
      have c11 := Boxed.cell (HKW.out.heap HW.out.x11 (fun e => by have := HW.out.n11; rcases e with e | e <;> omega))
      have l11 := lt_of_heap (HKW.out.heap HW.out.x11 (fun e => by have := HW.out.n11; rcases e with e | e <;> omega))
      have hgb := HBD.out.get (j := i) (by omega)
      have hbl := HBD.out.lt
      have him : (i : Int) < (m : Int) := by omega
      cases hb : getB st.1 (i : Int) with
      | true =>
        rw [hb] at hgb
        have HR := Lib.hid (show ach sup t.ops (k + 1) (j : Int) st = st from ach_skip (by rw [HY.out]; exact .inr hb))
        clear hneg hb
        go_wp2_with fail
        refine bodyPost_ret (results_none rfl _ _ _) rfl ?_
        exact ⟨rfl, by rw [HR.out]; exact ⟨HBD.out, ⟨_, HBP.out, HROW.out⟩, HKW.out⟩⟩
      | false =>
        rw [hb] at hgb
        obtain ⟨o, ho⟩ : ∃ o, t.ops[i]? = some o := ⟨_, List.getElem?_eq_getElem (by omega)⟩
        have HR := Lib.hid (show ach sup t.ops (k + 1) (j : Int) st = ((achs sup t.ops k (st.1.set i true, st.2) o.pre).1, (achs sup t.ops k (st.1.set i true, st.2) o.pre).2 ++ [(i : Int)]) by
          have h := ach_go (sup := sup) (ops := t.ops) (k := k) (p := (j : Int)) (st := st) (by rw [HY.out, hb]; simp)
          rw [HY.out, opPre_at ho, Int.toNat_natCast] at h; exact h)
        have hoff := offs_set st.1 i (getB_false (q := (i : Int)) (by rw [Int.toNat_natCast]; omega) hb)
        have HA0 := Lib.hid (show ∀ jj, AchI m (st.1.set i true, st.2) (achs sup t.ops k (st.1.set i true, st.2) (o.pre.take jj)) from fun jj => by
          have h := achs_ok HN.out k (o.pre.take jj) (st.1.set i true, st.2) (fun q hq => HN.out.pre o (List.mem_of_getElem? ho) q (List.mem_of_mem_take hq)) (by simp only; rw [List.length_set]; omega) (by rw [hm]; exact HSO.out)
          rw [hm] at h; exact h)
        have hfz := HBD.out.frozen i
        have hs1 : AchAt w0 gd b10 (st.1.set i true, st.2) (W.setCell ⟨gd, i, none⟩ (.bool true)) := ⟨HBD.out.set i true, ⟨vp, (keeps_set W gd i (.bool true)).heap HBP.out (fun e => by have := HW.out.nd; omega), (keeps_set W gd i (.bool true)).ownsRow HROW.out (fun k hk e => by have h1 := (World.ownsRow.lt HROW.out k hk).1; have h2 := HW.out.ld; have h3 : k = gd := e; omega)⟩, HKW.out.trans ((keeps_set W gd i (.bool true)).mono (fun _ _ h => .inl h))⟩
        have HS1 := Lib.hid hs1
        have HPRE := Lib.hid (show ∀ q ∈ o.pre, 0 ≤ q ∧ q < (n : Int) from fun q hq => by have := HN.out.pre o (List.mem_of_getElem? ho) q hq; omega)
        have HOM := Lib.hid ho
        clear hneg hb hs1 ho
        go_upto_region 3 with fail
        generalize W.setCell ⟨gd, i, none⟩ (.bool true) = w1 at HS1 ⊢
        clear c9 l9 c11 l11 hg hgl hgb hbl hfz
        have KW1 := Lib.hid (HW.out.low w1 HS1.out.2.2)
        obtain ⟨d0, d1, d2, d3⟩ := HW.out.x2.keepsB HS1.out.2.2 (fun e => by have := HW.out.n2; rcases e with e | e <;> omega)
        have hbx := (HW.out.x2.keepsB HS1.out.2.2 (fun e => by have := HW.out.n2; rcases e with e | e <;> omega)).lt
        obtain ⟨bo, oo, rfl, hcell⟩ := HW.out.task.ops.cell rfl (by omega)
        obtain ⟨va, vb, vd, p0', p1', p2', p3', i1, i2, i3⟩ := hcell i o HOM.out
        have p0 := KW1.out.cell p0' (fun h => h)
        obtain ⟨a1, k1, f1, _⟩ := i1.form
        subst f1
        have I1 := Lib.hid i1
        have HST := Lib.hid hoff
        have himo : (i : Int) < ((t.ops.length : Nat) : Int) := by omega
        clear p0' p1' p2' p3' hcell i1 i2 i3 hoff
        go_wp2_with fail
        clear p0 d0 d1 d2 d3 hbx
        go_loopw [32] (fun v32 wr => ∃ jj : Nat, v32 = .int .i64 (jj : Int) ∧ jj ≤ o.pre.length ∧ AchAt w0 gd b10 (achs sup t.ops k (st.1.set i true, st.2) (o.pre.take jj)) wr) (fun v32 _ => o.pre.length - (intOf v32).toNat)
        case atStart => exact ⟨0, rfl, Nat.zero_le _, HS1.out⟩
        case round =>
          obtain ⟨jj, rfl, hjj, hat⟩ := hrel
          have HAT := Lib.hid hat; clear hat
          by_cases hjl : jj < o.pre.length
          · have KW2 := Lib.hid (HW.out.low wr HAT.out.2.2)
            obtain ⟨b1, o1, rfl, hca⟩ := (I1.out.keeps0 KW2.out).cell rfl (by omega)
            obtain ⟨q, hq⟩ : ∃ q, o.pre[jj]? = some q := ⟨_, List.getElem?_eq_getElem hjl⟩
            have hqb := HPRE.out q (List.mem_of_getElem? hq)
            have hc2 := hca jj _ hq
            have HTK := Lib.hid (show achs sup t.ops k (st.1.set i true, st.2) (o.pre.take (jj + 1)) = ach sup t.ops k q (achs sup t.ops k (st.1.set i true, st.2) (o.pre.take jj)) by rw [take_getS hq, achs_snoc])
            have hA := HA0.out jj
            have c12 := Boxed.cell (HAT.out.2.2.heap HW.out.x12 (fun e => by have := HW.out.n12; rcases e with e | e <;> omega))
            have l12 := lt_of_heap (HAT.out.2.2.heap HW.out.x12 (fun e => by have := HW.out.n12; rcases e with e | e <;> omega))
            have HCALL := Lib.hid (IH.out q (achs sup t.ops k (st.1.set i true, st.2) (o.pre.take jj)) wr hqb.1 hqb.2 hA.len hA.ops (by have h1 := hA.more; have h2 := HST.out; simp only at h1; omega) (by have h1 := hA.fewer; have h2 := HST.out; simp only at h1; omega) HAT.out)
            clear hca hq hA
            go_wp2_with fail
            refine HCALL.out.mono ?_; rintro e w2 ⟨rfl, hat2⟩
            have HAT2 := Lib.hid hat2; clear hat2 c12 l12 hc2
            go_wp2_with fail
            go_roundw
            case rel => exact ⟨jj + 1, by go_num, by omega, by rw [HTK.out]; exact HAT2.out⟩
            case measure => simp [intOf]; omega
          · have hA := HA0.out jj
            rw [List.take_of_length_le (by omega)] at HAT hA
            have HAI := Lib.hid hA; clear hA
            generalize achs sup t.ops k (st.1.set i true, st.2) o.pre = st2 at HAT HAI HR
            obtain ⟨hbd, ⟨vq, hbq, hrow⟩, hkr⟩ := HAT.out
            obtain ⟨ao3, cap3, hv3⟩ := ownsRow_form1 hrow
            subst hv3
            have hl2 : st2.2.length ≤ 40 := by have h1 := HAI.out.more; have h2 := HST.out; simp only at h1; omega
            have c10 := Boxed.cell hbq
            have z10 := Boxed.frozen hbq
            have l10 := lt_of_heap hbq
            have HBD2 := Lib.hid hbd; have HBQ := Lib.hid hbq; have HRO := Lib.hid hrow; have HKR := Lib.hid hkr
            have hs3 := hkr.size
            clear hbd hbq hrow hkr
            go_wp2_with (at_builtin; go_loud (refine wpList_append_lies _ rfl _ _ _ rfl w0.heap.size 3 i0 _ 1 8 Tryz.underlying22 hi0 hz0 hz1 hz2 rfl (by omega) _ st2.2.length _ (by rfl) (HRO.out.alloc _) ⟨wr.heap.size, 0, none⟩ 1 1 [.int .i64 (i : Int)] (by rfl) (by rfl) ?hnews ?hone (by omega) (by unfold maxLen; omega) (by omega) (by simp; omega) (wr.heap.size + 1) (by simp) ?_))
            case hnews => exact World.news_of_block (cs := #[.int .i64 (i : Int)]) (t := 3) (fr := (0, 0)) (heap_alloc_new _ _)
            case hone => simp [Value.oneCell']
            intro g2 cap2 w6 hown2 hgrow hat hlt3
            have k6 := ((Keeps.refl (fun b => (Value.slice ao3 st2.2.length cap3).ownBlock = some b) wr).alloc (.cells #[.int .i64 (i : Int)] 3)).grown hgrow (fun k hk => .inl hk)
            have hl10 := HW.out.l10
            have kk := HKR.out.trans' k6 (fun i hi => .inr (HRO.out.lt i hi).1)
            have hb6 := k6.heap HBQ.out (fun e => by have := (HRO.out.lt b10 e).1; omega)
            have c6 := Boxed.cell hb6
            have z6 := Boxed.frozen hb6
            have l6 := lt_of_heap hb6
            have HFIN := Lib.hid (show AchAt w0 gd b10 (st2.1, st2.2 ++ [(i : Int)]) (w6.setCell ⟨b10, 0, none⟩ (.slice (some ⟨g2, 0, none⟩) (st2.2.length + 1) cap2)) from
              ⟨(HBD2.out.keeps k6 (fun e => by have h1 := (HRO.out.lt gd e).1; have h2 := HW.out.ld; omega)).keeps (keeps_set _ _ _ _) (fun e => HW.out.nd e),
               ⟨_, Boxed.set _ hb6, (keeps_set w6 b10 0 _).ownsRow (by
                rw [show (st2.1, st2.2 ++ [(i : Int)]).2.length = st2.2.length + 1 by simp, show (st2.1, st2.2 ++ [(i : Int)]).2.map (Value.int .i64) = st2.2.map (Value.int .i64) ++ [.int .i64 (i : Int)] by simp]
                exact hown2) (fun k hk e => by have h1 := (World.ownsRow.lt hown2 k hk).1; have h3 : k = b10 := e; omega)⟩,
               kk.trans ((keeps_set _ _ _ _).mono (fun _ _ h => .inr h))⟩)
            clear hown2 hgrow hat k6 kk hb6 c10 z10 l10
            go_wp2_with fail
            refine bodyPost_end (results_none rfl _ _ _) rfl ?_
            exact ⟨rfl, by rw [HR.out]; exact HFIN.out⟩

end Go.Proofs.YtdokakhgflljgaaGreat
