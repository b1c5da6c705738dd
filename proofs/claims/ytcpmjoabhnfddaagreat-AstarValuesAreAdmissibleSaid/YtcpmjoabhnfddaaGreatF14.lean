/- astar.Value at the kind Plan; and what Value says at every kind. Heuristics in plain Lean: those of Max and Pairs fall by no more than an operator costs; those of all kinds are finite where there is a plan. relaxplan: what has no level is never reached, in plain Lean. astar.Values at every kind; what is said of the values. bothends: the example of the laws. astar: the example of the laws. AstarValuesAreAdmissible walked. The laws' helpers valueOf and values. AstarValuesMatchSpec walked. No condition beyond what each theorem says. -/
import Derived.Test.YtcpmjoabhnfddaaGreatF13
import Derived.Test.YtcpmjoabhnfddaaGreatF12
import Derived.Test.YtcpmjoabhnfddaaGreatF10
import Derived.Test.YtcpmjoabhnfddaaGreatF6
import Derived.BigQuiet

namespace Go.Proofs.YtcpmjoabhnfddaaGreat
open Go.RowKit Go.Shelf

/-- What the steps of a plan cost. -/
def pcost (t : Tsk) (l : List Int) : Int := l.foldl (fun a i => a + ((t.ops[i.toNat]?).map Opr.cost).getD 0) 0
theorem pcost_snoc (t : Tsk) (l : List Int) (i : Int) : pcost t (l ++ [i]) = pcost t l + ((t.ops[i.toNat]?).map Opr.cost).getD 0 := by unfold pcost; rw [List.foldl_append]; rfl
theorem pcost_take {t : Tsk} {l : List Int} {j i : Nat} {o : Opr} (h : l[j]? = some (i : Int)) (ho : t.ops[i]? = some o) : pcost t (l.take (j + 1)) = pcost t (l.take j) + o.cost := by
  rw [take_getS h, pcost_snoc, Int.toNat_natCast, ho]; rfl
theorem pcost_ok {t : Tsk} (ok : t.Ok) : ∀ (l : List Int) (a : Int), 0 ≤ a → a ≤ (l.foldl (fun a i => a + ((t.ops[i.toNat]?).map Opr.cost).getD 0) a) ∧ (l.foldl (fun a i => a + ((t.ops[i.toNat]?).map Opr.cost).getD 0) a) ≤ a + 100 * (l.length : Int)
  | [], a, h => by simp
  | i :: r, a, h => by
    have hc : 0 ≤ ((t.ops[i.toNat]?).map Opr.cost).getD 0 ∧ ((t.ops[i.toNat]?).map Opr.cost).getD 0 ≤ 100 := by
      cases ho : t.ops[i.toNat]? with
      | none => simp
      | some o => have := ok.ops o (List.mem_of_getElem? ho); exact ⟨this.cost0, this.cost1⟩
    have ih := pcost_ok ok r (a + ((t.ops[i.toNat]?).map Opr.cost).getD 0) (by omega)
    rw [List.foldl_cons, List.length_cons]
    exact ⟨by omega, by omega⟩
/-- What a plan without deletions costs. -/
def planH (t : Tsk) (x : Nat) : Int := if relOk t (facts x) = true then pcost t (relP t (facts x)) else 1000000000

set_option maxRecDepth 100000 in
set_option maxHeartbeats 4000000 in
theorem value3_any (t : Tsk) (ok : t.Ok) (L : List Nat) (hL : ∀ x ∈ L, Good t.n x) : ValC t 3 L (planH t) := by
  intro w vi vg vo vs x h hx hs
  obtain ⟨ai, ci, h1, _⟩ := h.init.form
  obtain ⟨ag, cg, h2, _⟩ := h.goal.form
  obtain ⟨ao, co, h3, hmo⟩ := h.ops.form
  subst h1 h2 h3
  have K1 := (Keeps.refl (fun _ => False) w).alloc (.cells #[.int .i64 t.n, .slice ai t.init.length ci, .slice ag t.goal.length cg, .slice ao t.ops.length co] 25)
  have HB := Lib.hid (Four.new w (.int .i64 t.n) (.slice ai t.init.length ci) (.slice ag t.goal.length cg) (.slice ao t.ops.length co) 25)
  have HT := Lib.hid (h.keeps0 K1); have HS := Lib.hid (hs.keeps0 K1); have HK1 := Lib.hid K1
  have OK := Lib.hid ok; have HX := Lib.hid (hL x hx)
  have HRO := Lib.hid (relP_ok ok (facts x))
  clear h hs K1 ok hL hx
  go_enter Tryz.func83, Tryz.ntmps83
  go_upto_region 9 with fail
  generalize (w.alloc (.cells #[.int .i64 t.n, .slice ai t.init.length ci, .slice ag t.goal.length cg, .slice ao t.ops.length co] 25)) = w1 at HT HB HK1 HS ⊢
  obtain ⟨d0, d1, d2, d3⟩ := HB.out
  have hbx := HB.out.lt
  go_wp2_with fail
  refine (rplan_any _ _ _ _ _ t x HT.out OK.out HX.out HS.out).mono ?_
  rintro e w2 ⟨vx, rfl, hpl, hk⟩
  have K2 := hk.trans ((Keeps.refl (fun _ => False) w2).alloc (.cells #[.int .i64 0, .int .i64 0] 31))
  have HK2 := Lib.hid (HK1.out.trans K2); have HT2 := Lib.hid (HT.out.keeps0 K2); have HB2 := Lib.hid (HB.out.keeps0 K2)
  have HPL := Lib.hid (show relOk t (facts x) = true → Ints (w2.alloc (.cells #[.int .i64 0, .int .i64 0] 31)) vx (relP t (facts x)) from fun h => (hpl h).keeps0 ((Keeps.refl (fun _ => False) w2).alloc _))
  unfold fltV
  clear hk d0 d1 d2 d3 hbx hpl K2
  cases hr : relOk t (facts x) with
  | false =>
    have HR := Lib.hid (show planH t x = 1000000000 by unfold planH; rw [hr]; rfl)
    clear hr
    go_wp2_with fail
    go_ret
    exact ⟨by rw [HR.out]; rfl, HK2.out⟩
  | true =>
    have HR := Lib.hid (show planH t x = pcost t (relP t (facts x)) by unfold planH; rw [hr]; rfl)
    have HPI := Lib.hid (HPL.out hr)
    obtain ⟨ap, cp, hvx, _⟩ := HPI.out.form
    subst hvx
    clear hr HPL
    have hl40 := HRO.out.1
    go_upto_region 10 with fail
    generalize (w2.alloc (.cells #[.int .i64 0, .int .i64 0] 31)) = w3 at HK2 HT2 HB2 HPI ⊢
    generalize relP t (facts x) = l at HPI HR HRO hl40 ⊢
    go_wp2_with fail
    go_loop [16, 58] (fun v16 v58 => ∃ j : Nat, j ≤ l.length ∧ v58 = .int .i64 (j : Int) ∧ v16 = .int .i64 (pcost t (l.take j))) (fun _ v58 => l.length - (intOf v58).toNat)
    case atStart => exact ⟨0, Nat.zero_le _, rfl, rfl⟩
    case round =>
      obtain ⟨j, hj, rfl, rfl⟩ := hrel
      by_cases hjl : j < l.length
      · obtain ⟨b1, o1, rfl, hca⟩ := HPI.out.cell rfl (by omega)
        obtain ⟨p, hp⟩ : ∃ p, l[j]? = some p := ⟨_, List.getElem?_eq_getElem hjl⟩
        have hpb := HRO.out.2 p (List.mem_of_getElem? hp)
        obtain ⟨i, rfl⟩ := Int.eq_ofNat_of_zero_le hpb.1
        have hc2 := hca j _ hp
        have hil : (i : Int) < ((t.ops.length : Nat) : Int) := hpb.2
        obtain ⟨o, ho⟩ : ∃ o, t.ops[i]? = some o := ⟨_, List.getElem?_eq_getElem (by omega)⟩
        obtain ⟨bo, oo, rfl, hcell⟩ := HT2.out.ops.cell rfl (by omega)
        obtain ⟨va, vb, vd, p0, p1, p2, p3, i1, i2, i3⟩ := hcell i o ho
        have HTK := Lib.hid (pcost_take hp ho)
        have hb := pcost_ok OK.out (l.take j) 0 (Int.le_refl _)
        have hln : (l.take j).length ≤ 40 := by rw [List.length_take]; omega
        have hco := OK.out.ops o (List.mem_of_getElem? ho)
        have hc0 := hco.cost0; have hc1 := hco.cost1
        rw [show (l.take j).foldl (fun a i => a + ((t.ops[i.toNat]?).map Opr.cost).getD 0) 0 = pcost t (l.take j) from rfl] at hb
        generalize pcost t (l.take j) = a at hb HTK ⊢
        obtain ⟨d0, d1, d2, d3⟩ := HB2.out
        have hbx := HB2.out.lt
        clear hca hp hpb ho hcell i1 i2 i3 hco
        go_wp2_with fail
        go_round
        case rel => exact ⟨j + 1, by omega, by go_num, by rw [HTK.out]⟩
        case measure => simp [intOf]; omega
      · rw [List.take_of_length_le (by omega)]
        go_wp2_with fail
        go_ret
        exact ⟨by rw [HR.out]; rfl, HK2.out⟩

/-- What Value says of a state, at every kind. -/
def kindV (t : Tsk) (k : Int) : Nat → Int := if k = 3 then planH t else kindH t k
theorem kindV_adm {t : Tsk} {k : Int} (h : admK k = true) : kindV t k = kindH t k := by
  unfold kindV
  rw [if_neg]
  rintro rfl
  revert h; decide
theorem says_all {k : Int} (h : 0 ≤ k ∧ k ≤ 5) (t : Tsk) : t.Ok → ∀ l, explored t = some l → ValC t k l (kindV t k) := fun ok l hx => by
  have hg := good_explored ok hx
  have hk : k = 0 ∨ k = 1 ∨ k = 2 ∨ k = 3 ∨ k = 4 ∨ k = 5 := by omega
  rcases hk with rfl | rfl | rfl | rfl | rfl | rfl
  · exact (says_kind rfl t l ok hx).1
  · exact (says_kind rfl t l ok hx).1
  · exact value2_any t ok l hg
  · exact value3_any t ok l hg
  · exact (says_kind rfl t l ok hx).1
  · exact (says_kind rfl t l ok hx).1

end Go.Proofs.YtcpmjoabhnfddaaGreat

namespace Go.Proofs.YtcpmjoabhnfddaaGreat

/-! ### Max -/
section
variable {V : List Int} {c : Int}
end
/-! ### Pairs -/
/-! ### Add -/
theorem sumL_fin {v : List Int} (hv : ∀ y ∈ v, 0 ≤ y ∧ y ≤ 1000000000) : ∀ (ps : List Int) (m : Int), 0 ≤ m ∧ m ≤ 999999999 → (∀ p ∈ ps, getV v p < 1000000000) → ps.foldl (fun m p => plusI m (getV v p)) m ≤ 999999999
  | [], _, h, _ => h.2
  | p :: r, m, h, hp => by
    rw [List.foldl_cons]
    have h1 := getV_low hv p
    have h2 := hp p (by simp)
    refine sumL_fin hv r _ ?_ (fun q hq => hp q (by simp [hq]))
    unfold plusI
    rw [if_neg (by omega)]
    omega
theorem add_fin {t : Tsk} (ok : t.Ok) {x y : Nat} {p : List Nat} (hr : runOps (wordsOf t.ops) x p = some y) (ha : goalB (wd t.goal) y = true) : sumL (valuesV sumL t (costsV t) (facts x)) t.goal < 1000000000 := by
  have h0 : ∀ c ∈ costsV t, 0 ≤ c := fun c hc => (costsV_low ok c hc).1
  have V := values_ok (t := t) comb_sum h0 (facts x)
  generalize valuesV sumL t (costsV t) (facts x) = v at V
  have key := run_inv (t := t) (Inv := fun z _ => ∀ q ∈ facts z, getV v q < 1000000000) (by
    intro o z c ho hc hi q hq
    have oko := ok.ops o ho
    rcases next_facts oko hq with ⟨h1, _⟩ | h1
    · exact hi q h1
    · have h2 := V.step _ (zip_costs ho) q h1
      simp only at h2
      have hpre := can_facts ok.n1 oko hc
      have h3 : sumL v o.pre ≤ 999999999 := sumL_fin V.low o.pre 0 (by decide) (fun p hp => hi p (hpre p hp))
      have h5 := (comb_sum v o.pre V.low).1
      have c0 := oko.cost0; have c1 := oko.cost1
      unfold plusI at h2
      rw [if_neg (by omega)] at h2
      omega) p x y 0 hr (fun q hq => by rw [V.here q hq]; decide)
  have hg := goal_facts ok.n1 ok.goal ha
  have := sumL_fin V.low t.goal 0 (by decide) (fun q hq => key q (hg q hq))
  unfold sumL
  omega

/-! ### the distances -/
/-- A way down is a plan of that cost. -/
theorem run_of_downC {ops : List Wop} {L : List Nat} {acc : Nat → Bool} {i : Nat} {c : Int} (h : Down (arcs ops L) (L.map acc) i c) : ∀ x, L[i]? = some x → ∃ p y, runOps ops x p = some y ∧ acc y = true ∧ costN ops p = c := by
  induction h with
  | nil h =>
    intro x hx
    rw [List.getElem?_map, hx] at h
    exact ⟨[], x, rfl, by simpa using h, rfl⟩
  | cons ha _ ih =>
    intro x hx
    obtain ⟨x', o, h1, h2, h3, h4, h5⟩ := mem_arcs.1 ha
    rw [h1] at hx; cases hx
    obtain ⟨p, y, hp, hy, hc⟩ := ih _ h5
    exact ⟨_ :: p, y, by rw [runOps, h2]; simp only [h3, if_true]; exact hp, hy, by rw [costN, h2, hc, h4]; rfl⟩
theorem opt_real {ops : List Wop} {L : List Nat} {acc : Nat → Bool} {D : Nat → Int} (h : CostOk (arcs ops L) (L.map acc) (L.map D)) {x : Nat} (hx : x ∈ L) (hd : D x < bigC) : ∃ p y, runOps ops x p = some y ∧ acc y = true ∧ costN ops p = D x := by
  obtain ⟨i, hi⟩ := List.mem_iff_getElem?.1 hx
  exact run_of_downC (h.real i (D x) (by rw [List.getElem?_map, hi]; rfl) hd) x hi

end Go.Proofs.YtcpmjoabhnfddaaGreat

namespace Go.Proofs.YtcpmjoabhnfddaaGreat

def negs : List Int → Nat
  | [] => 0
  | y :: r => (if y < 0 then 1 else 0) + negs r
theorem negs_len : ∀ v : List Int, negs v ≤ v.length
  | [] => Nat.le_refl _
  | y :: r => by have := negs_len r; rw [negs, List.length_cons]; split <;> omega
theorem negs_le : ∀ (v v' : List Int), v'.length = v.length → (∀ i : Nat, v'.getD i 0 < 0 → v.getD i 0 < 0) → negs v' ≤ negs v
  | [], v', hl, _ => by
    have : v' = [] := List.length_eq_zero_iff.1 (by simpa using hl)
    rw [this]; exact Nat.le_refl _
  | y :: r, [], hl, _ => by simp at hl
  | y :: r, y' :: r', hl, h => by
    have h1 := negs_le r r' (by simpa using hl) (fun i hi => by simpa using h (i + 1) (by simpa using hi))
    have h2 := h 0
    simp only [List.getD_cons_zero] at h2
    rw [negs, negs]
    split
    · rename_i hy; rw [if_pos (h2 hy)]; omega
    · split <;> omega
theorem negs_lt : ∀ (v v' : List Int) (i : Nat), v'.length = v.length → (∀ i : Nat, v'.getD i 0 < 0 → v.getD i 0 < 0) → i < v.length → v.getD i 0 < 0 → 0 ≤ v'.getD i 0 → negs v' < negs v
  | [], v', i, _, _, hi, _, _ => by simp at hi
  | y :: r, [], i, hl, _, _, _, _ => by simp at hl
  | y :: r, y' :: r', 0, hl, h, hi, h1, h2 => by
    have h3 := negs_le r r' (by simpa using hl) (fun i hi => by simpa using h (i + 1) (by simpa using hi))
    simp only [List.getD_cons_zero] at h1 h2
    rw [negs, negs, if_pos h1, if_neg (by omega)]; omega
  | y :: r, y' :: r', i + 1, hl, h, hi, h1, h2 => by
    have h3 := negs_lt r r' i (by simpa using hl) (fun i hi => by simpa using h (i + 1) (by simpa using hi)) (by simpa using hi) (by simpa using h1) (by simpa using h2)
    have h4 := h 0
    simp only [List.getD_cons_zero] at h4
    rw [negs, negs]
    split
    · rename_i hy; rw [if_pos (h4 hy)]; omega
    · split <;> omega

/-- A level stays. -/
def Stay (v v' : List Int) : Prop := v'.length = v.length ∧ ∀ p : Int, 0 ≤ p → p.toNat < v.length → 0 ≤ getV v p → getV v' p = getV v p
theorem Stay.rfl' (v : List Int) : Stay v v := ⟨rfl, fun _ _ _ _ => rfl⟩
theorem Stay.tr {a b c : List Int} (h : Stay a b) (k : Stay b c) : Stay a c := ⟨k.1.trans h.1, fun p h0 hp hv => by
  have e := h.2 p h0 hp hv
  rw [k.2 p h0 (by rw [h.1]; exact hp) (by rw [e]; exact hv), e]⟩
theorem getV_set_same {v : List Int} {p x : Int} (hp : p.toNat < v.length) : getV (v.set p.toNat x) p = x := by
  unfold getV; rw [List.getD_eq_getElem?_getD, List.getElem?_set_self hp]; rfl
theorem levAdd_stay {k : Int} (hk : 0 ≤ k) : ∀ (ps v : List Int), (∀ p ∈ ps, 0 ≤ p ∧ p.toNat < v.length) → Stay v (levAdd k v ps) ∧ ∀ p ∈ ps, 0 ≤ getV (levAdd k v ps) p
  | [], v, _ => ⟨Stay.rfl' v, fun _ h => (List.not_mem_nil h).elim⟩
  | p :: r, v, h => by
    have hp := h p (by simp)
    have st : Stay v (if getV v p < 0 then v.set p.toNat k else v) := by
      split
      · rename_i hlt
        refine ⟨List.length_set, fun q h0 hq hv => getV_set_ne (fun e => ?_)⟩
        have : q = p := by omega
        rw [this] at hv; omega
      · exact Stay.rfl' v
    obtain ⟨g1, g2⟩ := levAdd_stay hk r (if getV v p < 0 then v.set p.toNat k else v) (fun q hq => by rw [st.1]; exact h q (by simp [hq]))
    have e : levAdd k v (p :: r) = levAdd k (if getV v p < 0 then v.set p.toNat k else v) r := rfl
    rw [e]
    refine ⟨st.tr g1, fun q hq => ?_⟩
    rcases List.mem_cons.1 hq with rfl | hq
    · have h1 : 0 ≤ getV (if getV v q < 0 then v.set q.toNat k else v) q := by
        split
        · rw [getV_set_same hp.2]; exact hk
        · omega
      rw [g1.2 q hp.1 (by rw [st.1]; exact hp.2) h1]; exact h1
    · exact g2 q hq
theorem levOp_stay {k : Int} (hk : 0 ≤ k) {o : Opr} {v : List Int} (h : ∀ p ∈ o.add, 0 ≤ p ∧ p.toNat < v.length) : Stay v (levOp k o v) := by
  unfold levOp
  split
  · exact Stay.rfl' v
  · exact (levAdd_stay hk o.add v h).1
theorem levR_stay {k : Int} (hk : 0 ≤ k) : ∀ (ops : List Opr) (v : List Int), (∀ o ∈ ops, ∀ p ∈ o.add, 0 ≤ p ∧ p.toNat < v.length) → Stay v (levR k ops v)
  | [], v, _ => Stay.rfl' v
  | o :: r, v, h => by
    have s1 := levOp_stay hk (o := o) (h o (by simp))
    have s2 := levR_stay hk r (levOp k o v) (fun q hq p hp => by rw [s1.1]; exact h q (by simp [hq]) p hp)
    exact s1.tr s2
/-- After a round, the operators that were open have added their facts. -/
theorem levR_open {k : Int} (hk : 0 < k) : ∀ (ops : List Opr) (v : List Int), (∀ o ∈ ops, ∀ p ∈ o.add, 0 ≤ p ∧ p.toNat < v.length) → (∀ o ∈ ops, ∀ p ∈ o.pre, 0 ≤ p ∧ p.toNat < v.length) →
    ∀ o ∈ ops, (∀ p ∈ o.pre, 0 ≤ getV v p ∧ getV v p < k) → ∀ p ∈ o.add, 0 ≤ getV (levR k ops v) p
  | [], v, _, _ => fun _ h => (List.not_mem_nil h).elim
  | a :: r, v, h, hp => fun o ho hop p hpa => by
    have s1 := levOp_stay (by omega : 0 ≤ k) (o := a) (h a (by simp))
    have s2 := levR_stay (by omega : 0 ≤ k) r (levOp k a v) (fun q hq p hp => by rw [s1.1]; exact h q (by simp [hq]) p hp)
    have e : levR k (a :: r) v = levR k r (levOp k a v) := rfl
    rw [e]
    rcases List.mem_cons.1 ho with rfl | ho'
    · have hb : levBad k v o.pre = false := by
        unfold levBad
        rw [List.any_eq_false]
        intro q hq
        have := hop q hq
        simp; omega
      have e2 : levOp k o v = levAdd k v o.add := by unfold levOp; rw [hb]; rfl
      have h1 := (levAdd_stay (by omega : 0 ≤ k) o.add v (h o (by simp))).2 p hpa
      rw [← e2] at h1
      have hpb := h o (by simp) p hpa
      rw [s2.2 p hpb.1 (by rw [s1.1]; exact hpb.2) h1]; exact h1
    · refine levR_open hk r (levOp k a v) (fun q hq p hp => by rw [s1.1]; exact h q (by simp [hq]) p hp) (fun q hq p hpp => by rw [s1.1]; exact hp q (by simp [hq]) p hpp) o ho' (fun q hq => ?_) p hpa
      have := hop q hq
      have hqb := hp o (by simp [ho']) q hq
      rw [s1.2 q hqb.1 hqb.2 this.1]; exact this

/-- The operators whose conditions have levels add nothing new. -/
def LevShut (ops : List Opr) (v : List Int) : Prop := ∀ o ∈ ops, (∀ p ∈ o.pre, 0 ≤ getV v p) → ∀ p ∈ o.add, 0 ≤ getV v p
theorem levAdd_none {k : Int} : ∀ (ps v : List Int), (∀ p ∈ ps, 0 ≤ getV v p) → levAdd k v ps = v
  | [], _, _ => rfl
  | p :: r, v, h => by
    have h1 := h p (by simp)
    have e : levAdd k v (p :: r) = levAdd k (if getV v p < 0 then v.set p.toNat k else v) r := rfl
    rw [e, if_neg (by omega)]
    exact levAdd_none r v (fun q hq => h q (by simp [hq]))
theorem levR_none {k : Int} {ops : List Opr} {v : List Int} (h : LevShut ops v) : ∀ xs : List Opr, (∀ o ∈ xs, o ∈ ops) → levR k xs v = v
  | [], _ => rfl
  | o :: r, hx => by
    have e : levR k (o :: r) v = levR k r (levOp k o v) := rfl
    have e2 : levOp k o v = v := by
      unfold levOp
      split
      · rfl
      · rename_i hb
        refine levAdd_none o.add v (h o (hx o (by simp)) (fun p hp => ?_))
        have hb' : levBad k v o.pre = false := by simpa using hb
        unfold levBad at hb'
        have := List.any_eq_false.1 hb' p hp
        simp at this; omega
    rw [e, e2]
    exact levR_none h r (fun o ho => hx o (by simp [ho]))
theorem levTo_shut {n : Nat} {ops : List Opr} {v0 : List Int} (h0 : LevI n 0 v0) (ha : ∀ o ∈ ops, ∀ p ∈ o.add, 0 ≤ p ∧ p.toNat < n) (hp : ∀ o ∈ ops, ∀ p ∈ o.pre, 0 ≤ p ∧ p.toNat < n) : ∀ k, LevShut ops (levTo ops v0 k) ∨ negs (levTo ops v0 k) + k ≤ n
  | 0 => .inr (by have := negs_len v0; have := h0.1; show negs v0 + 0 ≤ n; omega)
  | k + 1 => by
    have e : levTo ops v0 (k + 1) = levR ((k + 1 : Nat) : Int) ops (levTo ops v0 k) := rfl
    have hl : LevI n k (levTo ops v0 k) := levTo_ok ops (h0.mono (by omega)) k (Nat.le_refl _)
    have ha' : ∀ o ∈ ops, ∀ p ∈ o.add, 0 ≤ p ∧ p.toNat < (levTo ops v0 k).length := fun o ho p hpp => by rw [hl.1]; exact ha o ho p hpp
    have hp' : ∀ o ∈ ops, ∀ p ∈ o.pre, 0 ≤ p ∧ p.toNat < (levTo ops v0 k).length := fun o ho p hpp => by rw [hl.1]; exact hp o ho p hpp
    by_cases hs : LevShut ops (levTo ops v0 k)
    · left
      rw [e, levR_none hs ops (fun _ h => h)]; exact hs
    · right
      have ih := (levTo_shut h0 ha hp k).resolve_left hs
      have hno : ∃ o ∈ ops, (∀ p ∈ o.pre, 0 ≤ getV (levTo ops v0 k) p) ∧ ∃ p ∈ o.add, getV (levTo ops v0 k) p < 0 := by
        refine Classical.byContradiction fun hc => hs (fun o ho hop p hpp => ?_)
        by_cases hlt : 0 ≤ getV (levTo ops v0 k) p
        · exact hlt
        · exact absurd ⟨o, ho, hop, p, hpp, by omega⟩ hc
      obtain ⟨o, ho, hop, p, hpp, hneg⟩ := hno
      have st := levR_stay (k := ((k + 1 : Nat) : Int)) (by omega) ops (levTo ops v0 k) ha'
      have h1 := levR_open (k := ((k + 1 : Nat) : Int)) (by omega) ops (levTo ops v0 k) ha' hp' o ho (fun q hq => ⟨hop q hq, by have := (hl.get (p := q) (hp o ho q hq).2).2; omega⟩) p hpp
      have hpb := ha o ho p hpp
      have hlt := negs_lt (levTo ops v0 k) (levR ((k + 1 : Nat) : Int) ops (levTo ops v0 k)) p.toNat st.1 (fun i hi => by
          by_cases hil : i < (levTo ops v0 k).length
          · have h3 := st.2 (i : Int) (by omega) (by rw [Int.toNat_natCast]; exact hil)
            unfold getV at h3
            rw [Int.toNat_natCast] at h3
            by_cases hc : (levTo ops v0 k).getD i 0 < 0
            · exact hc
            · have := h3 (by omega); omega
          · rw [List.getD_eq_getElem?_getD, List.getElem?_eq_none (by rw [st.1]; omega)] at hi
            simp at hi) (by rw [hl.1]; exact hpb.2) hneg h1
      rw [e]; omega
theorem negs_zero : ∀ (v : List Int), negs v = 0 → ∀ p : Int, 0 ≤ getV v p
  | [], _, p => by unfold getV; simp
  | y :: r, h, p => by
    rw [negs] at h
    have h1 : ¬ y < 0 := fun e => by rw [if_pos e] at h; omega
    have h2 := negs_zero r (by omega)
    unfold getV at h2 ⊢
    cases hp : p.toNat with
    | zero => simp; omega
    | succ i => have := h2 (i : Int); simpa using this
theorem levels_shut {t : Tsk} (ok : t.Ok) (s : List Int) : LevShut t.ops (levelsV t s) := by
  have n0 := ok.n0
  have hz := levTo_shut (n := t.n.toNat) (ops := t.ops) (v0 := lev0 t.n s) (lev0_ok t.n s 0) (fun o ho p hp => by have := (isSet_iff.1 (ok.ops o ho).add).1 p hp; omega) (fun o ho p hp => by have := (isSet_iff.1 (ok.ops o ho).pre).1 p hp; omega) t.n.toNat
  rcases hz with h | h
  · exact h
  · intro o _ _ p _
    have h' : negs (levelsV t s) = 0 := by unfold levelsV; omega
    exact negs_zero _ h' p
theorem levTo_stay {n : Nat} {ops : List Opr} {v0 : List Int} (hl : v0.length = n) (ha : ∀ o ∈ ops, ∀ p ∈ o.add, 0 ≤ p ∧ p.toNat < n) : ∀ k, Stay v0 (levTo ops v0 k)
  | 0 => Stay.rfl' v0
  | k + 1 => by
    have ih := levTo_stay hl ha k
    exact ih.tr (levR_stay (by omega) ops _ (fun o ho p hp => by rw [ih.1, hl]; exact ha o ho p hp))
theorem zeroV_zero : ∀ (ps v : List Int) (q : Int), q.toNat < v.length → 0 ≤ q → (q ∈ ps ∨ 0 ≤ getV v q) → 0 ≤ getV (zeroV v ps) q
  | [], v, q, _, _, h => h.resolve_left (List.not_mem_nil)
  | p :: r, v, q, hq, h0, h => by
    refine zeroV_zero r (v.set p.toNat 0) q (by rw [List.length_set]; exact hq) h0 ?_
    by_cases he : q.toNat = p.toNat
    · right
      rw [← he]
      exact Int.le_of_eq (getV_set_same hq).symm
    · rw [getV_set_ne he]
      rcases h with h | h
      · rcases List.mem_cons.1 h with rfl | h
        · exact absurd rfl he
        · exact .inl h
      · exact .inr h
/-- Where a fact of the goal has no level, there is no plan. -/
theorem rel_none {t : Tsk} (ok : t.Ok) {x y : Nat} {p : List Nat} (hx : ∀ q ∈ facts x, 0 ≤ q ∧ q < t.n) (hr : runOps (wordsOf t.ops) x p = some y) (ha : goalB (wd t.goal) y = true) : relOk t (facts x) = true := by
  have n0 := ok.n0
  have sh := levels_shut ok (facts x)
  have l0 := lev0_ok t.n (facts x) 0
  have st := levTo_stay (n := t.n.toNat) (ops := t.ops) l0.1 (fun o ho p hp => by have := (isSet_iff.1 (ok.ops o ho).add).1 p hp; omega) t.n.toNat
  have key := run_inv (t := t) (Inv := fun z _ => ∀ q ∈ facts z, 0 ≤ getV (levelsV t (facts x)) q) (by
    intro o z c ho hcan hi q hq
    have oko := ok.ops o ho
    rcases next_facts oko hq with ⟨h1, _⟩ | h1
    · exact hi q h1
    · exact sh o ho (fun p hp => hi p (can_facts ok.n1 oko hcan p hp)) q h1) p x y 0 hr (fun q hq => by
      have hb := hx q hq
      have h1 : 0 ≤ getV (lev0 t.n (facts x)) q := zeroV_zero _ _ q (by rw [List.length_replicate]; omega) hb.1 (.inl hq)
      have e : getV (levelsV t (facts x)) q = getV (lev0 t.n (facts x)) q := st.2 q hb.1 (by rw [l0.1]; omega) h1
      rw [e]; exact h1)
  have hg := goal_facts ok.n1 ok.goal ha
  unfold relOk
  have : (t.goal.any fun p => decide (getV (levelsV t (facts x)) p < 0)) = false := by
    rw [List.any_eq_false]
    intro q hq
    have := key q (hg q hq)
    simp; omega
  rw [this]; rfl

end Go.Proofs.YtcpmjoabhnfddaaGreat

namespace Go.Proofs.YtcpmjoabhnfddaaGreat
open Go.RowKit Go.Shelf

set_option maxRecDepth 100000 in
set_option maxHeartbeats 4000000 in
theorem avalsNo_any (w : World) (vi vg vo : Value) (t : Tsk) (kind : Int) (hk : ¬ (0 ≤ kind ∧ kind ≤ 5)) (h : TaskAt w vi vg vo t) :
    Calls Tryz.prog 27 #[.agg #[.int .i64 t.n, vi, vg, vo], .int .i64 kind] w fun e w' => ∃ c i, e = .returned (.tuple #[.slice none 0 0, fltV c i]) ∧ (c, i) = kindF t false ∧ c ≠ 0 ∧ Keeps (fun _ => False) w w' := by
  obtain ⟨ai, ci, h1, _⟩ := h.init.form
  obtain ⟨ag, cg, h2, _⟩ := h.goal.form
  obtain ⟨ao, co, h3, hmo⟩ := h.ops.form
  subst h1 h2 h3
  have K1 := (Keeps.refl (fun _ => False) w).alloc (.cells #[.int .i64 t.n, .slice ai t.init.length ci, .slice ag t.goal.length cg, .slice ao t.ops.length co] 25)
  have HT := Lib.hid (h.keeps0 (K1.alloc (.cells #[.int .i64 0, .int .i64 0] 31)))
  have HB := Lib.hid ((Four.new w (.int .i64 t.n) (.slice ai t.init.length ci) (.slice ag t.goal.length cg) (.slice ao t.ops.length co) 25).keeps0 ((Keeps.refl _ _).alloc (.cells #[.int .i64 0, .int .i64 0] 31)))
  have HF : Flt w ((w.alloc (.cells #[.int .i64 t.n, .slice ai t.init.length ci, .slice ag t.goal.length cg, .slice ao t.ops.length co] 25)).alloc (.cells #[.int .i64 0, .int .i64 0] 31)) (w.heap.size + 1) 31 :=
    ⟨by have := heap_alloc_new (w.alloc (.cells #[.int .i64 t.n, .slice ai t.init.length ci, .slice ag t.goal.length cg, .slice ao t.ops.length co] 25)) (.cells #[.int .i64 0, .int .i64 0] 31); rwa [World.size_alloc] at this, by omega, K1.alloc _⟩
  replace HF := Lib.hid HF
  clear h K1
  by_cases h0 : 0 ≤ kind
  case' pos =>
    have hd0 : decide (0 ≤ kind) = true := by simpa using h0
    have hd5 : decide (kind ≤ 5) = false := by simp; omega
  case' neg =>
    have hd0 : decide (0 ≤ kind) = false := by simpa using h0
  all_goals
    clear hk h0
    go_enter Tryz.func27, Tryz.ntmps27
    go_upto_region 1 with fail
    generalize ((w.alloc (.cells #[.int .i64 t.n, .slice ai t.init.length ci, .slice ag t.goal.length cg, .slice ao t.ops.length co] 25)).alloc (.cells #[.int .i64 0, .int .i64 0] 31)) = w1 at HT HB HF ⊢
    have hbx := HB.out.lt
    obtain ⟨d0, d1, d2, d3⟩ := HB.out
    go_wp2_with fail
    refine (acheckNo_any _ _ _ _ t HT.out).mono ?_; rintro e w2 ⟨pv, lv, c, i, rfl, hki, hcz, hr⟩
    have KA := (Keeps.refl (fun _ => False) w2).alloc (.cells #[.int .i64 c, .int .i64 i] 31)
    have KK := hr.trans KA
    have HF3 := Lib.hid (HF.out.keeps0 KK)
    have F0 := Lib.hid (heap_alloc_new w2 (.cells #[.int .i64 c, .int .i64 i] 31))
    have HKI := Lib.hid hki; have HCZ := Lib.hid hcz
    clear d0 d1 d2 d3 hbx hr KA KK HT HB HF hki
    go_upto_region 2 with fail
    generalize w2.alloc (.cells #[.int .i64 c, .int .i64 i] 31) = w3 at HF3 F0 ⊢
    generalize w2.heap.size = b3 at F0 ⊢
    obtain ⟨f0, f1, _, _, fl⟩ := pair_cells F0.out
    obtain ⟨e0, e1, z0, z1, hF⟩ := HF3.out.cells
    have hc2 : (c == 0) = false := by simpa using hcz
    clear hcz
    have HST := Lib.hid (HF3.out.set (.int .i64 c) (.int .i64 i))
    go_wp2_with fail
    go_region
    all_goals
      go_wp2
      refine bodyPost_ret (results_tmp_cell _ _ (w.heap.size + 1) 31 #[.int .i64 c, .int .i64 i] (0, 0) _ rfl rfl (((Keeps.refl (fun _ => False) _).drew).heap HST.out.1 (fun h => h)) Tryz.underlying31 rfl (by kernel_rfl)) rfl ?_
      exact ⟨c, i, rfl, HKI.out, HCZ.out, HST.out.2.drew⟩

/-- What Values hands back at a kind. -/
def ValsIs (t : Tsk) (k : Int) (w' : World) (vv : Value) (lv fc fi : Int) : Prop :=
  (fc ≠ 0 ∧ (fc, fi) = kindF t (decide (0 ≤ k ∧ k ≤ 5)) ∧ vv = .slice none 0 0 ∧ lv = 0) ∨
  (fc = 0 ∧ fi = 0 ∧ (0 ≤ k ∧ k ≤ 5) ∧ kindF t (decide (0 ≤ k ∧ k ≤ 5)) = (0, 0) ∧ t.Ok ∧ ∃ l ws, explored t = some l ∧ WsOf t l ws ∧ lv = (ws.length : Int) ∧ Ints w' vv (ws.map (kindV t k)))
theorem avalsK_any (w : World) (vi vg vo : Value) (t : Tsk) (k : Int) (h : TaskAt w vi vg vo t) :
    Calls Tryz.prog 27 #[.agg #[.int .i64 t.n, vi, vg, vo], .int .i64 k] w fun e w' => Keeps (fun _ => False) w w' ∧ ∃ vv lv fc fi, e = .returned (.tuple #[vv, fltV fc fi]) ∧ ValsIs t k w' vv lv fc fi := by
  by_cases hk : 0 ≤ k ∧ k ≤ 5
  · refine (avals_any w vi vg vo t k hk (kindV t k) (says_all hk t) h).mono ?_
    rintro e w' ⟨hkp, ⟨h1, rfl⟩ | ⟨ok, l, ws, vv, hx, hp, hs, rfl, hown⟩⟩
    · exact ⟨hkp, _, 0, _, _, rfl, .inl ⟨h1, by rw [decide_eq_true hk, kindF_true], rfl, rfl⟩⟩
    · refine ⟨hkp, _, _, _, _, rfl, .inr ⟨rfl, rfl, hk, by rw [decide_eq_true hk, kindF_true]; exact expF_ok ok hx, ok, l, ws, hx, ⟨hp, hs⟩, rfl, ?_⟩⟩
      have := Ints.of_own (l := ws.map (kindV t k)) (by rw [List.length_map]; exact hown)
      exact this
  · refine (avalsNo_any w vi vg vo t k hk h).mono ?_
    rintro e w' ⟨c, i, rfl, h1, h2, h3⟩
    exact ⟨h3, _, 0, _, _, rfl, .inl ⟨h2, by rw [decide_eq_false hk]; exact h1, rfl, rfl⟩⟩

/-- What is said of the values: they are finite where there is a plan. -/
theorem kindV_says {t : Tsk} (ok : t.Ok) {l : List Nat} (hx : explored t = some l) (k : Int) {x : Nat} (hxl : x ∈ l) : (0 ≤ kindV t k x ∧ kindV t k x ≤ 1000000000) ∧
    ∀ p y, runOps (wordsOf t.ops) x p = some y → goalB (wd t.goal) y = true → kindV t k x < 1000000000 ∧ (admK k = true → kindV t k x ≤ costN (wordsOf t.ops) p) := by
  have hg := good_explored ok hx x hxl
  cases hk : admK k with
  | true =>
    have ha := (says_kind hk t l ok hx).2
    rw [kindV_adm hk]
    exact ⟨ha.lo x hxl, fun p y h1 h2 => ⟨(ha.low x hxl p y h1 h2).2, fun _ => (ha.low x hxl p y h1 h2).1⟩⟩
  | false =>
    by_cases h3 : k = 3
    · have e : kindV t k x = planH t x := by unfold kindV; rw [if_pos h3]
      rw [e]
      have hb : 0 ≤ pcost t (relP t (facts x)) ∧ pcost t (relP t (facts x)) ≤ 100 * ((relP t (facts x)).length : Int) := by
        have := pcost_ok ok (relP t (facts x)) 0 (Int.le_refl _)
        rw [show (relP t (facts x)).foldl (fun a i => a + ((t.ops[i.toNat]?).map Opr.cost).getD 0) 0 = pcost t (relP t (facts x)) from rfl] at this
        omega
      have hl := (relP_ok ok (facts x)).1
      refine ⟨by unfold planH; split <;> omega, fun p y h1 h2 => ⟨?_, fun h => by cases h⟩⟩
      have := rel_none ok (x := x) (isSet_iff.1 hg.1).1 h1 h2
      unfold planH
      rw [if_pos this]; omega
    · by_cases h2 : k = 2
      · have e : kindV t k x = addH t x := by unfold kindV kindH; rw [if_neg h3, if_neg (by omega), if_pos h2]
        rw [e]
        have h0 : ∀ c ∈ costsV t, 0 ≤ c := fun c hc => (costsV_low ok c hc).1
        exact ⟨comb_sum _ _ (values_ok comb_sum h0 (facts x)).low, fun p y h1 h2 => ⟨add_fin ok h1 h2, fun h => by cases h⟩⟩
      · have e : kindV t k x = 0 := by
          unfold kindV kindH
          unfold admK at hk
          have := of_decide_eq_false hk
          rw [if_neg h3, if_neg (by omega), if_neg h2, if_neg (by omega), if_neg (by omega)]
        rw [e]
        exact ⟨by decide, fun p y _ _ => ⟨by decide, fun h => by cases h⟩⟩

end Go.Proofs.YtcpmjoabhnfddaaGreat

namespace Go.Proofs.YtcpmjoabhnfddaaGreat
open Go.RowKit

theorem stepT_run {q : List Nat} {x y : Nat} (h : runOps (wordsOf stepT.ops) x q = some y) : costN (wordsOf stepT.ops) q = 3 * (q.length : Int) ∧ ∀ k ∈ q, k = 0 := by
  have hl := runOps_lt h
  have hz : ∀ k ∈ q, k = 0 := fun k hk => by
    have h1 := hl k hk
    have h2 : (wordsOf stepT.ops).length = 1 := rfl
    omega
  refine ⟨?_, hz⟩
  clear h hl
  induction q with
  | nil => rfl
  | cons a r ih =>
    obtain rfl := hz a (by simp)
    have h1 := ih (fun k hk => hz k (by simp [hk]))
    rw [costN, h1, List.length_cons]
    have : ((wordsOf stepT.ops)[0]?.map Wop.cost).getD 0 = 3 := rfl
    rw [this]
    omega

theorem stepT_least : BestT stepT 12289 := by
  refine .inr ⟨by decide, ⟨[0], 1, by decide, by decide, by decide⟩, fun p y hr hy => ?_⟩
  have h1 := (stepT_run hr).1
  rw [wayN_split, h1]
  cases p with
  | nil =>
    simp [runOps] at hr; subst hr
    exact absurd hy (by decide)
  | cons a q => rw [List.length_cons]; omega

theorem stepT_expF : expF stepT = (0, 0) := by unfold expF; rw [if_pos (by rw [stepT_ok]), stepT_reached]

end Go.Proofs.YtcpmjoabhnfddaaGreat

namespace Go.Proofs.YtcpmjoabhnfddaaGreat
open Go.RowKit

theorem aplanStep_any (w : World) (vi vg vo : Value) (h : TaskAt w vi vg vo stepT) :
    Calls Tryz.prog 30 #[.agg #[.int .i64 1, vi, vg, vo], .int .i64 0] w fun e w' => ∃ v n, e = .returned (.tuple #[resV true v 3 n, fltV 0 0]) ∧ Ints w' v [0] ∧ 1 ≤ n ∧ n ≤ 2 ∧ Keeps (fun _ => False) w w' := by
  refine (aplanK_any w vi vg vo stepT 0 h).mono ?_
  rintro e w' ⟨hk, fnd, vp, lp, c, n, fc, fi, rfl, hi, hr, hx⟩
  rcases hr with ⟨_, hr⟩ | ⟨h1, _⟩
  · rcases hr with ⟨h1, h2, _⟩ | ⟨_, _, l, b, hl, hb, hr⟩
    · rw [stepT_expF] at h2; cases h2; exact absurd rfl h1
    · obtain rfl := LeastOf.unique hb stepT_least
      rcases hr with ⟨h1, _⟩ | ⟨_, rfl, rfl, hg⟩
      · exact absurd h1 (by decide)
      · obtain ⟨rfl, q, y, rfl, hrun, hacc, hlen, hcost, rfl⟩ := hg.some_ (by decide)
        have hz := (stepT_run hrun).2
        have hl1 : q.length = 1 := by omega
        obtain ⟨a, rfl⟩ := List.length_eq_one_iff.1 hl1
        obtain rfl := hz a (by simp)
        obtain ⟨l', ws, D, q', g1, g2, g3, g4, g5, g6⟩ := hx rfl
        have e1 : l' = [0, 1] := by have := stepT_reached.symm.trans g1; cases this; rfl
        have e2 : q' = [0] := by
          unfold intsP at g4
          have h1 := congrArg List.length g4
          simp at h1
          obtain ⟨a, rfl⟩ := List.length_eq_one_iff.1 h1.symm
          simp at g4
          have : a = 0 := by omega
          rw [this]
        subst e1 e2
        have hw : wayN 4096 1 (wordsOf stepT.ops) [0] = 12289 := by decide
        rw [hw] at g6
        have h0 : D 0 = true := g6 [] 0 rfl (fun k y hk hy => by
          have : k = 0 := by simpa using hk
          subst this
          cases hy
          show (0 : Int) + 4096 * 0 < 12289
          decide)
        have hm : (0 : Nat) ∈ ws.filter D := List.mem_filter.2 ⟨g2.mem_iff.2 (by simp), h0⟩
        have hp := List.length_pos_of_mem hm
        have hle : (ws.filter D).length ≤ 2 := by
          have h1 := List.length_filter_le D ws
          have h2 := g2.length_eq
          simp at h2; omega
        exact ⟨vp, n, rfl, hi, by omega, by omega, hk⟩
  · cases h1

theorem avalsStep_any (w : World) (vi vg vo : Value) (h : TaskAt w vi vg vo stepT) :
    Calls Tryz.prog 27 #[.agg #[.int .i64 1, vi, vg, vo], .int .i64 1] w fun e w' => ∃ v, e = .returned (.tuple #[v, fltV 0 0]) ∧ Ints w' v [3, 0] ∧ Keeps (fun _ => False) w w' := by
  refine (avals_any w vi vg vo stepT 1 (by decide) (maxH stepT) (fun ok l hl => value1_any stepT ok l (good_explored ok hl)) h).mono ?_
  rintro e w' ⟨hk, ⟨h1, _⟩ | ⟨_, l, ws, v, h1, h2, h3, rfl, h5⟩⟩
  · rw [stepT_expF] at h1; exact absurd rfl h1
  · have := stepT_ws h1 h2 h3; subst this
    have e1 : [0, 1].map (maxH stepT) = [3, 0] := by decide
    rw [e1] at h5
    exact ⟨v, rfl, Ints.of_own (l := [3, 0]) h5, hk⟩

set_option maxRecDepth 100000 in
set_option maxHeartbeats 2000000 in
theorem astarExample_any (w : World) : Calls Tryz.prog 29 #[] w fun e w' => e = .returned (.bool true) ∧ Keeps (fun _ => False) w w' := by
  go_enter Tryz.func29, Tryz.ntmps29
  go_wp2_with fail
  refine (step_any _).mono ?_; rintro e w1 ⟨vi, vg, vo, rfl, ht, hk⟩
  have HT := Lib.hid ht; have K1 := Lib.hid hk
  clear ht hk
  go_wp2_with fail
  refine (aplanStep_any _ _ _ _ HT.out).mono ?_; rintro e w2 ⟨vp, n, rfl, hp, hn1, hn2, hk⟩
  obtain ⟨ap, cp, hvp, _⟩ := hp.form
  subst hvp
  have HP := Lib.hid hp; have K2 := Lib.hid (K1.out.trans hk)
  clear hp hk HT
  simp only [resV, fltV]
  have KA := (Keeps.refl (fun _ => False) w2).alloc (.cells #[.bool true, .slice ap 1 cp, .int .i64 3, .int .i64 n] 29)
  have KB := (Keeps.refl (fun _ => False) (w2.alloc (.cells #[.bool true, .slice ap 1 cp, .int .i64 3, .int .i64 n] 29))).alloc (.cells #[.int .i64 0, .int .i64 0] 31)
  have H3 := Lib.hid (KB.heap (heap_alloc_new w2 (.cells #[.bool true, .slice ap 1 cp, .int .i64 3, .int .i64 n] 29)) (fun h => h))
  have hf := heap_alloc_new (w2.alloc (.cells #[.bool true, .slice ap 1 cp, .int .i64 3, .int .i64 n] 29)) (.cells #[.int .i64 0, .int .i64 0] 31)
  rw [World.size_alloc] at hf
  have F3 := Lib.hid hf
  have K3 := Lib.hid (K2.out.trans (KA.trans KB)); have HP3 := Lib.hid (HP.out.keeps0 (KA.trans KB))
  clear KA KB hf
  go_upto_region 2 with fail
  generalize (w2.alloc (.cells #[.bool true, .slice ap 1 cp, .int .i64 3, .int .i64 n] 29)).alloc (.cells #[.int .i64 0, .int .i64 0] 31) = w3 at H3 F3 K3 HP3 ⊢
  generalize w2.heap.size = b3 at H3 F3 ⊢
  go_wp2_with fail
  refine (step_any _).mono ?_; rintro e w4 ⟨vi2, vg2, vo2, rfl, ht, hk⟩
  have HT := Lib.hid ht; have K4 := Lib.hid (K3.out.trans hk); have HP4 := Lib.hid (HP3.out.keeps0 hk); have H4 := Lib.hid (hk.heap H3.out (fun h => h)); have F4 := Lib.hid (hk.heap F3.out (fun h => h))
  clear ht hk
  go_wp2_with fail
  refine (avalsStep_any _ _ _ _ HT.out).mono ?_; rintro e w5 ⟨vs, rfl, hvs, hk⟩
  simp only [fltV]
  have KA := (Keeps.refl (fun _ => False) w5).alloc (.cells #[.int .i64 0, .int .i64 0] 31)
  have KB := hk.trans KA
  have HVS := Lib.hid (hvs.keeps0 KA)
  have G6 := Lib.hid (heap_alloc_new w5 (.cells #[.int .i64 0, .int .i64 0] 31))
  have K6 := Lib.hid (K4.out.trans KB); have HP6 := Lib.hid (HP4.out.keeps0 KB); have H6 := Lib.hid (KB.heap H4.out (fun h => h)); have F6 := Lib.hid (KB.heap F4.out (fun h => h))
  clear hk KA KB
  go_upto_region 3 with fail
  generalize w5.alloc (.cells #[.int .i64 0, .int .i64 0] 31) = w6 at G6 K6 HP6 H6 F6 HVS ⊢
  generalize w5.heap.size = b6 at G6 ⊢
  obtain ⟨g0, g1, _, _, gl⟩ := pair_cells G6.out
  obtain ⟨f0, f1, _, _, fl⟩ := pair_cells F6.out
  obtain ⟨r0, r1, r2, r3, rl⟩ := quad_cells H6.out
  go_wp2_with fail
  refine (isOne_any _ _ _ HP6.out).mono ?_; rintro e w7 ⟨rfl, hk⟩
  have K7 := Lib.hid (K6.out.trans hk)
  have G7 := Lib.hid (hk.heap G6.out (fun h => h)); have H7 := Lib.hid (hk.heap H6.out (fun h => h)); have HV7 := Lib.hid (HVS.out.keeps0 hk)
  clear hk g0 g1 gl f0 f1 fl r0 r1 r2 r3 rl
  obtain ⟨g0, g1, _, _, gl⟩ := pair_cells G7.out
  obtain ⟨r0, r1, r2, r3, rl⟩ := quad_cells H7.out
  have hd1 : decide (1 ≤ n) = true := by simpa using hn1
  have hd2 : decide (n ≤ 2) = true := by simpa using hn2
  have KC := (Keeps.refl (fun _ => False) w7).alloc (.cells #[.int .i64 3, .int .i64 0] 3)
  have HV8 := Lib.hid (HV7.out.keeps0 KC)
  have HN8 := Lib.hid (Ints.two (heap_alloc_new w7 (.cells #[.int .i64 3, .int .i64 0] 3)))
  have K8 := Lib.hid (K7.out.trans KC)
  clear KC
  go_wp2_with fail
  refine (ints_any _ _ _ [3, 0] [3, 0] HV8.out HN8.out).mono ?_; rintro e w9 ⟨rfl, hk⟩
  have K9 := Lib.hid (K8.out.trans hk)
  clear hk
  go_wp2_with fail
  go_ret
  exact ⟨rfl, K9.out⟩

end Go.Proofs.YtcpmjoabhnfddaaGreat

namespace Go.Proofs.YtcpmjoabhnfddaaGreat
open Go.RowKit Go.Shelf

theorem refAdm_val {k : Int} {b : Bool} (h : admK k = b) (w : World) : Calls Tryz.prog 18 #[.int .i64 k] w fun e w' => e = .returned (.bool b) ∧ w = w' := by
  rw [← h]; exact refAdm_any k w

theorem refAdm_still {k : Int} {b : Bool} (h : admK k = b) (w : World) : Calls Tryz.prog 18 #[.int .i64 k] w fun e w' => e = .returned (.bool b) ∧ w' = w :=
  (refAdm_val h w).mono fun _ _ h => ⟨h.1, h.2.symm⟩

/-- What Distances hands back. -/
theorem dist_is {t : Tsk} {w w' : World} {e : Ending} (h : DistPost t w e w') : ∃ vd fc fi, e = .returned (.tuple #[vd, fltV fc fi]) ∧ ((fc ≠ 0 ∧ vd = .slice none 0 0) ∨ (fc = 0 ∧ fi = 0 ∧ t.Ok ∧ ∃ (l ws : List Nat) (D : Nat → Int), explored t = some l ∧ WsOf t l ws ∧ CostOk (arcs (wordsOf t.ops) ws) (ws.map (goalB (wd t.goal))) (ws.map D) ∧ Ints w' vd (ws.map D))) := by
  rcases h.2 with ⟨c, i, h1, h2, h3⟩ | ⟨h1, l, ws, v, D, h2, h3, h4, h5, h6, h7⟩
  · exact ⟨_, c, i, h3, .inl ⟨h1, rfl⟩⟩
  · exact ⟨_, 0, 0, h6, .inr ⟨rfl, rfl, h1, l, ws, D, h2, ⟨h3, h4⟩, h5, h7⟩⟩
theorem valsIs_form {t : Tsk} {k : Int} {w' : World} {vv : Value} {lv fc fi : Int} (h : ValsIs t k w' vv lv fc fi) : ∃ a n c, vv = .slice a n c ∧ lv = (n : Int) := by
  rcases h with ⟨_, _, h1, h2⟩ | ⟨_, _, _, _, _, l, ws, _, _, h1, h2⟩
  · exact ⟨_, 0, 0, h1, h2⟩
  · obtain ⟨a, c, h3, _⟩ := h2.form
    exact ⟨a, _, c, h3, by rw [h1]; simp⟩

theorem adm_cases {a : Bool} {v d : Int} (v0 : 0 ≤ v) (d0 : 0 ≤ d) (d1 : d ≤ 1000000000) (h : d < 1000000000 → v < 1000000000 ∧ (a = true → v ≤ d)) (v1 : v ≤ 1000000000) :
    (a = false ∧ decide (1000000000 ≤ v) = true ∧ decide (d < 1000000000) = false ∧ (d == 0) = false) ∨
    (a = true ∧ decide (d < v) = false ∧ decide (1000000000 ≤ v) = true ∧ decide (d < 1000000000) = false ∧ (d == 0) = false) ∨
    (a = false ∧ decide (1000000000 ≤ v) = false ∧ (d == 0) = true) ∨ (a = false ∧ decide (1000000000 ≤ v) = false ∧ (d == 0) = false) ∨
    (a = true ∧ decide (d < v) = false ∧ decide (1000000000 ≤ v) = false ∧ (d == 0) = true ∧ (v != 0) = false) ∨
    (a = true ∧ decide (d < v) = false ∧ decide (1000000000 ≤ v) = false ∧ (d == 0) = false) := by
  simp only [decide_eq_true_eq, decide_eq_false_iff_not, beq_iff_eq, beq_eq_false_iff_ne, bne_eq_false_iff_eq, ne_eq]
  have h2 : a = true → v ≤ d := fun ha => by
    by_cases hd : d < 1000000000
    · exact (h hd).2 ha
    · omega
  have h1 : d < 1000000000 → v < 1000000000 := fun hd => (h hd).1
  cases a with
  | false =>
    by_cases hb : 1000000000 ≤ v
    · exact .inl ⟨rfl, hb, by omega, by omega⟩
    · by_cases hz : d = 0
      · exact .inr (.inr (.inl ⟨rfl, hb, hz⟩))
      · exact .inr (.inr (.inr (.inl ⟨rfl, hb, hz⟩)))
  | true =>
    have h3 := h2 rfl
    by_cases hb : 1000000000 ≤ v
    · exact .inr (.inl ⟨rfl, by omega, hb, by omega, by omega⟩)
    · by_cases hz : d = 0
      · exact .inr (.inr (.inr (.inr (.inl ⟨rfl, by omega, hb, hz, by omega⟩))))
      · exact .inr (.inr (.inr (.inr (.inr ⟨rfl, by omega, hb, hz⟩))))

set_option maxRecDepth 100000 in
set_option maxHeartbeats 4000000 in
theorem admisLaw_any (w : World) (vi vg vo : Value) (t : Tsk) (k : Int) (h : TaskAt w vi vg vo t) :
    Calls Tryz.prog 10 #[.agg #[.int .i64 t.n, vi, vg, vo], .int .i64 k] w fun e w' => e = .returned (.bool true) ∧ Keeps (fun _ => False) w w' := by
  obtain ⟨ai, ci, h1, _⟩ := h.init.form
  obtain ⟨ag, cg, h2, _⟩ := h.goal.form
  obtain ⟨ao, co, h3, hmo⟩ := h.ops.form
  subst h1 h2 h3
  have HB := Lib.hid (Four.new w (.int .i64 t.n) (.slice ai t.init.length ci) (.slice ag t.goal.length cg) (.slice ao t.ops.length co) 25)
  have K1 := (Keeps.refl (fun _ => False) w).alloc (.cells #[.int .i64 t.n, .slice ai t.init.length ci, .slice ag t.goal.length cg, .slice ao t.ops.length co] 25)
  have HT := Lib.hid (h.keeps0 K1); have HK := Lib.hid K1
  clear h K1
  go_enter Tryz.func10, Tryz.ntmps10
  go_upto_region 1 with fail
  generalize (w.alloc (.cells #[.int .i64 t.n, .slice ai t.init.length ci, .slice ag t.goal.length cg, .slice ao t.ops.length co] 25)) = w1 at HB HT HK ⊢
  generalize w.heap.size = bt at HB ⊢
  go_wp2_with fail
  refine (astarExample_any _).mono ?_; rintro e w2 ⟨rfl, hk⟩
  have HB1 := Lib.hid (HB.out.keeps0 hk); have HT1 := Lib.hid (HT.out.keeps0 hk); have HK1 := Lib.hid (HK.out.trans hk)
  clear HB HT HK hk
  have hbxd := HB1.out.lt
  obtain ⟨d0, d1, d2, d3⟩ := HB1.out
  go_wp2_with fail
  refine (avalsK_any _ _ _ _ t k HT1.out).mono ?_; rintro e w4 ⟨hk, vv, lv, fcx, fix, rfl, hv⟩
  obtain ⟨av, nv, cv, rfl, rfl⟩ := valsIs_form hv
  clear hbxd d0 d1 d2 d3
  simp only [fltV]
  have KA := (Keeps.refl (fun _ => False) w4).alloc (.cells #[.int .i64 fcx, .int .i64 fix] 31)
  have KC := hk.trans KA
  have HB2 := Lib.hid (HB1.out.keeps0 KC); have HT2 := Lib.hid (HT1.out.keeps0 KC); have HK2 := Lib.hid (HK1.out.trans KC)
  have HV2 := Lib.hid (show ValsIs t k (w4.alloc (.cells #[.int .i64 fcx, .int .i64 fix] 31)) (.slice av nv cv) nv fcx fix from by
    rcases hv with h | ⟨h1, h2, h3, h4, h5, l, ws, h6, h7, h8, h9⟩
    · exact .inl h
    · exact .inr ⟨h1, h2, h3, h4, h5, l, ws, h6, h7, h8, h9.keeps0 KA⟩)
  have HFx := Lib.hid (heap_alloc_new w4 (.cells #[.int .i64 fcx, .int .i64 fix] 31))
  clear HB1 HT1 HK1 hk KA KC hv
  go_upto_region 4 with fail
  generalize (w4.alloc (.cells #[.int .i64 fcx, .int .i64 fix] 31)) = w5 at HB2 HT2 HK2 HV2 HFx ⊢
  generalize w4.heap.size = b4 at HFx ⊢
  have hbxd := HB2.out.lt
  obtain ⟨d0, d1, d2, d3⟩ := HB2.out
  go_wp2_with fail
  refine (distances_any _ _ _ _ t HT2.out).mono ?_; rintro e w6 hd
  have hk := hd.1
  obtain ⟨vd, fcy, fiy, rfl, hd2⟩ := dist_is hd
  clear hbxd d0 d1 d2 d3 hd
  simp only [fltV]
  have KA := (Keeps.refl (fun _ => False) w6).alloc (.cells #[.int .i64 fcy, .int .i64 fiy] 31)
  have KC := hk.trans KA
  have HK3 := Lib.hid (HK2.out.trans KC)
  have HV3 := Lib.hid (show ValsIs t k (w6.alloc (.cells #[.int .i64 fcy, .int .i64 fiy] 31)) (.slice av nv cv) nv fcx fix from by
    rcases HV2.out with h | ⟨h1, h2, h3, h4, h5, l, ws, h6, h7, h8, h9⟩
    · exact .inl h
    · exact .inr ⟨h1, h2, h3, h4, h5, l, ws, h6, h7, h8, h9.keeps0 KC⟩)
  have HFx3 := Lib.hid (KC.heap HFx.out (fun h => h))
  have HFy := Lib.hid (heap_alloc_new w6 (.cells #[.int .i64 fcy, .int .i64 fiy] 31))
  have HD3 := Lib.hid (show (fcy ≠ 0 ∧ vd = .slice none 0 0) ∨ (fcy = 0 ∧ fiy = 0 ∧ t.Ok ∧ ∃ (l ws : List Nat) (D : Nat → Int), explored t = some l ∧ WsOf t l ws ∧ CostOk (arcs (wordsOf t.ops) ws) (ws.map (goalB (wd t.goal))) (ws.map D) ∧ Ints (w6.alloc (.cells #[.int .i64 fcy, .int .i64 fiy] 31)) vd (ws.map D)) from by
    rcases hd2 with h | ⟨h1, h2, h3, l, ws, D, h4, h5, h6, h7⟩
    · exact .inl h
    · exact .inr ⟨h1, h2, h3, l, ws, D, h4, h5, h6, h7.keeps0 KA⟩)
  clear HB2 HT2 HK2 HV2 HFx hk KA KC hd2
  go_upto_region 5 with fail
  generalize (w6.alloc (.cells #[.int .i64 fcy, .int .i64 fiy] 31)) = w7 at HK3 HV3 HFx3 HFy HD3 ⊢
  generalize w6.heap.size = b6 at HFy ⊢
  obtain ⟨f0, f1, _, _, fl⟩ := pair_cells HFx3.out
  obtain ⟨g0, g1, _, _, gl⟩ := pair_cells HFy.out
  rcases HV3.out with ⟨hc, _⟩ | ⟨rfl, rfl, hkk, hkf, hok, l, ws, hx, hws, hlv, hiv⟩
  · have q1 : (fcx != 0) = true := by simpa using hc
    clear hc HV3 HD3
    go_wp2_with fail
    go_ret
    exact ⟨rfl, HK3.out⟩
  rcases HD3.out with ⟨hc, _⟩ | ⟨rfl, rfl, _, l', ws', D, hx', hws', hco, hid⟩
  · have q1 : (fcy != 0) = true := by simpa using hc
    clear hc HV3 HD3
    go_wp2_with fail
    go_ret
    exact ⟨rfl, HK3.out⟩
  rw [hx] at hx'; cases hx'
  obtain rfl := WsOf.same hok hx hws hws'
  have hn1 : nv = ws.length := by omega
  subst hn1
  obtain ⟨ad, cd, rfl, _⟩ := hid.form
  have hl2 : (ws.map D).length = ws.length := List.length_map _
  have HCV := Lib.hid (hiv.cell (show Value.slice av ws.length cv = .slice av (ws.map (kindV t k)).length cv by rw [List.length_map]))
  have HCD := Lib.hid (hid.cell rfl)
  have HSAY := Lib.hid (show ∀ x ∈ ws, (0 ≤ kindV t k x ∧ kindV t k x ≤ 1000000000) ∧ (0 ≤ D x ∧ D x ≤ 1000000000) ∧ (D x < 1000000000 → kindV t k x < 1000000000 ∧ (admK k = true → kindV t k x ≤ D x)) from fun x hxw => by
    obtain ⟨s1, s2⟩ := kindV_says hok hx k (hws.1.mem_iff.1 hxw)
    have hb : bigC = 1000000000 := rfl
    have h1 := opt_low hco hxw
    refine ⟨s1, ⟨h1.1, by omega⟩, fun hlt => ?_⟩
    obtain ⟨p, y, h2, h3, h4⟩ := opt_real hco hxw (by omega)
    rw [← h4]
    exact s2 p y h2 h3)
  have hfew : ws.length ≤ 2000 := (costs_need hok hx hws.1).2.2.2.2.1
  rw [hl2]
  clear HV3 HD3 hkk hkf hok hx hws hws' hlv hiv hco hid hl2
  generalize hV : kindV t k = V at HCV HSAY
  clear hV
  go_wp2_with fail
  go_loopw [9] (fun v9 wr => ∃ i : Nat, i ≤ ws.length ∧ v9 = .int .i64 (i : Int) ∧ Keeps (fun _ => False) w7 wr) (fun v9 _ => ws.length - (intOf v9).toNat)
  case atStart => exact ⟨0, Nat.zero_le _, rfl, Keeps.refl _ _⟩
  case round =>
    obtain ⟨i, hi, rfl, hkr⟩ := hrel
    have HKR := Lib.hid hkr
    clear hkr f0 f1 fl g0 g1 gl
    by_cases hlt : i < ws.length
    · obtain ⟨x, hx⟩ : ∃ x, ws[i]? = some x := ⟨_, List.getElem?_eq_getElem hlt⟩
      obtain ⟨⟨a1, a2⟩, ⟨a3, a4⟩, a5⟩ := HSAY.out x (List.mem_of_getElem? hx)
      obtain ⟨bv, ov, rfl, hcv⟩ := HCV.out (by rw [List.length_map]; omega)
      obtain ⟨bd, od, rfl, hcd⟩ := HCD.out (by rw [List.length_map]; omega)
      have cv0 := HKR.out.cell (hcv i (V x) (by rw [List.getElem?_map, hx]; rfl)) (fun h => h)
      have cd0 := HKR.out.cell (hcd i (D x) (by rw [List.getElem?_map, hx]; rfl)) (fun h => h)
      have i0 : (0 : Int) ≤ (i : Int) := by omega
      have i1 : (i : Int) < (ws.length : Int) := by omega
      clear hx hcv hcd
      generalize V x = v at a1 a2 a5 cv0
      generalize D x = d at a3 a4 a5 cd0
      have c1 : decide (v < 0) = false := by simp; omega
      have bvl := World.block_lt_of_cell? wr _ cv0
      have bdl := World.block_lt_of_cell? wr _ cd0
      go_upto_region 12 with fail
      rcases adm_cases a1 a3 a4 a5 a2 with ⟨hA, c3, c4, c5⟩ | ⟨hA, c2, c3, c4, c5⟩ | ⟨hA, c3, c5⟩ | ⟨hA, c3, c5⟩ | ⟨hA, c2, c3, c5, c6⟩ | ⟨hA, c2, c3, c5⟩
      all_goals
        have HAD := Lib.hid hA
        clear hA a5
        go_quiet (first | (go_at_call 18; refine Calls.quiet_of_same (refAdm_still HAD.out _)))
        have KW := Lib.hid (HKR.out.trans ((Keeps.refl (fun _ => False) wr).drewN nq))
        clear cv0 cd0 bvl bdl
        generalize wr.drewN nq = wz at KW ⊢
        go_wp2_with fail
        go_roundw
        case rel => exact ⟨i + 1, by omega, by go_num, KW.out⟩
        case measure => simp only [intOf]; omega
    · go_wp2_with fail
      go_ret
      exact ⟨rfl, HK3.out.trans HKR.out⟩

end Go.Proofs.YtcpmjoabhnfddaaGreat

namespace Go.Proofs.YtcpmjoabhnfddaaGreat
open Go.RowKit Go.Shelf

set_option maxRecDepth 100000 in
set_option maxHeartbeats 4000000 in
theorem valueOf1_any (w : World) (vi vg vo vs : Value) (t : Tsk) (x : Nat) (h : TaskAt w vi vg vo t) (ok : t.Ok) (hg : Good t.n x) (hs : Ints w vs (facts x)) :
    Calls Tryz.prog 34 #[.agg #[.int .i64 t.n, vi, vg, vo], .int .i64 1, vs] w fun e w' => e = .returned (.int .i64 (maxH t x)) ∧ Keeps (fun _ => False) w w' := by
  obtain ⟨ai, ci, h1, _⟩ := h.init.form
  obtain ⟨ag, cg, h2, _⟩ := h.goal.form
  obtain ⟨ao, co, h3, hmo⟩ := h.ops.form
  subst h1 h2 h3
  have K1 := (Keeps.refl (fun _ => False) w).alloc (.cells #[.int .i64 t.n, .slice ai t.init.length ci, .slice ag t.goal.length cg, .slice ao t.ops.length co] 25)
  have HB := Lib.hid (Four.new w (.int .i64 t.n) (.slice ai t.init.length ci) (.slice ag t.goal.length cg) (.slice ao t.ops.length co) 25)
  have HT := Lib.hid (h.keeps0 K1); have HS := Lib.hid (hs.keeps0 K1); have HK1 := Lib.hid K1
  have OK := Lib.hid ok; have HX := Lib.hid hg
  clear h hs K1 ok hg
  go_enter Tryz.func34, Tryz.ntmps34
  go_upto_region 4 with fail
  generalize (w.alloc (.cells #[.int .i64 t.n, .slice ai t.init.length ci, .slice ag t.goal.length cg, .slice ao t.ops.length co] 25)) = w1 at HT HB HK1 HS ⊢
  obtain ⟨d0, d1, d2, d3⟩ := HB.out
  have hbx := HB.out.lt
  go_wp2_with fail
  refine (rmax_any _ _ _ _ _ t x HT.out OK.out HX.out HS.out).mono ?_
  rintro e w2 ⟨g, rfl, _, _, hk⟩
  have HK2 := Lib.hid (HK1.out.trans hk)
  unfold fltV
  clear hk d0 d1 d2 d3
  go_wp2_with fail
  go_ret
  exact ⟨rfl, HK2.out.trans ((Keeps.refl (fun _ => False) w2).alloc _)⟩

set_option maxRecDepth 100000 in
set_option maxHeartbeats 4000000 in
theorem valueOf2_any (w : World) (vi vg vo vs : Value) (t : Tsk) (x : Nat) (h : TaskAt w vi vg vo t) (ok : t.Ok) (hg : Good t.n x) (hs : Ints w vs (facts x)) :
    Calls Tryz.prog 34 #[.agg #[.int .i64 t.n, vi, vg, vo], .int .i64 2, vs] w fun e w' => e = .returned (.int .i64 (addH t x)) ∧ Keeps (fun _ => False) w w' := by
  obtain ⟨ai, ci, h1, _⟩ := h.init.form
  obtain ⟨ag, cg, h2, _⟩ := h.goal.form
  obtain ⟨ao, co, h3, hmo⟩ := h.ops.form
  subst h1 h2 h3
  have K1 := (Keeps.refl (fun _ => False) w).alloc (.cells #[.int .i64 t.n, .slice ai t.init.length ci, .slice ag t.goal.length cg, .slice ao t.ops.length co] 25)
  have HB := Lib.hid (Four.new w (.int .i64 t.n) (.slice ai t.init.length ci) (.slice ag t.goal.length cg) (.slice ao t.ops.length co) 25)
  have HT := Lib.hid (h.keeps0 K1); have HS := Lib.hid (hs.keeps0 K1); have HK1 := Lib.hid K1
  have OK := Lib.hid ok; have HX := Lib.hid hg
  clear h hs K1 ok hg
  go_enter Tryz.func34, Tryz.ntmps34
  go_upto_region 7 with fail
  generalize (w.alloc (.cells #[.int .i64 t.n, .slice ai t.init.length ci, .slice ag t.goal.length cg, .slice ao t.ops.length co] 25)) = w1 at HT HB HK1 HS ⊢
  obtain ⟨d0, d1, d2, d3⟩ := HB.out
  have hbx := HB.out.lt
  go_wp2_with fail
  refine (radd_any _ _ _ _ _ t x HT.out OK.out HX.out HS.out).mono ?_
  rintro e w2 ⟨g, rfl, _, _, hk⟩
  have HK2 := Lib.hid (HK1.out.trans hk)
  unfold fltV
  clear hk d0 d1 d2 d3
  go_wp2_with fail
  go_ret
  exact ⟨rfl, HK2.out.trans ((Keeps.refl (fun _ => False) w2).alloc _)⟩

set_option maxRecDepth 100000 in
set_option maxHeartbeats 4000000 in
theorem valueOf4_any (w : World) (vi vg vo vs : Value) (t : Tsk) (x : Nat) (h : TaskAt w vi vg vo t) (ok : t.Ok) (hg : Good t.n x) (hs : Ints w vs (facts x)) :
    Calls Tryz.prog 34 #[.agg #[.int .i64 t.n, vi, vg, vo], .int .i64 4, vs] w fun e w' => e = .returned (.int .i64 (cutsH t x)) ∧ Keeps (fun _ => False) w w' := by
  obtain ⟨ai, ci, h1, _⟩ := h.init.form
  obtain ⟨ag, cg, h2, _⟩ := h.goal.form
  obtain ⟨ao, co, h3, hmo⟩ := h.ops.form
  subst h1 h2 h3
  have K1 := (Keeps.refl (fun _ => False) w).alloc (.cells #[.int .i64 t.n, .slice ai t.init.length ci, .slice ag t.goal.length cg, .slice ao t.ops.length co] 25)
  have HB := Lib.hid (Four.new w (.int .i64 t.n) (.slice ai t.init.length ci) (.slice ag t.goal.length cg) (.slice ao t.ops.length co) 25)
  have HT := Lib.hid (h.keeps0 K1); have HS := Lib.hid (hs.keeps0 K1); have HK1 := Lib.hid K1
  have OK := Lib.hid ok; have HX := Lib.hid hg
  clear h hs K1 ok hg
  go_enter Tryz.func34, Tryz.ntmps34
  go_upto_region 19 with fail
  generalize (w.alloc (.cells #[.int .i64 t.n, .slice ai t.init.length ci, .slice ag t.goal.length cg, .slice ao t.ops.length co] 25)) = w1 at HT HB HK1 HS ⊢
  obtain ⟨d0, d1, d2, d3⟩ := HB.out
  have hbx := HB.out.lt
  go_wp2_with fail
  refine (cuts_any _ _ _ _ _ t x HT.out OK.out HX.out HS.out).mono ?_
  rintro e w2 ⟨vx, rfl, hk⟩
  have HK2 := Lib.hid (HK1.out.trans hk)
  unfold fltV
  clear hk d0 d1 d2 d3
  go_wp2_with fail
  go_ret
  exact ⟨rfl, HK2.out.trans ((Keeps.refl (fun _ => False) w2).alloc _)⟩

set_option maxRecDepth 100000 in
set_option maxHeartbeats 4000000 in
theorem valueOf5_any (w : World) (vi vg vo vs : Value) (t : Tsk) (x : Nat) (h : TaskAt w vi vg vo t) (ok : t.Ok) (hg : Good t.n x) (hs : Ints w vs (facts x)) :
    Calls Tryz.prog 34 #[.agg #[.int .i64 t.n, vi, vg, vo], .int .i64 5, vs] w fun e w' => e = .returned (.int .i64 (pairsH t x)) ∧ Keeps (fun _ => False) w w' := by
  obtain ⟨ai, ci, h1, _⟩ := h.init.form
  obtain ⟨ag, cg, h2, _⟩ := h.goal.form
  obtain ⟨ao, co, h3, hmo⟩ := h.ops.form
  subst h1 h2 h3
  have K1 := (Keeps.refl (fun _ => False) w).alloc (.cells #[.int .i64 t.n, .slice ai t.init.length ci, .slice ag t.goal.length cg, .slice ao t.ops.length co] 25)
  have HB := Lib.hid (Four.new w (.int .i64 t.n) (.slice ai t.init.length ci) (.slice ag t.goal.length cg) (.slice ao t.ops.length co) 25)
  have HT := Lib.hid (h.keeps0 K1); have HS := Lib.hid (hs.keeps0 K1); have HK1 := Lib.hid K1
  have OK := Lib.hid ok; have HX := Lib.hid hg
  clear h hs K1 ok hg
  go_enter Tryz.func34, Tryz.ntmps34
  go_upto_region 22 with fail
  generalize (w.alloc (.cells #[.int .i64 t.n, .slice ai t.init.length ci, .slice ag t.goal.length cg, .slice ao t.ops.length co] 25)) = w1 at HT HB HK1 HS ⊢
  obtain ⟨d0, d1, d2, d3⟩ := HB.out
  have hbx := HB.out.lt
  go_wp2_with fail
  refine (pgoal_any _ _ _ _ _ t x HT.out OK.out HX.out HS.out).mono ?_
  rintro e w2 ⟨rfl, hk⟩
  have HK2 := Lib.hid (HK1.out.trans hk)
  unfold fltV
  clear hk d0 d1 d2 d3
  go_wp2_with fail
  go_ret
  exact ⟨rfl, HK2.out.trans ((Keeps.refl (fun _ => False) w2).alloc _)⟩

set_option maxRecDepth 100000 in
set_option maxHeartbeats 4000000 in
theorem valueOf3_any (w : World) (vi vg vo vs : Value) (t : Tsk) (x : Nat) (h : TaskAt w vi vg vo t) (ok : t.Ok) (hg : Good t.n x) (hs : Ints w vs (facts x)) :
    Calls Tryz.prog 34 #[.agg #[.int .i64 t.n, vi, vg, vo], .int .i64 3, vs] w fun e w' => e = .returned (.int .i64 (planH t x)) ∧ Keeps (fun _ => False) w w' := by
  obtain ⟨ai, ci, h1, _⟩ := h.init.form
  obtain ⟨ag, cg, h2, _⟩ := h.goal.form
  obtain ⟨ao, co, h3, hmo⟩ := h.ops.form
  subst h1 h2 h3
  have K1 := (Keeps.refl (fun _ => False) w).alloc (.cells #[.int .i64 t.n, .slice ai t.init.length ci, .slice ag t.goal.length cg, .slice ao t.ops.length co] 25)
  have HB := Lib.hid (Four.new w (.int .i64 t.n) (.slice ai t.init.length ci) (.slice ag t.goal.length cg) (.slice ao t.ops.length co) 25)
  have HT := Lib.hid (h.keeps0 K1); have HS := Lib.hid (hs.keeps0 K1); have HK1 := Lib.hid K1
  have OK := Lib.hid ok; have HX := Lib.hid hg
  clear h hs K1 ok hg
  have HRO := Lib.hid (relP_ok OK.out (facts x))
  go_enter Tryz.func34, Tryz.ntmps34
  go_upto_region 10 with fail
  generalize (w.alloc (.cells #[.int .i64 t.n, .slice ai t.init.length ci, .slice ag t.goal.length cg, .slice ao t.ops.length co] 25)) = w1 at HT HB HK1 HS ⊢
  obtain ⟨d0, d1, d2, d3⟩ := HB.out
  have hbx := HB.out.lt
  go_wp2_with fail
  refine (rplan_any _ _ _ _ _ t x HT.out OK.out HX.out HS.out).mono ?_
  rintro e w2 ⟨vx, rfl, hpl, hk⟩
  have K2 := hk.trans ((Keeps.refl (fun _ => False) w2).alloc (.cells #[.int .i64 0, .int .i64 0] 31))
  have HK2 := Lib.hid (HK1.out.trans K2); have HT2 := Lib.hid (HT.out.keeps0 K2); have HB2 := Lib.hid (HB.out.keeps0 K2)
  have HPL := Lib.hid (show relOk t (facts x) = true → Ints (w2.alloc (.cells #[.int .i64 0, .int .i64 0] 31)) vx (relP t (facts x)) from fun h => (hpl h).keeps0 ((Keeps.refl (fun _ => False) w2).alloc _))
  unfold fltV
  clear hk d0 d1 d2 d3 hbx hpl K2
  cases hr : relOk t (facts x) with
  | false =>
    have HR := Lib.hid (show planH t x = 1000000000 by unfold planH; rw [hr]; rfl)
    clear hr
    go_wp2_with fail
    go_ret
    exact ⟨by rw [HR.out]; rfl, HK2.out⟩
  | true =>
    have HR := Lib.hid (show planH t x = pcost t (relP t (facts x)) by unfold planH; rw [hr]; rfl)
    have HPI := Lib.hid (HPL.out hr)
    obtain ⟨ap, cp, hvx, _⟩ := HPI.out.form
    subst hvx
    clear hr HPL
    have hl40 := HRO.out.1
    go_upto_region 11 with fail
    generalize (w2.alloc (.cells #[.int .i64 0, .int .i64 0] 31)) = w3 at HK2 HT2 HB2 HPI ⊢
    generalize relP t (facts x) = l at HPI HR HRO hl40 ⊢
    go_wp2_with fail
    go_loopw [7, 17] (fun v7 v17 wr => ∃ j : Nat, j ≤ l.length ∧ v17 = .int .i64 (j : Int) ∧ v7 = .int .i64 (pcost t (l.take j)) ∧ Keeps (fun _ => False) w3 wr) (fun _ v17 _ => l.length - (intOf v17).toNat)
    case atStart => exact ⟨0, Nat.zero_le _, rfl, rfl, Keeps.refl _ _⟩
    case round =>
      obtain ⟨j, hj, rfl, rfl, hkr⟩ := hrel
      have HKR := Lib.hid hkr
      clear hkr
      by_cases hjl : j < l.length
      · obtain ⟨b1, o1, rfl, hca⟩ := (HPI.out.keeps0 HKR.out).cell rfl (by omega)
        obtain ⟨p, hp⟩ : ∃ p, l[j]? = some p := ⟨_, List.getElem?_eq_getElem hjl⟩
        have hpb := HRO.out.2 p (List.mem_of_getElem? hp)
        obtain ⟨i, rfl⟩ := Int.eq_ofNat_of_zero_le hpb.1
        have hc2 := hca j _ hp
        have HC2 := Lib.hid hc2
        have hil : (i : Int) < ((t.ops.length : Nat) : Int) := hpb.2
        obtain ⟨o, ho⟩ : ∃ o, t.ops[i]? = some o := ⟨_, List.getElem?_eq_getElem (by omega)⟩
        obtain ⟨bo, oo, rfl, hcell⟩ := HT2.out.ops.cell rfl (by omega)
        obtain ⟨va, vb, vd, p0, p1, p2, p3, i1, i2, i3⟩ := hcell i o ho
        have HP3 := Lib.hid p3
        have HTK := Lib.hid (pcost_take hp ho)
        have hb := pcost_ok OK.out (l.take j) 0 (Int.le_refl _)
        have hln : (l.take j).length ≤ 40 := by rw [List.length_take]; omega
        have hco := OK.out.ops o (List.mem_of_getElem? ho)
        have hc0 := hco.cost0; have hc1 := hco.cost1
        rw [show (l.take j).foldl (fun a i => a + ((t.ops[i.toNat]?).map Opr.cost).getD 0) 0 = pcost t (l.take j) from rfl] at hb
        generalize pcost t (l.take j) = a at hb HTK ⊢
        have HBr := Lib.hid (HB2.out.keeps0 HKR.out)
        obtain ⟨d0, d1, d2, d3⟩ := HBr.out
        have hbx := HBr.out.lt
        have j0 : (0 : Int) ≤ (j : Int) := by omega
        have j1 : (j : Int) < (l.length : Int) := by omega
        clear hca hp hpb ho hcell i1 i2 i3 hco p0 p1 p2 p3
        go_upto_region 16 with fail
        go_still_tail 8, (by kernel_rfl)
        change wpList _ _ _ _ _ wr.drew
        have KD := (Keeps.refl (fun _ => False) wr).drew
        have K4 := Lib.hid (HKR.out.trans KD); have HB4 := Lib.hid (HBr.out.keeps0 KD)
        have HC4 := Lib.hid (KD.cell HC2.out (fun h => h))
        clear KD d0 d1 d2 d3 hbx hc2 HBr
        generalize wr.drew = w4 at K4 HB4 HC4 ⊢
        go_wp2_with fail
        have hin : inB (i : Int) 0 ((t.ops.length : Int) - 1) = true := by unfold inB; simp; omega
        refine (in_val w4 hin).mono ?_; rintro e w5 ⟨rfl, rfl⟩
        obtain ⟨d0, d1, d2, d3⟩ := HB4.out
        have hbx := HB4.out.lt
        have c2 := HC4.out
        have c3 := K4.out.cell HP3.out (fun h => h)
        have i0 : (0 : Int) ≤ (i : Int) := by omega
        have hwr : IntKind.i64.wrap (a + o.cost) = a + o.cost := IntWalk.i64_in _ (by omega)
        have KX := Lib.hid (K4.out.trans ((Keeps.refl (fun _ => False) w5).drew))
        go_upto_region 17 with fail
        go_still_tail 10, (by kernel_rfl)
        change wpList _ _ _ _ _ w5.drew
        go_wp2_with fail
        go_roundw
        case rel => exact ⟨j + 1, by omega, by go_num, by rw [HTK.out], KX.out⟩
        case measure => simp only [intOf]; omega
      · rw [List.take_of_length_le (by omega)]
        go_wp2_with fail
        go_ret
        exact ⟨by rw [HR.out]; rfl, HK2.out.trans HKR.out⟩

set_option maxRecDepth 100000 in
set_option maxHeartbeats 4000000 in
theorem valueOf_any (w : World) (vi vg vo vs : Value) (t : Tsk) (k : Int) (x : Nat) (h : TaskAt w vi vg vo t) (ok : t.Ok) (hg : Good t.n x) (hs : Ints w vs (facts x)) :
    Calls Tryz.prog 34 #[.agg #[.int .i64 t.n, vi, vg, vo], .int .i64 k, vs] w fun e w' => e = .returned (.int .i64 (kindV t k x)) ∧ Keeps (fun _ => False) w w' := by
  by_cases k1 : k = 1
  · subst k1; exact valueOf1_any w vi vg vo vs t x h ok hg hs
  by_cases k2 : k = 2
  · subst k2; exact valueOf2_any w vi vg vo vs t x h ok hg hs
  by_cases k3 : k = 3
  · subst k3; exact valueOf3_any w vi vg vo vs t x h ok hg hs
  by_cases k4 : k = 4
  · subst k4; exact valueOf4_any w vi vg vo vs t x h ok hg hs
  by_cases k5 : k = 5
  · subst k5; exact valueOf5_any w vi vg vo vs t x h ok hg hs
  have HV := Lib.hid (show kindV t k x = 0 by unfold kindV kindH; rw [if_neg k3, if_neg k1, if_neg k2, if_neg k4, if_neg k5])
  have b1 : (k == 1) = false := by simpa using k1
  have b2 : (k == 2) = false := by simpa using k2
  have b3 : (k == 3) = false := by simpa using k3
  have b4 : (k == 4) = false := by simpa using k4
  have b5 : (k == 5) = false := by simpa using k5
  have K1 := Lib.hid ((Keeps.refl (fun _ => False) w).alloc (.cells #[.int .i64 t.n, vi, vg, vo] 25))
  clear h hs ok hg k1 k2 k3 k4 k5
  go_enter Tryz.func34, Tryz.ntmps34
  go_wp2_with fail
  go_ret
  exact ⟨by rw [HV.out]; rfl, K1.out⟩

end Go.Proofs.YtcpmjoabhnfddaaGreat

namespace Go.Proofs.YtcpmjoabhnfddaaGreat
open Go.RowKit Go.Shelf

theorem inB_kind (k : Int) : inB k 0 5 = decide (0 ≤ k ∧ k ≤ 5) := by
  unfold inB
  simp

set_option maxRecDepth 100000 in
set_option maxHeartbeats 4000000 in
theorem valuesLaw_any (w : World) (vi vg vo : Value) (t : Tsk) (k : Int) (h : TaskAt w vi vg vo t) :
    Calls Tryz.prog 7 #[.agg #[.int .i64 t.n, vi, vg, vo], .int .i64 k] w fun e w' => e = .returned (.bool true) ∧ Keeps (fun _ => False) w w' := by
  obtain ⟨ai, ci, h1, _⟩ := h.init.form
  obtain ⟨ag, cg, h2, _⟩ := h.goal.form
  obtain ⟨ao, co, h3, hmo⟩ := h.ops.form
  subst h1 h2 h3
  have HB := Lib.hid (Four.new w (.int .i64 t.n) (.slice ai t.init.length ci) (.slice ag t.goal.length cg) (.slice ao t.ops.length co) 25)
  have K1 := (Keeps.refl (fun _ => False) w).alloc (.cells #[.int .i64 t.n, .slice ai t.init.length ci, .slice ag t.goal.length cg, .slice ao t.ops.length co] 25)
  have HT := Lib.hid (h.keeps0 K1); have HK := Lib.hid K1
  clear h K1
  go_enter Tryz.func7, Tryz.ntmps7
  go_upto_region 1 with fail
  generalize (w.alloc (.cells #[.int .i64 t.n, .slice ai t.init.length ci, .slice ag t.goal.length cg, .slice ao t.ops.length co] 25)) = w1 at HB HT HK ⊢
  generalize w.heap.size = bt at HB ⊢
  go_wp2_with fail
  refine (astarExample_any _).mono ?_; rintro e w2 ⟨rfl, hk⟩
  have HB0 := Lib.hid (HB.out.keeps0 hk); have HT0 := Lib.hid (HT.out.keeps0 hk); have HK0 := Lib.hid (HK.out.trans hk)
  clear HB HT HK hk
  have hbxd := HB0.out.lt
  obtain ⟨d0, d1, d2, d3⟩ := HB0.out
  go_wp2_with fail
  refine (wide_any _ _ _ _ t HT0.out).mono ?_; rintro e w3 ⟨rfl, hk⟩
  have HB1 := Lib.hid (HB0.out.keeps0 hk); have HT1 := Lib.hid (HT0.out.keeps0 hk); have HK1 := Lib.hid (HK0.out.trans hk)
  clear hbxd d0 d1 d2 d3 HB0 HT0 HK0 hk
  cases hwd : wideB t with
  | true =>
    go_wp2_with fail
    go_ret
    exact ⟨rfl, HK1.out⟩
  | false =>
    clear hwd
    have hbxd := HB1.out.lt
    obtain ⟨d0, d1, d2, d3⟩ := HB1.out
    go_wp2_with fail
    refine (avalsK_any _ _ _ _ t k HT1.out).mono ?_; rintro e w4 ⟨hk, vv, lv, fcx, fix, rfl, hv⟩
    obtain ⟨av, nv, cv, rfl, rfl⟩ := valsIs_form hv
    clear hbxd d0 d1 d2 d3
    simp only [fltV]
    have KA := (Keeps.refl (fun _ => False) w4).alloc (.cells #[.int .i64 fcx, .int .i64 fix] 31)
    have KC := hk.trans KA
    have HB3 := Lib.hid (HB1.out.keeps0 KC); have HT3 := Lib.hid (HT1.out.keeps0 KC); have HK3 := Lib.hid (HK1.out.trans KC)
    have HV3 := Lib.hid (show ValsIs t k (w4.alloc (.cells #[.int .i64 fcx, .int .i64 fix] 31)) (.slice av nv cv) nv fcx fix from by
      rcases hv with h | ⟨h1, h2, h3, h4, h5, l, ws, h6, h7, h8, h9⟩
      · exact .inl h
      · exact .inr ⟨h1, h2, h3, h4, h5, l, ws, h6, h7, h8, h9.keeps0 KA⟩)
    have HFx := Lib.hid (heap_alloc_new w4 (.cells #[.int .i64 fcx, .int .i64 fix] 31))
    clear HB1 HT1 HK1 hk KA KC hv
    go_upto_region 6 with fail
    generalize (w4.alloc (.cells #[.int .i64 fcx, .int .i64 fix] 31)) = w5 at HB3 HT3 HK3 HV3 HFx ⊢
    generalize w4.heap.size = b4 at HFx ⊢
    obtain ⟨pb, hpb⟩ : ∃ pb, decide (0 ≤ k ∧ k ≤ 5) = pb := ⟨_, rfl⟩
    have HIN := Lib.hid ((inB_kind k).trans hpb)
    obtain ⟨c', i', hci⟩ : ∃ c' i', kindF t pb = (c', i') := ⟨_, _, rfl⟩
    have HCI := Lib.hid hci
    unfold ValsIs at HV3
    rw [hpb] at HV3
    clear hci hpb
    have KD : Keeps (fun _ => False) w5 w5.drew := (Keeps.refl (fun _ => False) w5).drew
    have KA : Keeps (fun _ => False) w5.drew (w5.alloc (.cells #[.int .i64 0, .int .i64 0] 31)).drew := by
      have h := (Keeps.refl (fun _ => False) w5.drew).alloc (.cells #[.int .i64 0, .int .i64 0] 31)
      exact h
    have HTD := Lib.hid (HT3.out.keeps0 KD); have HKD := Lib.hid KD; have HKA := Lib.hid KA
    have HZ8 := Lib.hid (show (w5.alloc (.cells #[.int .i64 0, .int .i64 0] 31)).drew.heap[w5.heap.size]? = some (.cells #[.int .i64 0, .int .i64 0] 31 (0, 0)) from heap_alloc_new w5 _)
    have HB1x := HB3.out.keeps0 KD
    have hbx := HB1x.lt
    have HBX := Lib.hid (show bt < w5.heap.size from HB3.out.lt)
    obtain ⟨d0, d1, d2, d3⟩ := HB1x
    obtain ⟨d0', d1', d2', d3'⟩ := (HB3.out.keeps0 KD).keeps0 KA
    clear KD KA
    go_region_held3 (fun w' => w'.cell? ⟨bt, 0, none⟩ = some (.int .i64 t.n) ∧ w'.cell? ⟨bt, 1, none⟩ = some (.slice ai t.init.length ci) ∧ w'.cell? ⟨bt, 2, none⟩ = some (.slice ag t.goal.length cg) ∧ w'.cell? ⟨bt, 3, none⟩ = some (.slice ao t.ops.length co))
      (first | go_keep | with_reducible exact ⟨(keeps_pair (w := w9) w5.heap.size (.int .i64 c') (.int .i64 i')).cell t0 (show ¬ bt = w5.heap.size by have := HBX.out; omega), (keeps_pair (w := w9) w5.heap.size (.int .i64 c') (.int .i64 i')).cell t1 (show ¬ bt = w5.heap.size by have := HBX.out; omega), (keeps_pair (w := w9) w5.heap.size (.int .i64 c') (.int .i64 i')).cell t2 (show ¬ bt = w5.heap.size by have := HBX.out; omega), (keeps_pair (w := w9) w5.heap.size (.int .i64 c') (.int .i64 i')).cell t3 (show ¬ bt = w5.heap.size by have := HBX.out; omega)⟩)
      (first
        | (go_at_call 32; refine (in_val _ HIN.out).mono ?_; rintro en wq ⟨rfl, rfl⟩)
        | (go_at_call 17; refine (kindFault_any _ _ _ _ t pb HTD.out).mono ?_; rintro en w9 ⟨rfl, hk⟩; rw [HCI.out]; have HK9 := Lib.hid hk; have t0 := hk.cell d0 (fun h => h); have t1 := hk.cell d1 (fun h => h); have t2 := hk.cell d2 (fun h => h); have t3 := hk.cell d3 (fun h => h); clear hk)
        | (go_at_call 17; refine (kindFault_any _ _ _ _ t pb (HTD.out.keeps0 HKA.out)).mono ?_; rintro en w9 ⟨rfl, hk⟩; rw [HCI.out]; have HK9 := Lib.hid hk; have HZ9 := Lib.hid (hk.heap HZ8.out (fun h => h)); obtain ⟨q0, q1, y0, y1, hl6⟩ := pair_cells HZ9.out; have t0 := hk.cell d0' (fun h => h); have t1 := hk.cell d1' (fun h => h); have t2 := hk.cell d2' (fun h => h); have t3 := hk.cell d3' (fun h => h); clear hk))
    all_goals
      first
        | (have HFZ := Lib.hid (pair_set HZ9.out (.int .i64 c') (.int .i64 i'))
           have HC := Lib.hid (show Keeps (fun _ => False) w5 ((w9.setCell ⟨w5.heap.size, 0, none⟩ (.int .i64 c')).setCell ⟨w5.heap.size, 1, none⟩ (.int .i64 i')) from ((HKD.out.trans HKA.out).trans HK9.out).trans' (keeps_pair (w := w9) w5.heap.size (.int .i64 c') (.int .i64 i')) (fun k hk => .inr (Nat.le_of_eq hk.symm)))
           clear t0 t1 t2 t3 q0 q1 y0 y1 HZ9 hl6 HK9
           generalize (w9.setCell ⟨w5.heap.size, 0, none⟩ (.int .i64 c')).setCell ⟨w5.heap.size, 1, none⟩ (.int .i64 i') = wz at HFZ HC ⊢
           generalize w5.heap.size = b8 at HFZ ⊢)
        | (have HFZ := Lib.hid (heap_alloc_new w9 (.cells #[.int .i64 c', .int .i64 i'] 31))
           have HC := Lib.hid (show Keeps (fun _ => False) w5 (w9.alloc (.cells #[.int .i64 c', .int .i64 i'] 31)) from (HKD.out.trans HK9.out).trans ((Keeps.refl (fun _ => False) w9).alloc _))
           clear t0 t1 t2 t3 HK9
           generalize w9.alloc (.cells #[.int .i64 c', .int .i64 i'] 31) = wz at HFZ HC ⊢
           generalize w9.heap.size = b8 at HFZ ⊢)
    all_goals
      have HFx4 := Lib.hid (HC.out.heap HFx.out (fun h => h))
      have HK4 := Lib.hid (HK3.out.trans HC.out)
      obtain ⟨f0, f1, _, _, fl⟩ := pair_cells HFx4.out
      obtain ⟨g0, g1, _, _, gl⟩ := pair_cells HFZ.out
      clear d0 d1 d2 d3 d0' d1' d2' d3' hbx
      rcases HV3.out with ⟨hc, he, _, hn⟩ | ⟨rfl, rfl, hkk, hkf, hok, l, ws, hx, hws, hlv, hiv⟩
      · have e2 : (fcx, fix) = (c', i') := he.trans HCI.out
        simp only [Prod.mk.injEq] at e2
        obtain ⟨rfl, rfl⟩ := e2
        have hn0 : nv = 0 := by omega
        subst hn0
        have q1 : (fcx != 0) = true := by simpa using hc
        clear hc he hn HV3 HCI
        go_wp2_with fail
        go_ret
        exact ⟨rfl, HK4.out⟩
      · have e2 : (0, 0) = (c', i') := hkf.symm.trans HCI.out
        simp only [Prod.mk.injEq] at e2
        obtain ⟨rfl, rfl⟩ := e2
        have hn1 : nv = ws.length := by omega
        subst hn1
        have HT4 := Lib.hid (HT3.out.keeps0 HC.out); have HB4 := Lib.hid (HB3.out.keeps0 HC.out)
        have HCV := Lib.hid (show ws.length > 0 → ∃ b o, av = some ⟨b, o, none⟩ ∧ ∀ (i : Nat) (x : Int), (ws.map (kindV t k))[i]? = some x → w5.cell? ⟨b, o + i, none⟩ = some (.int .i64 x) from fun h => hiv.cell (show Value.slice av ws.length cv = .slice av (ws.map (kindV t k)).length cv by rw [List.length_map]) (by rw [List.length_map]; exact h))
        have OK := Lib.hid hok; have HX := Lib.hid hx; have HWS := Lib.hid hws
        have hfew : ws.length ≤ 2000 := (costs_need hok hx hws.1).2.2.2.2.1
        clear hkk hkf hok hx hws hlv hiv HV3 HCI HT3 HB3
        have hbxd := HB4.out.lt
        obtain ⟨d0, d1, d2, d3⟩ := HB4.out
        go_wp2_with fail
        refine (states_any _ _ _ _ t HT4.out OK.out _ HX.out).mono ?_; rintro e wy ⟨hk, L, vL, hp, hs, rfl, hL⟩
        obtain rfl := WsOf.same OK.out HX.out HWS.out ⟨hp, hs⟩
        obtain ⟨aL, cL, hvL, _⟩ := hL.form
        rw [List.length_map] at hvL
        subst hvL
        have HKY := Lib.hid (HC.out.trans hk)
        have HK5 := Lib.hid (HK4.out.trans hk); have HT5 := Lib.hid (HT4.out.keeps0 hk); have HB5 := Lib.hid (HB4.out.keeps0 hk)
        have HFx5 := Lib.hid (hk.heap HFx4.out (fun h => h))
        have HCL := Lib.hid (hL.cell (show Value.slice aL ws.length cL = .slice aL (ws.map facts).length cL by rw [List.length_map]))
        have HGD := Lib.hid (HWS.out.good OK.out HX.out).1
        clear f0 f1 fl g0 g1 gl hbxd d0 d1 d2 d3 hk hp hs hL HK4 HT4 HB4 HFx4
        obtain ⟨f0, f1, _, _, fl⟩ := pair_cells HFx5.out
        go_wp2_with fail
        go_loopw [10] (fun v10 wr => ∃ i : Nat, i ≤ ws.length ∧ v10 = .int .i64 (i : Int) ∧ Keeps (fun _ => False) wy wr) (fun v10 _ => ws.length - (intOf v10).toNat)
        case atStart => exact ⟨0, Nat.zero_le _, rfl, Keeps.refl _ _⟩
        case round =>
          obtain ⟨i, hi, rfl, hkr⟩ := hrel
          have HKR := Lib.hid hkr
          clear hkr f0 f1 fl
          by_cases hlt : i < ws.length
          · obtain ⟨x, hx⟩ : ∃ x, ws[i]? = some x := ⟨_, List.getElem?_eq_getElem hlt⟩
            have HGX := Lib.hid (HGD.out x (List.mem_of_getElem? hx))
            obtain ⟨bv, ov, rfl, hcv⟩ := HCV.out (by omega)
            obtain ⟨bl, ol, rfl, hcl⟩ := HCL.out (by rw [List.length_map]; omega)
            obtain ⟨u, hu, hiu⟩ := hcl i (facts x) (by rw [List.getElem?_map, hx]; rfl)
            have KD := (Keeps.refl (fun _ => False) wr).drew
            have KW := Lib.hid (HKR.out.trans KD)
            have HIU := Lib.hid (hiu.keeps0 KW.out)
            have cv0 := (HKY.out.trans KW.out).cell (hcv i (kindV t k x) (by rw [List.getElem?_map, hx]; rfl)) (fun h => h)
            have cl0 := KW.out.cell hu (fun h => h)
            have HTr := Lib.hid (HT5.out.keeps0 KW.out); have HBr := Lib.hid (HB5.out.keeps0 KW.out)
            have hbxd := HBr.out.lt
            obtain ⟨d0, d1, d2, d3⟩ := HBr.out
            have i0 : (0 : Int) ≤ (i : Int) := by omega
            have i1 : (i : Int) < (ws.length : Int) := by omega
            clear hx hcv hcl hu hiu KD
            generalize hvx : kindV t k x = vx at cv0
            have HVX := Lib.hid hvx
            have hne : (vx != vx) = false := by simp
            clear hvx
            go_upto_region 15 with fail
            go_region_held3 (fun w' => w'.cell? ⟨bt, 0, none⟩ = some (.int .i64 t.n) ∧ w'.cell? ⟨bt, 1, none⟩ = some (.slice ai t.init.length ci) ∧ w'.cell? ⟨bt, 2, none⟩ = some (.slice ag t.goal.length cg) ∧ w'.cell? ⟨bt, 3, none⟩ = some (.slice ao t.ops.length co) ∧ w'.cell? ⟨bv, ov + i, none⟩ = some (.int .i64 vx) ∧ w'.cell? ⟨bl, ol + i, none⟩ = some u)
              (go_keep)
              (first
                | (go_at_call 34; refine (valueOf_any _ _ _ _ _ t k x HTr.out OK.out HGX.out HIU.out).mono ?_; rintro en w8 ⟨rfl, hk⟩; rw [HVX.out]; have K8 := Lib.hid (KW.out.trans hk); have t0 := hk.cell d0 (fun h => h); have t1 := hk.cell d1 (fun h => h); have t2 := hk.cell d2 (fun h => h); have t3 := hk.cell d3 (fun h => h); have t4 := hk.cell cv0 (fun h => h); have t5 := hk.cell cl0 (fun h => h); clear hk))
            all_goals
              go_wp2_with fail
              go_roundw
              case rel => exact ⟨i + 1, by omega, by go_num, K8.out⟩
              case measure => simp only [intOf]; omega
          · go_wp2_with fail
            go_ret
            exact ⟨rfl, HK5.out.trans HKR.out⟩

end Go.Proofs.YtcpmjoabhnfddaaGreat
