/- strips.Solves, Cost, Play. space: SpaceOptimalIsLeast walked. breadth: BreadthPlansAreShortest walked. breadth: BreadthAgreesWithSteps walked. No condition beyond what each theorem says. -/
import Derived.Test.YtdonadeodioplaaK13

namespace Go.Proofs.Ytdonadeodioplaa
open Go.RowKit

theorem costN_snoc (ops : List Wop) (j : Nat) : ∀ q : List Nat, costN ops (q ++ [j]) = costN ops q + ((ops[j]?.map Wop.cost).getD 0)
  | [] => by simp [costN]
  | a :: q => by rw [List.cons_append, costN, costN, costN_snoc ops j q]; omega
theorem facts_init {t : Tsk} (ok : t.Ok) : facts (wd t.init) = t.init ∧ Good t.n (wd t.init) :=
  ⟨facts_wd (isSet_mono ok.init (by have := ok.n1; omega)), good_wd (by have := ok.n1; omega) ok.init⟩
theorem ops_cost0 {t : Tsk} (ok : t.Ok) : ∀ o ∈ wordsOf t.ops, 0 ≤ o.cost ∧ o.cost ≤ 100 := fun o ho => by
  unfold wordsOf at ho
  obtain ⟨o', ho', rfl⟩ := List.mem_map.1 ho
  exact ⟨(ok.ops o' ho').cost0, (ok.ops o' ho').cost1⟩

set_option maxRecDepth 100000 in
set_option maxHeartbeats 1000000 in
theorem solves_bad (w : World) (vi vg vo vp : Value) (t : Tsk) (p : List Int) (h : TaskAt w vi vg vo t) (hp : Ints w vp p) {c i : Int} (hc : c ≠ 0) (he : planF t p = (c, i)) :
    Calls Try.prog 39 #[.agg #[.int .i64 t.n, vi, vg, vo], vp] w fun e w' => e = .returned (.tuple #[.bool false, fltV c i]) ∧ Keeps (fun _ => False) w w' := by
  obtain ⟨ap, cp, h5, hpl⟩ := hp.form
  subst h5
  have HE := Lib.hid he
  have hc2 : (c == 0) = false := by simpa using hc
  clear he hc
  obtain ⟨ai, ci, h1, _⟩ := h.init.form
  obtain ⟨ag, cg, h2, _⟩ := h.goal.form
  obtain ⟨ao, co, h3, hmo⟩ := h.ops.form
  subst h1 h2 h3
  have K1 := (Keeps.refl (fun _ => False) w).alloc (.cells #[.int .i64 t.n, .slice ai t.init.length ci, .slice ag t.goal.length cg, .slice ao t.ops.length co] 25)
  have KA2 := K1.alloc (.cells #[.int .i64 0, .int .i64 0] 30)
  have HT := Lib.hid (h.keeps0 KA2)
  have HB := Lib.hid ((Four.new w (.int .i64 t.n) (.slice ai t.init.length ci) (.slice ag t.goal.length cg) (.slice ao t.ops.length co) 25).keeps0 ((Keeps.refl _ _).alloc (.cells #[.int .i64 0, .int .i64 0] 30)))
  have HF : Flt w ((w.alloc (.cells #[.int .i64 t.n, .slice ai t.init.length ci, .slice ag t.goal.length cg, .slice ao t.ops.length co] 25)).alloc (.cells #[.int .i64 0, .int .i64 0] 30)) (w.heap.size + 1) 30 :=
    ⟨by have := heap_alloc_new (w.alloc (.cells #[.int .i64 t.n, .slice ai t.init.length ci, .slice ag t.goal.length cg, .slice ao t.ops.length co] 25)) (.cells #[.int .i64 0, .int .i64 0] 30); rwa [World.size_alloc] at this, by omega, KA2⟩
  replace HF := Lib.hid HF
  have HP := Lib.hid (show Ints _ (.slice ap p.length cp) p from hp.keeps0 KA2)
  clear h K1 KA2 hp
  go_enter Try.func39, Try.ntmps39
  go_upto_region 1 with fail
  generalize ((w.alloc (.cells #[.int .i64 t.n, .slice ai t.init.length ci, .slice ag t.goal.length cg, .slice ao t.ops.length co] 25)).alloc (.cells #[.int .i64 0, .int .i64 0] 30)) = w1 at HT HB HF HP ⊢
  have hbx := HB.out.lt
  obtain ⟨d0, d1, d2, d3⟩ := HB.out
  go_wp2_with fail
  refine (planFault_any _ _ _ _ _ t p HT.out HP.out).mono ?_; rintro e w2 ⟨rfl, hk⟩
  rw [HE.out]
  simp only [fltV]
  have HF2 := Lib.hid (HF.out.keeps0 hk)
  clear d0 d1 d2 d3 hk
  have hb0 := HF2.out.keep.size
  have HF3 := Lib.hid (HF2.out.keeps0 ((Keeps.refl _ _).alloc (.cells #[.int .i64 c, .int .i64 i] 30)))
  obtain ⟨e0, e1, z0, z1, hF⟩ := HF3.out.cells
  go_wp2_with fail
  go_region
  all_goals
    go_wp2
    refine bodyPost_ret (results_tmp_cell _ _ (w.heap.size + 1) 30 #[.int .i64 c, .int .i64 i] (0, 0) _ rfl rfl (((Keeps.refl (fun _ => False) _).drew).heap (HF3.out.set (.int .i64 c) (.int .i64 i)).1 (fun h => h)) Try.underlying30 rfl (by kernel_rfl)) rfl ?_
    exact ⟨rfl, ((HF3.out.set (.int .i64 c) (.int .i64 i)).2).drew⟩

set_option maxRecDepth 100000 in
set_option maxHeartbeats 1000000 in
theorem cost_bad (w : World) (vi vg vo vp : Value) (t : Tsk) (p : List Int) (h : TaskAt w vi vg vo t) (hp : Ints w vp p) {c i : Int} (hc : c ≠ 0) (he : planF t p = (c, i)) :
    Calls Try.prog 40 #[.agg #[.int .i64 t.n, vi, vg, vo], vp] w fun e w' => e = .returned (.tuple #[.int .i64 0, fltV c i]) ∧ Keeps (fun _ => False) w w' := by
  obtain ⟨ap, cp, h5, hpl⟩ := hp.form
  subst h5
  have HE := Lib.hid he
  have hc2 : (c == 0) = false := by simpa using hc
  clear he hc
  obtain ⟨ai, ci, h1, _⟩ := h.init.form
  obtain ⟨ag, cg, h2, _⟩ := h.goal.form
  obtain ⟨ao, co, h3, hmo⟩ := h.ops.form
  subst h1 h2 h3
  have K1 := (Keeps.refl (fun _ => False) w).alloc (.cells #[.int .i64 t.n, .slice ai t.init.length ci, .slice ag t.goal.length cg, .slice ao t.ops.length co] 25)
  have KA2 := K1.alloc (.cells #[.int .i64 0, .int .i64 0] 30)
  have HT := Lib.hid (h.keeps0 KA2)
  have HB := Lib.hid ((Four.new w (.int .i64 t.n) (.slice ai t.init.length ci) (.slice ag t.goal.length cg) (.slice ao t.ops.length co) 25).keeps0 ((Keeps.refl _ _).alloc (.cells #[.int .i64 0, .int .i64 0] 30)))
  have HF : Flt w ((w.alloc (.cells #[.int .i64 t.n, .slice ai t.init.length ci, .slice ag t.goal.length cg, .slice ao t.ops.length co] 25)).alloc (.cells #[.int .i64 0, .int .i64 0] 30)) (w.heap.size + 1) 30 :=
    ⟨by have := heap_alloc_new (w.alloc (.cells #[.int .i64 t.n, .slice ai t.init.length ci, .slice ag t.goal.length cg, .slice ao t.ops.length co] 25)) (.cells #[.int .i64 0, .int .i64 0] 30); rwa [World.size_alloc] at this, by omega, KA2⟩
  replace HF := Lib.hid HF
  have HP := Lib.hid (show Ints _ (.slice ap p.length cp) p from hp.keeps0 KA2)
  clear h K1 KA2 hp
  go_enter Try.func40, Try.ntmps40
  go_upto_region 1 with fail
  generalize ((w.alloc (.cells #[.int .i64 t.n, .slice ai t.init.length ci, .slice ag t.goal.length cg, .slice ao t.ops.length co] 25)).alloc (.cells #[.int .i64 0, .int .i64 0] 30)) = w1 at HT HB HF HP ⊢
  have hbx := HB.out.lt
  obtain ⟨d0, d1, d2, d3⟩ := HB.out
  go_wp2_with fail
  refine (planFault_any _ _ _ _ _ t p HT.out HP.out).mono ?_; rintro e w2 ⟨rfl, hk⟩
  rw [HE.out]
  simp only [fltV]
  have HF2 := Lib.hid (HF.out.keeps0 hk)
  clear d0 d1 d2 d3 hk
  have hb0 := HF2.out.keep.size
  have HF3 := Lib.hid (HF2.out.keeps0 ((Keeps.refl _ _).alloc (.cells #[.int .i64 c, .int .i64 i] 30)))
  obtain ⟨e0, e1, z0, z1, hF⟩ := HF3.out.cells
  go_wp2_with fail
  go_region
  all_goals
    go_wp2
    refine bodyPost_ret (results_tmp_cell _ _ (w.heap.size + 1) 30 #[.int .i64 c, .int .i64 i] (0, 0) _ rfl rfl (((Keeps.refl (fun _ => False) _).drew).heap (HF3.out.set (.int .i64 c) (.int .i64 i)).1 (fun h => h)) Try.underlying30 rfl (by kernel_rfl)) rfl ?_
    exact ⟨rfl, ((HF3.out.set (.int .i64 c) (.int .i64 i)).2).drew⟩

set_option maxRecDepth 100000 in
set_option maxHeartbeats 1000000 in
theorem solves_good (w : World) (vi vg vo vp : Value) (t : Tsk) (q : List Nat) (h : TaskAt w vi vg vo t) (ok : t.Ok) (hp : Ints w vp (intsP q)) (hl : q.length ≤ 60) (hin : ∀ j ∈ q, j < t.ops.length) (he : planF t (intsP q) = (0, 0)) :
    Calls Try.prog 39 #[.agg #[.int .i64 t.n, vi, vg, vo], vp] w fun e w' => e = .returned (.tuple #[.bool (solvesB t q), fltV 0 0]) ∧ Keeps (fun _ => False) w w' := by
  obtain ⟨ap, cp, h5, hpl⟩ := hp.form
  have hql : (intsP q).length = q.length := by unfold intsP; rw [List.length_map]
  rw [hql] at h5 hpl
  subst h5
  have HE := Lib.hid he; have OK := Lib.hid ok; have HIN := Lib.hid hin; have HQL := Lib.hid hql
  clear he ok hin hql
  obtain ⟨ai, ci, h1, _⟩ := h.init.form
  obtain ⟨ag, cg, h2, _⟩ := h.goal.form
  obtain ⟨ao, co, h3, hmo⟩ := h.ops.form
  subst h1 h2 h3
  have K1 := (Keeps.refl (fun _ => False) w).alloc (.cells #[.int .i64 t.n, .slice ai t.init.length ci, .slice ag t.goal.length cg, .slice ao t.ops.length co] 25)
  have KA2 := K1.alloc (.cells #[.int .i64 0, .int .i64 0] 30)
  have HT := Lib.hid (h.keeps0 KA2)
  have HB := Lib.hid ((Four.new w (.int .i64 t.n) (.slice ai t.init.length ci) (.slice ag t.goal.length cg) (.slice ao t.ops.length co) 25).keeps0 ((Keeps.refl _ _).alloc (.cells #[.int .i64 0, .int .i64 0] 30)))
  have HF : Flt w ((w.alloc (.cells #[.int .i64 t.n, .slice ai t.init.length ci, .slice ag t.goal.length cg, .slice ao t.ops.length co] 25)).alloc (.cells #[.int .i64 0, .int .i64 0] 30)) (w.heap.size + 1) 30 :=
    ⟨by have := heap_alloc_new (w.alloc (.cells #[.int .i64 t.n, .slice ai t.init.length ci, .slice ag t.goal.length cg, .slice ao t.ops.length co] 25)) (.cells #[.int .i64 0, .int .i64 0] 30); rwa [World.size_alloc] at this, by omega, KA2⟩
  replace HF := Lib.hid HF
  have HP := Lib.hid (show Ints _ (.slice ap q.length cp) (intsP q) from hp.keeps0 KA2)
  clear h K1 KA2 hp
  go_enter Try.func39, Try.ntmps39
  go_upto_region 1 with fail
  generalize ((w.alloc (.cells #[.int .i64 t.n, .slice ai t.init.length ci, .slice ag t.goal.length cg, .slice ao t.ops.length co] 25)).alloc (.cells #[.int .i64 0, .int .i64 0] 30)) = w1 at HT HB HF HP ⊢
  have hbx := HB.out.lt
  obtain ⟨d0, d1, d2, d3⟩ := HB.out
  go_wp2_with fail
  refine (planFault_any _ _ _ _ _ t (intsP q) HT.out HP.out).mono ?_; rintro e w2 ⟨rfl, hk⟩
  rw [HE.out]
  simp only [fltV]
  have KA := hk.trans ((Keeps.refl (fun _ => False) w2).alloc (.cells #[.int .i64 0, .int .i64 0] 30))
  have HF3 := Lib.hid (HF.out.keeps0 KA); have HB3 := Lib.hid (HB.out.keeps0 KA); have HT3 := Lib.hid (HT.out.keeps0 KA); have HP3 := Lib.hid (show Ints _ (.slice ap q.length cp) (intsP q) from HP.out.keeps0 KA)
  have P3 := heap_alloc_new w2 (.cells #[.int .i64 0, .int .i64 0] 30)
  clear d0 d1 d2 d3 hk KA hbx HF HB HT HP
  go_upto_region 2 with fail
  generalize w2.alloc (.cells #[.int .i64 0, .int .i64 0] 30) = w3 at HF3 HB3 HT3 P3 HP3 ⊢
  generalize w2.heap.size = bp at P3 ⊢
  obtain ⟨f0, f1, y0, y1, hbp⟩ := pair_cells P3
  have hbx := HB3.out.lt
  obtain ⟨d0, d1, d2, d3⟩ := HB3.out
  go_wp2_with fail
  refine (works_any _ _ _ _ _ _ t (wd t.init) q HT3.out OK.out (facts_init OK.out).2 (by rw [(facts_init OK.out).1]; exact HT3.out.init) HP3.out HIN.out (by omega)).mono ?_; rintro e w4 ⟨rfl, hk⟩
  have HS := Lib.hid (show worksB t (wd t.init) q = solvesB t q from rfl)
  rw [HS.out]
  have HF4 := Lib.hid (HF3.out.keeps0 hk)
  clear hk d0 d1 d2 d3 f0 f1 y0 y1 hbp hbx P3 HB3 HT3 HP3
  obtain ⟨e0, e1, z0, z1, hF⟩ := HF4.out.cells
  have s0 := setCell_id e0
  have s1 := setCell_id e1
  go_wp2_with fail
  refine bodyPost_ret (results_tmp_cell _ _ (w.heap.size + 1) 30 #[.int .i64 0, .int .i64 0] (0, 0) _ rfl rfl (HF4.out.blk) Try.underlying30 rfl (by kernel_rfl)) rfl ?_
  exact ⟨rfl, HF4.out.keep⟩

set_option maxRecDepth 100000 in
set_option maxHeartbeats 1000000 in
theorem cost_good (w : World) (vi vg vo vp : Value) (t : Tsk) (q : List Nat) (h : TaskAt w vi vg vo t) (ok : t.Ok) (hp : Ints w vp (intsP q)) (hl : q.length ≤ 60) (hin : ∀ j ∈ q, j < t.ops.length) (he : planF t (intsP q) = (0, 0)) :
    Calls Try.prog 40 #[.agg #[.int .i64 t.n, vi, vg, vo], vp] w fun e w' => e = .returned (.tuple #[.int .i64 (costN (wordsOf t.ops) q), fltV 0 0]) ∧ Keeps (fun _ => False) w w' := by
  obtain ⟨ap, cp, h5, hpl⟩ := hp.form
  have hql : (intsP q).length = q.length := by unfold intsP; rw [List.length_map]
  rw [hql] at h5 hpl
  subst h5
  have HE := Lib.hid he; have OK := Lib.hid ok; have HIN := Lib.hid hin; have HQL := Lib.hid hql
  clear he ok hin hql
  obtain ⟨ai, ci, h1, _⟩ := h.init.form
  obtain ⟨ag, cg, h2, _⟩ := h.goal.form
  obtain ⟨ao, co, h3, hmo⟩ := h.ops.form
  subst h1 h2 h3
  have K1 := (Keeps.refl (fun _ => False) w).alloc (.cells #[.int .i64 t.n, .slice ai t.init.length ci, .slice ag t.goal.length cg, .slice ao t.ops.length co] 25)
  have KA2 := K1.alloc (.cells #[.int .i64 0, .int .i64 0] 30)
  have HT := Lib.hid (h.keeps0 KA2)
  have HB := Lib.hid ((Four.new w (.int .i64 t.n) (.slice ai t.init.length ci) (.slice ag t.goal.length cg) (.slice ao t.ops.length co) 25).keeps0 ((Keeps.refl _ _).alloc (.cells #[.int .i64 0, .int .i64 0] 30)))
  have HF : Flt w ((w.alloc (.cells #[.int .i64 t.n, .slice ai t.init.length ci, .slice ag t.goal.length cg, .slice ao t.ops.length co] 25)).alloc (.cells #[.int .i64 0, .int .i64 0] 30)) (w.heap.size + 1) 30 :=
    ⟨by have := heap_alloc_new (w.alloc (.cells #[.int .i64 t.n, .slice ai t.init.length ci, .slice ag t.goal.length cg, .slice ao t.ops.length co] 25)) (.cells #[.int .i64 0, .int .i64 0] 30); rwa [World.size_alloc] at this, by omega, KA2⟩
  replace HF := Lib.hid HF
  have HP := Lib.hid (show Ints _ (.slice ap q.length cp) (intsP q) from hp.keeps0 KA2)
  clear h K1 KA2 hp
  go_enter Try.func40, Try.ntmps40
  go_upto_region 1 with fail
  generalize ((w.alloc (.cells #[.int .i64 t.n, .slice ai t.init.length ci, .slice ag t.goal.length cg, .slice ao t.ops.length co] 25)).alloc (.cells #[.int .i64 0, .int .i64 0] 30)) = w1 at HT HB HF HP ⊢
  have hbx := HB.out.lt
  obtain ⟨d0, d1, d2, d3⟩ := HB.out
  go_wp2_with fail
  refine (planFault_any _ _ _ _ _ t (intsP q) HT.out HP.out).mono ?_; rintro e w2 ⟨rfl, hk⟩
  rw [HE.out]
  simp only [fltV]
  have KA := hk.trans ((Keeps.refl (fun _ => False) w2).alloc (.cells #[.int .i64 0, .int .i64 0] 30))
  have HF3 := Lib.hid (HF.out.keeps0 KA); have HB3 := Lib.hid (HB.out.keeps0 KA); have HT3 := Lib.hid (HT.out.keeps0 KA); have HP3 := Lib.hid (show Ints _ (.slice ap q.length cp) (intsP q) from HP.out.keeps0 KA)
  have P3 := heap_alloc_new w2 (.cells #[.int .i64 0, .int .i64 0] 30)
  clear d0 d1 d2 d3 hk KA hbx HF HB HT HP
  go_upto_region 2 with fail
  generalize w2.alloc (.cells #[.int .i64 0, .int .i64 0] 30) = w3 at HF3 HB3 HT3 P3 HP3 ⊢
  generalize w2.heap.size = bp at P3 ⊢
  obtain ⟨f0, f1, y0, y1, hbp⟩ := pair_cells P3
  have hbx := HB3.out.lt
  obtain ⟨d0, d1, d2, d3⟩ := HB3.out
  have HCP := Lib.hid (HP3.out.cell rfl)
  have HOC := Lib.hid (HT3.out.ops.cell rfl)
  clear P3 hbp
  go_wp2_with fail
  go_loop [7, 19] (fun v7 v19 => ∃ k : Nat, k ≤ q.length ∧ v19 = .int .i64 (k : Int) ∧ v7 = .int .i64 (costN (wordsOf t.ops) (q.take k))) (fun _ v19 => q.length - (intOf v19).toNat)
  case atStart => exact ⟨0, Nat.zero_le _, rfl, rfl⟩
  case round =>
    obtain ⟨k, hk, rfl, rfl⟩ := hrel
    by_cases hlt : k < q.length
    · obtain ⟨j, hj⟩ : ∃ j, q[k]? = some j := ⟨_, List.getElem?_eq_getElem hlt⟩
      have hjl := HIN.out j (List.mem_of_getElem? hj)
      obtain ⟨o, ho⟩ : ∃ o, t.ops[j]? = some o := ⟨_, List.getElem?_eq_getElem hjl⟩
      have hwo : (wordsOf t.ops)[j]? = some o.word := by unfold wordsOf; rw [List.getElem?_map, ho]; rfl
      obtain ⟨bp', op, rfl, hc⟩ := HCP.out (by rw [HQL.out]; omega)
      have hcj := hc k (j : Int) (by unfold intsP; rw [List.getElem?_map, hj]; rfl)
      obtain ⟨bo, oo, rfl, ho'⟩ := HOC.out (by omega)
      obtain ⟨va, vb, vc, _, _, _, c3, _⟩ := ho' j o ho
      have HST := Lib.hid (show costN (wordsOf t.ops) (q.take (k + 1)) = costN (wordsOf t.ops) (q.take k) + o.cost by
        rw [take_getS hj, costN_snoc, hwo]; rfl)
      have hb := costN_bound (ops_cost0 OK.out) (q.take k)
      have hbl : (q.take k).length ≤ 60 := by rw [List.length_take]; omega
      have ho1 := (OK.out.ops o (List.mem_of_getElem? ho)).cost0
      have ho2 := (OK.out.ops o (List.mem_of_getElem? ho)).cost1
      have i0 : (0 : Int) ≤ (j : Int) := by omega
      have i1 : (j : Int) < (t.ops.length : Int) := by omega
      obtain ⟨hb1, hb2⟩ := hb
      have hb3 : costN (wordsOf t.ops) (q.take k) ≤ 6000 := by omega
      clear hj ho hwo hc ho' hjl hb2 hbl
      generalize costN (wordsOf t.ops) (q.take k) = cc at HST hb1 hb3 ⊢
      go_wp2_with fail
      go_round
      case rel => exact ⟨k + 1, by omega, by go_num, by rw [HST.out]⟩
      case measure => simp only [intOf]; omega
    · have hke : k = q.length := by omega
      subst hke
      have HFU := Lib.hid (show costN (wordsOf t.ops) (q.take q.length) = costN (wordsOf t.ops) q by rw [List.take_length])
      obtain ⟨e0, e1, z0, z1, hF⟩ := HF3.out.cells
      have s0 := setCell_id e0
      have s1 := setCell_id e1
      go_wp2_with fail
      refine bodyPost_ret (results_tmp_cell _ _ (w.heap.size + 1) 30 #[.int .i64 0, .int .i64 0] (0, 0) _ rfl rfl (HF3.out.blk) Try.underlying30 rfl (by kernel_rfl)) rfl ?_
      exact ⟨by rw [← HFU.out]; rfl, HF3.out.keep⟩

set_option maxRecDepth 100000 in
set_option maxHeartbeats 1000000 in
theorem play_good (w : World) (vi vg vo vs vp : Value) (t : Tsk) (x y : Nat) (q : List Nat) (h : TaskAt w vi vg vo t) (ok : t.Ok) (hg : Good t.n x) (hs : Ints w vs (facts x)) (hp : Ints w vp (intsP q)) (hl : q.length ≤ 60) (hin : ∀ j ∈ q, j < t.ops.length) (hr : runOps (wordsOf t.ops) x q = some y) :
    Calls Try.prog 38 #[.agg #[.int .i64 t.n, vi, vg, vo], vs, vp] w fun e w' => ∃ v, e = .returned (.tuple #[v, fltV 0 0]) ∧ Lists w' v ((playL (wordsOf t.ops) x q).map facts) ∧ Keeps (fun _ => False) w w' := by
  obtain ⟨ap, cp, h5, hpl⟩ := hp.form
  obtain ⟨aa, cs, h4, _⟩ := hs.form
  have hql : (intsP q).length = q.length := by unfold intsP; rw [List.length_map]
  rw [hql] at h5 hpl
  subst h4 h5
  have HE := Lib.hid (show stateFault t (facts x) = (0, 0) by unfold stateFault; rw [if_pos (taskFault_zero.2 ok), if_pos hg.1])
  have HE2 := Lib.hid (show stepsF t.ops.length (intsP q) = (0, 0) by
    unfold stepsF
    rw [if_neg (by rw [hql]; omega), if_pos]
    rw [List.all_eq_true]
    intro z hz
    unfold intsP at hz
    obtain ⟨j, hj, rfl⟩ := List.mem_map.1 hz
    have := hin j hj
    simp; omega)
  have OK := Lib.hid ok; have HIN := Lib.hid hin; have GX := Lib.hid hg; have HR := Lib.hid hr
  clear ok hin hql hg hr
  obtain ⟨ai, ci, h1, _⟩ := h.init.form
  obtain ⟨ag, cg, h2, _⟩ := h.goal.form
  obtain ⟨ao, co, h3, hmo⟩ := h.ops.form
  subst h1 h2 h3
  have K1 := (Keeps.refl (fun _ => False) w).alloc (.cells #[.int .i64 t.n, .slice ai t.init.length ci, .slice ag t.goal.length cg, .slice ao t.ops.length co] 25)
  have KA2 := K1.alloc (.cells #[.int .i64 0, .int .i64 0] 30)
  have HT := Lib.hid (h.keeps0 KA2)
  have HB := Lib.hid ((Four.new w (.int .i64 t.n) (.slice ai t.init.length ci) (.slice ag t.goal.length cg) (.slice ao t.ops.length co) 25).keeps0 ((Keeps.refl _ _).alloc (.cells #[.int .i64 0, .int .i64 0] 30)))
  have HF : Flt w ((w.alloc (.cells #[.int .i64 t.n, .slice ai t.init.length ci, .slice ag t.goal.length cg, .slice ao t.ops.length co] 25)).alloc (.cells #[.int .i64 0, .int .i64 0] 30)) (w.heap.size + 1) 30 :=
    ⟨by have := heap_alloc_new (w.alloc (.cells #[.int .i64 t.n, .slice ai t.init.length ci, .slice ag t.goal.length cg, .slice ao t.ops.length co] 25)) (.cells #[.int .i64 0, .int .i64 0] 30); rwa [World.size_alloc] at this, by omega, KA2⟩
  replace HF := Lib.hid HF
  have HP := Lib.hid (show Ints _ (.slice ap q.length cp) (intsP q) from hp.keeps0 KA2)
  have HS := Lib.hid (show Ints _ (.slice aa (facts x).length cs) (facts x) from hs.keeps0 KA2)
  clear h K1 KA2 hp hs
  go_enter Try.func38, Try.ntmps38
  go_upto_region 1 with fail
  generalize ((w.alloc (.cells #[.int .i64 t.n, .slice ai t.init.length ci, .slice ag t.goal.length cg, .slice ao t.ops.length co] 25)).alloc (.cells #[.int .i64 0, .int .i64 0] 30)) = w1 at HT HB HF HP HS ⊢
  have hbx := HB.out.lt
  obtain ⟨d0, d1, d2, d3⟩ := HB.out
  go_wp2_with fail
  refine (stateFault_any _ _ _ _ _ t (facts x) HT.out HS.out).mono ?_; rintro e w2 ⟨rfl, hk⟩
  rw [HE.out]
  simp only [fltV]
  have KA := hk.trans ((Keeps.refl (fun _ => False) w2).alloc (.cells #[.int .i64 0, .int .i64 0] 30))
  have HF3 := Lib.hid (HF.out.keeps0 KA); have HB3 := Lib.hid (HB.out.keeps0 KA); have HT3 := Lib.hid (HT.out.keeps0 KA); have HP3 := Lib.hid (show Ints _ (.slice ap q.length cp) (intsP q) from HP.out.keeps0 KA); have HS3 := Lib.hid (show Ints _ (.slice aa (facts x).length cs) (facts x) from HS.out.keeps0 KA)
  have P3 := heap_alloc_new w2 (.cells #[.int .i64 0, .int .i64 0] 30)
  clear d0 d1 d2 d3 hk KA hbx HF HB HT HP HS
  go_upto_region 2 with fail
  generalize w2.alloc (.cells #[.int .i64 0, .int .i64 0] 30) = w3 at HF3 HB3 HT3 P3 HP3 HS3 ⊢
  generalize w2.heap.size = bp at P3 ⊢
  obtain ⟨f0, f1, y0, y1, hbp⟩ := pair_cells P3
  have hbx := HB3.out.lt
  obtain ⟨d0, d1, d2, d3⟩ := HB3.out
  go_wp2_with fail
  refine (strSteps_any _ _ _ (intsP q) HP3.out).mono ?_; rintro e w4 ⟨rfl, hk⟩
  rw [HE2.out]
  have P4 := Lib.hid (hk.heap P3 (fun h => h))
  have HF4 := Lib.hid (HF3.out.keeps0 hk); have HB4 := Lib.hid (HB3.out.keeps0 hk); have HT4 := Lib.hid (HT3.out.keeps0 hk); have HP4 := Lib.hid (show Ints _ (.slice ap q.length cp) (intsP q) from HP3.out.keeps0 hk); have HS4 := Lib.hid (show Ints _ (.slice aa (facts x).length cs) (facts x) from HS3.out.keeps0 hk)
  clear hk d0 d1 d2 d3 f0 f1 y0 y1 hbp hbx P3 HB3 HT3 HP3 HS3 HF3
  obtain ⟨f0, f1, y0, y1, hbp⟩ := pair_cells P4.out
  have s0 := setCell_id f0
  have s1 := setCell_id f1
  have hbx := HB4.out.lt
  obtain ⟨d0, d1, d2, d3⟩ := HB4.out
  simp only [fltV]
  go_wp2_with fail
  refine (run_any _ _ _ _ _ _ t x q HT4.out OK.out GX.out HS4.out HP4.out HIN.out (by omega)).mono ?_; rintro e w5 ⟨v, us, rfl, hrow, hk⟩
  have HF5 := Lib.hid (HF4.out.keeps0 hk); have HL := Lib.hid hrow.lists
  obtain ⟨ar, cr, har⟩ := ownsRow_form1 hrow.out
  rw [(playL_run HR.out).1] at har
  subst har
  clear hk d0 d1 d2 d3 f0 f1 y0 y1 hbp hbx s0 s1 P4 HB4 HT4 HP4 HS4 HF4 hrow
  obtain ⟨e0, e1, z0, z1, hF⟩ := HF5.out.cells
  have s0 := setCell_id e0
  have s1 := setCell_id e1
  have hne : ¬ (((q.length + 1 : Nat) : Int) ≤ (q.length : Int)) := by omega
  go_wp2_with fail
  refine bodyPost_ret (results_tmp_cell _ _ (w.heap.size + 1) 30 #[.int .i64 0, .int .i64 0] (0, 0) _ rfl rfl (HF5.out.blk) Try.underlying30 rfl (by kernel_rfl)) rfl ?_
  exact ⟨_, rfl, HL.out, HF5.out.keep⟩

end Go.Proofs.Ytdonadeodioplaa

namespace Go.Proofs.Ytdonadeodioplaa
open Go.RowKit

theorem solves_weak {w : World} {vi vg vo vp : Value} {t : Tsk} {p : List Int} (h : TaskAt w vi vg vo t) (hp : Ints w vp p) :
    Calls Try.prog 39 #[.agg #[.int .i64 t.n, vi, vg, vo], vp] w fun e w' => ∃ b x y, e = .returned (.tuple #[.bool b, fltV x y]) ∧ Keeps (fun _ => False) w w' := by
  rcases planF_cases t p with ⟨c, i, hc, he⟩ | ⟨he, ok, q, rfl, hl, hin⟩
  · exact (solves_bad w vi vg vo vp t p h hp hc he).mono fun _ _ hh => ⟨_, _, _, hh.1, hh.2⟩
  · exact (solves_good w vi vg vo vp t q h ok hp hl hin he).mono fun _ _ hh => ⟨_, _, _, hh.1, hh.2⟩
theorem cost_weak {w : World} {vi vg vo vp : Value} {t : Tsk} {p : List Int} (h : TaskAt w vi vg vo t) (hp : Ints w vp p) :
    Calls Try.prog 40 #[.agg #[.int .i64 t.n, vi, vg, vo], vp] w fun e w' => ∃ b x y, e = .returned (.tuple #[.int .i64 b, fltV x y]) ∧ Keeps (fun _ => False) w w' := by
  rcases planF_cases t p with ⟨c, i, hc, he⟩ | ⟨he, ok, q, rfl, hl, hin⟩
  · exact (cost_bad w vi vg vo vp t p h hp hc he).mono fun _ _ hh => ⟨_, _, _, hh.1, hh.2⟩
  · exact (cost_good w vi vg vo vp t q h ok hp hl hin he).mono fun _ _ hh => ⟨_, _, _, hh.1, hh.2⟩
theorem least_plain {t : Tsk} (ok : t.Ok) {l ws : List Nat} (hx : explored t = some l) (hp : ws.Perm l) {D : Nat → Int} (hD : CostOk (arcs (wordsOf t.ops) ws) (ws.map (goalB (wd t.goal))) (ws.map D)) {q : List Nat} (hl : q.length ≤ 60) (hs : solvesB t q = true) :
    D (wd t.init) ≤ costN (wordsOf t.ops) q ∧ 0 ≤ D (wd t.init) ∧ D (wd t.init) < 1000000000 := by
  obtain ⟨_, _, _, hsh, _, _, _, n8⟩ := costs_need ok hx hp
  unfold solvesB worksB at hs
  cases hr : runOps (wordsOf t.ops) (wd t.init) q with
  | none => rw [hr] at hs; simp at hs
  | some y =>
    rw [hr] at hs
    have h1 := opt_le hsh hD (ops_cost0 ok) n8 hr hs (by omega)
    have hbig : bigC = 1000000000 := rfl
    exact ⟨h1.1, (opt_low hD n8).1, by omega⟩

set_option maxRecDepth 100000 in
set_option maxHeartbeats 1000000 in
theorem optLaw_any (w : World) (vi vg vo : Value) (vp : Value) (t : Tsk) (p : List Int) (h : TaskAt w vi vg vo t) (hp : Ints w vp p) :
    Calls Try.prog 10 #[.agg #[.int .i64 t.n, vi, vg, vo], vp] w fun e w' => e = .returned (.bool true) ∧ Keeps (fun _ => False) w w' := by
  obtain ⟨ai, ci, h1, _⟩ := h.init.form
  obtain ⟨ag, cg, h2, _⟩ := h.goal.form
  obtain ⟨ao, co, h3, hmo⟩ := h.ops.form
  subst h1 h2 h3
  have HB := Lib.hid (Four.new w (.int .i64 t.n) (.slice ai t.init.length ci) (.slice ag t.goal.length cg) (.slice ao t.ops.length co) 25)
  have K1 := (Keeps.refl (fun _ => False) w).alloc (.cells #[.int .i64 t.n, .slice ai t.init.length ci, .slice ag t.goal.length cg, .slice ao t.ops.length co] 25)
  have HT := Lib.hid (h.keeps0 K1); have HK := Lib.hid K1
  obtain ⟨ap, cp, h5, hpl⟩ := hp.form
  subst h5
  have HP := Lib.hid (show Ints _ (.slice ap p.length cp) p from hp.keeps0 K1)
  clear h K1 hp
  go_enter Try.func10, Try.ntmps10
  go_upto_region 1 with fail
  generalize (w.alloc (.cells #[.int .i64 t.n, .slice ai t.init.length ci, .slice ag t.goal.length cg, .slice ao t.ops.length co] 25)) = w1 at HB HT HK HP ⊢
  generalize w.heap.size = bt at HB ⊢
  go_wp2_with fail
  refine (spaceExample_any _).mono ?_; rintro e w2 ⟨rfl, hk⟩
  have HB1 := Lib.hid (HB.out.keeps0 hk); have HT1 := Lib.hid (HT.out.keeps0 hk); have HK1 := Lib.hid (HK.out.trans hk); have HP1 := Lib.hid (show Ints _ (.slice ap p.length cp) p from HP.out.keeps0 hk)
  clear HB HT HK HP
  clear hk
  have hbxd := HB1.out.lt
  obtain ⟨d0, d1, d2, d3⟩ := HB1.out
  go_wp2_with fail
  refine (optimal_any _ _ _ _ t HT1.out).mono ?_; rintro e y1 ⟨hk, hr⟩
  rcases hr with ⟨c, i, hc, he, rfl⟩ | ⟨hok, l, ws, D, hx, hperm, _, hd, rfl⟩
  ·
    have hcb : (c != 0) = true := by simpa using hc
    clear hc he
    clear hbxd d0 d1 d2 d3
    simp only [fltV]
    have KA := (Keeps.refl (fun _ => False) y1).alloc (.cells #[.int .i64 c, .int .i64 i] 30)
    have KB := hk.trans KA
    have HB2 := Lib.hid (HB1.out.keeps0 KB); have HT2 := Lib.hid (HT1.out.keeps0 KB); have HK2 := Lib.hid (HK1.out.trans KB); have HP2 := Lib.hid (show Ints _ (.slice ap p.length cp) p from HP1.out.keeps0 KB)
    clear HB1 HT1 HK1 HP1
    have F1 := Lib.hid (heap_alloc_new y1 (.cells #[.int .i64 c, .int .i64 i] 30))
    clear hk KA KB
    go_upto_region 4 with fail
    generalize y1.alloc (.cells #[.int .i64 c, .int .i64 i] 30) = z1 at HB2 HT2 HK2 HP2 F1 ⊢
    generalize y1.heap.size = b1 at F1 ⊢
    have hbxd := HB2.out.lt
    obtain ⟨d0, d1, d2, d3⟩ := HB2.out
    go_wp2_with fail
    refine (solves_weak HT2.out HP2.out).mono ?_; rintro e y2 ⟨b2, f2, g2, rfl, hk⟩
    clear hbxd d0 d1 d2 d3
    simp only [fltV]
    have KA := (Keeps.refl (fun _ => False) y2).alloc (.cells #[.int .i64 f2, .int .i64 g2] 30)
    have KB := hk.trans KA
    have HB3 := Lib.hid (HB2.out.keeps0 KB); have HT3 := Lib.hid (HT2.out.keeps0 KB); have HK3 := Lib.hid (HK2.out.trans KB); have HP3 := Lib.hid (show Ints _ (.slice ap p.length cp) p from HP2.out.keeps0 KB); have F11 := Lib.hid (KB.heap F1.out (fun h => h))
    clear HB2 HT2 HK2 HP2 F1
    have F2 := Lib.hid (heap_alloc_new y2 (.cells #[.int .i64 f2, .int .i64 g2] 30))
    clear hk KA KB
    go_upto_region 5 with fail
    generalize y2.alloc (.cells #[.int .i64 f2, .int .i64 g2] 30) = z2 at HB3 HT3 HK3 HP3 F11 F2 ⊢
    generalize y2.heap.size = b2 at F2 ⊢
    have hbxd := HB3.out.lt
    obtain ⟨d0, d1, d2, d3⟩ := HB3.out
    go_wp2_with fail
    refine (cost_weak HT3.out HP3.out).mono ?_; rintro e y3 ⟨n3, f3, g3, rfl, hk⟩
    clear hbxd d0 d1 d2 d3
    simp only [fltV]
    have KA := (Keeps.refl (fun _ => False) y3).alloc (.cells #[.int .i64 f3, .int .i64 g3] 30)
    have KB := hk.trans KA
    have HB4 := Lib.hid (HB3.out.keeps0 KB); have HT4 := Lib.hid (HT3.out.keeps0 KB); have HK4 := Lib.hid (HK3.out.trans KB); have HP4 := Lib.hid (show Ints _ (.slice ap p.length cp) p from HP3.out.keeps0 KB); have F12 := Lib.hid (KB.heap F11.out (fun h => h)); have F21 := Lib.hid (KB.heap F2.out (fun h => h))
    clear HB3 HT3 HK3 HP3 F11 F2
    have F3 := Lib.hid (heap_alloc_new y3 (.cells #[.int .i64 f3, .int .i64 g3] 30))
    clear hk KA KB
    go_upto_region 6 with fail
    generalize y3.alloc (.cells #[.int .i64 f3, .int .i64 g3] 30) = z3 at HB4 HT4 HK4 HP4 F12 F21 F3 ⊢
    generalize y3.heap.size = b3 at F3 ⊢
    obtain ⟨p1, q1, r1, s1, l1⟩ := pair_cells F12.out
    clear r1 s1
    obtain ⟨p2, q2, r2, s2, l2⟩ := pair_cells F21.out
    clear r2 s2
    obtain ⟨p3, q3, r3, s3, l3⟩ := pair_cells F3.out
    clear r3 s3
    go_wp2_with fail
    go_ret
    exact ⟨rfl, HK4.out⟩
  ·
    have OK := Lib.hid hok; have HX := Lib.hid hx; have PM := Lib.hid hperm; have HD := Lib.hid hd
    clear hok hx hperm hd
    clear hbxd d0 d1 d2 d3
    simp only [fltV]
    have KA := (Keeps.refl (fun _ => False) y1).alloc (.cells #[.int .i64 0, .int .i64 0] 30)
    have KB := hk.trans KA
    have HB2 := Lib.hid (HB1.out.keeps0 KB); have HT2 := Lib.hid (HT1.out.keeps0 KB); have HK2 := Lib.hid (HK1.out.trans KB); have HP2 := Lib.hid (show Ints _ (.slice ap p.length cp) p from HP1.out.keeps0 KB)
    clear HB1 HT1 HK1 HP1
    have F1 := Lib.hid (heap_alloc_new y1 (.cells #[.int .i64 0, .int .i64 0] 30))
    clear hk KA KB
    go_upto_region 4 with fail
    generalize y1.alloc (.cells #[.int .i64 0, .int .i64 0] 30) = z1 at HB2 HT2 HK2 HP2 F1 ⊢
    generalize y1.heap.size = b1 at F1 ⊢
    rcases planF_cases t p with ⟨c, i, hc, he⟩ | ⟨he, _, q, rfl, hl, hin⟩
    ·
      have HC := Lib.hid hc; have HE := Lib.hid he
      have hcb : (c != 0) = true := by simpa using hc
      clear hc he
      have hbxd := HB2.out.lt
      obtain ⟨d0, d1, d2, d3⟩ := HB2.out
      go_wp2_with fail
      refine (solves_bad _ _ _ _ _ t p HT2.out HP2.out HC.out HE.out).mono ?_; rintro e y2 ⟨rfl, hk⟩
      clear hbxd d0 d1 d2 d3
      simp only [fltV]
      have KA := (Keeps.refl (fun _ => False) y2).alloc (.cells #[.int .i64 c, .int .i64 i] 30)
      have KB := hk.trans KA
      have HB3 := Lib.hid (HB2.out.keeps0 KB); have HT3 := Lib.hid (HT2.out.keeps0 KB); have HK3 := Lib.hid (HK2.out.trans KB); have HP3 := Lib.hid (show Ints _ (.slice ap p.length cp) p from HP2.out.keeps0 KB); have F11 := Lib.hid (KB.heap F1.out (fun h => h))
      clear HB2 HT2 HK2 HP2 F1
      have F2 := Lib.hid (heap_alloc_new y2 (.cells #[.int .i64 c, .int .i64 i] 30))
      clear hk KA KB
      go_upto_region 5 with fail
      generalize y2.alloc (.cells #[.int .i64 c, .int .i64 i] 30) = z2 at HB3 HT3 HK3 HP3 F11 F2 ⊢
      generalize y2.heap.size = b2 at F2 ⊢
      have hbxd := HB3.out.lt
      obtain ⟨d0, d1, d2, d3⟩ := HB3.out
      go_wp2_with fail
      refine (cost_bad _ _ _ _ _ t p HT3.out HP3.out HC.out HE.out).mono ?_; rintro e y3 ⟨rfl, hk⟩
      clear hbxd d0 d1 d2 d3
      simp only [fltV]
      have KA := (Keeps.refl (fun _ => False) y3).alloc (.cells #[.int .i64 c, .int .i64 i] 30)
      have KB := hk.trans KA
      have HB4 := Lib.hid (HB3.out.keeps0 KB); have HT4 := Lib.hid (HT3.out.keeps0 KB); have HK4 := Lib.hid (HK3.out.trans KB); have HP4 := Lib.hid (show Ints _ (.slice ap p.length cp) p from HP3.out.keeps0 KB); have F12 := Lib.hid (KB.heap F11.out (fun h => h)); have F21 := Lib.hid (KB.heap F2.out (fun h => h))
      clear HB3 HT3 HK3 HP3 F11 F2
      have F3 := Lib.hid (heap_alloc_new y3 (.cells #[.int .i64 c, .int .i64 i] 30))
      clear hk KA KB
      go_upto_region 6 with fail
      generalize y3.alloc (.cells #[.int .i64 c, .int .i64 i] 30) = z3 at HB4 HT4 HK4 HP4 F12 F21 F3 ⊢
      generalize y3.heap.size = b3 at F3 ⊢
      obtain ⟨p1, q1, r1, s1, l1⟩ := pair_cells F12.out
      clear r1 s1
      obtain ⟨p2, q2, r2, s2, l2⟩ := pair_cells F21.out
      clear r2 s2
      obtain ⟨p3, q3, r3, s3, l3⟩ := pair_cells F3.out
      clear r3 s3
      go_wp2_with fail
      go_ret
      exact ⟨rfl, HK4.out⟩
    ·
      have HE := Lib.hid he; have HIN := Lib.hid hin
      clear he hin
      have hbxd := HB2.out.lt
      obtain ⟨d0, d1, d2, d3⟩ := HB2.out
      go_wp2_with fail
      refine (solves_good _ _ _ _ _ t q HT2.out OK.out HP2.out hl HIN.out HE.out).mono ?_; rintro e y2 ⟨rfl, hk⟩
      clear hbxd d0 d1 d2 d3
      simp only [fltV]
      have KA := (Keeps.refl (fun _ => False) y2).alloc (.cells #[.int .i64 0, .int .i64 0] 30)
      have KB := hk.trans KA
      have HB3 := Lib.hid (HB2.out.keeps0 KB); have HT3 := Lib.hid (HT2.out.keeps0 KB); have HK3 := Lib.hid (HK2.out.trans KB); have HP3 := Lib.hid (show Ints _ (.slice ap (intsP q).length cp) (intsP q) from HP2.out.keeps0 KB); have F11 := Lib.hid (KB.heap F1.out (fun h => h))
      clear HB2 HT2 HK2 HP2 F1
      have F2 := Lib.hid (heap_alloc_new y2 (.cells #[.int .i64 0, .int .i64 0] 30))
      clear hk KA KB
      go_upto_region 5 with fail
      generalize y2.alloc (.cells #[.int .i64 0, .int .i64 0] 30) = z2 at HB3 HT3 HK3 HP3 F11 F2 ⊢
      generalize y2.heap.size = b2 at F2 ⊢
      have hbxd := HB3.out.lt
      obtain ⟨d0, d1, d2, d3⟩ := HB3.out
      go_wp2_with fail
      refine (cost_good _ _ _ _ _ t q HT3.out OK.out HP3.out hl HIN.out HE.out).mono ?_; rintro e y3 ⟨rfl, hk⟩
      clear hbxd d0 d1 d2 d3
      simp only [fltV]
      have KA := (Keeps.refl (fun _ => False) y3).alloc (.cells #[.int .i64 0, .int .i64 0] 30)
      have KB := hk.trans KA
      have HB4 := Lib.hid (HB3.out.keeps0 KB); have HT4 := Lib.hid (HT3.out.keeps0 KB); have HK4 := Lib.hid (HK3.out.trans KB); have HP4 := Lib.hid (show Ints _ (.slice ap (intsP q).length cp) (intsP q) from HP3.out.keeps0 KB); have F12 := Lib.hid (KB.heap F11.out (fun h => h)); have F21 := Lib.hid (KB.heap F2.out (fun h => h))
      clear HB3 HT3 HK3 HP3 F11 F2
      have F3 := Lib.hid (heap_alloc_new y3 (.cells #[.int .i64 0, .int .i64 0] 30))
      clear hk KA KB
      go_upto_region 6 with fail
      generalize y3.alloc (.cells #[.int .i64 0, .int .i64 0] 30) = z3 at HB4 HT4 HK4 HP4 F12 F21 F3 ⊢
      generalize y3.heap.size = b3 at F3 ⊢
      obtain ⟨p1, q1, r1, s1, l1⟩ := pair_cells F12.out
      clear r1 s1
      obtain ⟨p2, q2, r2, s2, l2⟩ := pair_cells F21.out
      clear r2 s2
      obtain ⟨p3, q3, r3, s3, l3⟩ := pair_cells F3.out
      clear r3 s3
      cases hs : solvesB t q with
      | false =>
        clear hs
        go_wp2_with fail
        go_ret
        exact ⟨rfl, HK4.out⟩
      | true =>
        obtain ⟨hle, h0, _⟩ := least_plain OK.out HX.out PM.out HD.out hl hs
        clear hs
        generalize D (wd t.init) = dd at hle h0 ⊢
        generalize costN (wordsOf t.ops) q = cc at hle ⊢
        go_wp2_with fail
        go_ret
        exact ⟨rfl, HK4.out⟩

end Go.Proofs.Ytdonadeodioplaa

namespace Go.Proofs.Ytdonadeodioplaa
open Go.RowKit

theorem plan_cases {w : World} {vi vg vo : Value} {t : Tsk} (h : TaskAt w vi vg vo t) :
    Calls Try.prog 41 #[.agg #[.int .i64 t.n, vi, vg, vo]] w fun e w' => Keeps (fun _ => False) w w' ∧
      ((∃ c i, c ≠ 0 ∧ expF t = (c, i) ∧ e = .returned (.tuple #[.slice none 0 0, .bool false, fltV c i])) ∨
       (t.Ok ∧ ∃ l, explored t = some l ∧ WayPost (wordsOf t.ops) (wd t.init) (goalB (wd t.goal)) w e w')) := by
  refine (plan_any w vi vg vo t h).mono ?_
  rintro e w' ⟨hk, ⟨hc, rfl⟩ | ⟨ok, hx, rfl⟩ | ⟨ok, l, hx, hp⟩⟩
  · exact ⟨hk, .inl ⟨_, _, hc, by unfold expF; rw [if_neg hc], rfl⟩⟩
  · exact ⟨hk, .inl ⟨10, -7, by decide, by unfold expF; rw [if_pos (taskFault_zero.2 ok), hx], rfl⟩⟩
  · exact ⟨hk, .inr ⟨ok, l, hx, hp⟩⟩
theorem ints_nil (w : World) : Ints w (.slice none 0 0) [] := ⟨none, 0, rfl, by simp, fun h => by simp at h⟩
theorem short_none {t : Tsk} (hb : Best (wordsOf t.ops) (wd t.init) (goalB (wd t.goal)) none) (q : List Nat) : solvesB t q = false := by
  unfold solvesB worksB
  cases hr : runOps (wordsOf t.ops) (wd t.init) q with
  | none => rfl
  | some y => exact hb q y hr
theorem short_some {t : Tsk} {p : List Nat} (hb : Best (wordsOf t.ops) (wd t.init) (goalB (wd t.goal)) (some p)) {q : List Nat} (hs : solvesB t q = true) : p.length ≤ q.length := by
  unfold solvesB worksB at hs
  cases hr : runOps (wordsOf t.ops) (wd t.init) q with
  | none => rw [hr] at hs; simp at hs
  | some y =>
    rw [hr] at hs
    rcases hb.2 q y hr hs with h | ⟨h, _⟩ <;> omega
theorem short_ok {t : Tsk} {p : List Nat} (hb : Best (wordsOf t.ops) (wd t.init) (goalB (wd t.goal)) (some p)) : solvesB t p = true := by
  obtain ⟨⟨y, hr, hy⟩, _⟩ := hb
  unfold solvesB worksB; rw [hr]; exact hy
theorem runOps_lt_len {ops : List Wop} : ∀ {p : List Nat} {x y : Nat}, runOps ops x p = some y → ∀ j ∈ p, j < ops.length
  | [], _, _, _, j, hj => by cases hj
  | a :: p, x, y, h, j, hj => by
    rw [runOps] at h
    cases ho : ops[a]? with
    | none => rw [ho] at h; cases h
    | some o =>
      rw [ho] at h; simp only at h
      by_cases hc : o.can x = true
      · rw [if_pos hc] at h
        rcases List.mem_cons.1 hj with rfl | hj
        · exact (List.getElem?_eq_some_iff.1 ho).1
        · exact runOps_lt_len h j hj
      · rw [if_neg hc] at h; cases h
theorem planF_ints {t : Tsk} (ok : t.Ok) {q : List Nat} (hl : q.length ≤ 60) (hin : ∀ j ∈ q, j < t.ops.length) : planF t (intsP q) = (0, 0) := by
  unfold planF stepsF
  rw [if_pos (taskFault_zero.2 ok), if_neg (by unfold intsP; rw [List.length_map]; omega), if_pos]
  rw [List.all_eq_true]
  intro z hz
  unfold intsP at hz
  obtain ⟨j, hj, rfl⟩ := List.mem_map.1 hz
  have := hin j hj
  simp; omega
theorem best_in {t : Tsk} {acc : Nat → Bool} {s : Nat} {p : List Nat} (hb : Best (wordsOf t.ops) s acc (some p)) : ∀ j ∈ p, j < t.ops.length := fun j hj => by
  obtain ⟨⟨y, hr, _⟩, _⟩ := hb
  have := runOps_lt_len hr j hj
  unfold wordsOf at this
  rwa [List.length_map] at this

set_option maxRecDepth 100000 in
set_option maxHeartbeats 1000000 in
theorem shortLaw_any (w : World) (vi vg vo : Value) (vp : Value) (t : Tsk) (p : List Int) (h : TaskAt w vi vg vo t) (hp : Ints w vp p) :
    Calls Try.prog 11 #[.agg #[.int .i64 t.n, vi, vg, vo], vp] w fun e w' => e = .returned (.bool true) ∧ Keeps (fun _ => False) w w' := by
  obtain ⟨ai, ci, h1, _⟩ := h.init.form
  obtain ⟨ag, cg, h2, _⟩ := h.goal.form
  obtain ⟨ao, co, h3, hmo⟩ := h.ops.form
  subst h1 h2 h3
  have HB := Lib.hid (Four.new w (.int .i64 t.n) (.slice ai t.init.length ci) (.slice ag t.goal.length cg) (.slice ao t.ops.length co) 25)
  have K1 := (Keeps.refl (fun _ => False) w).alloc (.cells #[.int .i64 t.n, .slice ai t.init.length ci, .slice ag t.goal.length cg, .slice ao t.ops.length co] 25)
  have HT := Lib.hid (h.keeps0 K1); have HK := Lib.hid K1
  obtain ⟨ap, cp, h5, hpl⟩ := hp.form
  subst h5
  have HP := Lib.hid (show Ints _ (.slice ap p.length cp) p from hp.keeps0 K1)
  clear h K1 hp
  go_enter Try.func11, Try.ntmps11
  go_upto_region 1 with fail
  generalize (w.alloc (.cells #[.int .i64 t.n, .slice ai t.init.length ci, .slice ag t.goal.length cg, .slice ao t.ops.length co] 25)) = w1 at HB HT HK HP ⊢
  generalize w.heap.size = bt at HB ⊢
  go_wp2_with fail
  refine (breadthExample_any _).mono ?_; rintro e w2 ⟨rfl, hk⟩
  have HB1 := Lib.hid (HB.out.keeps0 hk); have HT1 := Lib.hid (HT.out.keeps0 hk); have HK1 := Lib.hid (HK.out.trans hk); have HP1 := Lib.hid (show Ints _ (.slice ap p.length cp) p from HP.out.keeps0 hk)
  clear HB HT HK HP
  clear hk
  have hbxd := HB1.out.lt
  obtain ⟨d0, d1, d2, d3⟩ := HB1.out
  go_wp2_with fail
  refine (plan_cases HT1.out).mono ?_; rintro e y1 ⟨hk, hr⟩
  rcases hr with ⟨c, i, hc, he, rfl⟩ | ⟨hok, l, hx, hway⟩
  ·
    have HC := Lib.hid hc; have HE := Lib.hid he
    have hcb : (c != 0) = true := by simpa using hc
    have hcz : (c == 0) = false := by simpa using hc
    clear hc he
    clear hbxd d0 d1 d2 d3
    simp only [fltV]
    have KA := (Keeps.refl (fun _ => False) y1).alloc (.cells #[.int .i64 c, .int .i64 i] 30)
    have KB := hk.trans KA
    have HB2 := Lib.hid (HB1.out.keeps0 KB); have HT2 := Lib.hid (HT1.out.keeps0 KB); have HK2 := Lib.hid (HK1.out.trans KB); have HP2 := Lib.hid (show Ints _ (.slice ap p.length cp) p from HP1.out.keeps0 KB)
    clear HB1 HT1 HK1 HP1
    have F1 := Lib.hid (heap_alloc_new y1 (.cells #[.int .i64 c, .int .i64 i] 30))
    clear hk KA KB
    go_upto_region 4 with fail
    generalize y1.alloc (.cells #[.int .i64 c, .int .i64 i] 30) = z1 at HB2 HT2 HK2 HP2 F1 ⊢
    generalize y1.heap.size = b1 at F1 ⊢
    have hbxd := HB2.out.lt
    obtain ⟨d0, d1, d2, d3⟩ := HB2.out
    go_wp2_with fail
    refine (optimal_bad HT2.out HC.out HE.out).mono ?_; rintro e y2 ⟨rfl, hk⟩
    clear hbxd d0 d1 d2 d3
    simp only [fltV]
    have KA := (Keeps.refl (fun _ => False) y2).alloc (.cells #[.int .i64 c, .int .i64 i] 30)
    have KB := hk.trans KA
    have HB3 := Lib.hid (HB2.out.keeps0 KB); have HT3 := Lib.hid (HT2.out.keeps0 KB); have HK3 := Lib.hid (HK2.out.trans KB); have HP3 := Lib.hid (show Ints _ (.slice ap p.length cp) p from HP2.out.keeps0 KB); have F11 := Lib.hid (KB.heap F1.out (fun h => h))
    clear HB2 HT2 HK2 HP2 F1
    have F2 := Lib.hid (heap_alloc_new y2 (.cells #[.int .i64 c, .int .i64 i] 30))
    clear hk KA KB
    go_upto_region 5 with fail
    generalize y2.alloc (.cells #[.int .i64 c, .int .i64 i] 30) = z2 at HB3 HT3 HK3 HP3 F11 F2 ⊢
    generalize y2.heap.size = b2 at F2 ⊢
    have hbxd := HB3.out.lt
    obtain ⟨d0, d1, d2, d3⟩ := HB3.out
    go_wp2_with fail
    refine (solves_weak HT3.out HP3.out).mono ?_; rintro e y3 ⟨bb, f3, g3, rfl, hk⟩
    clear hbxd d0 d1 d2 d3
    simp only [fltV]
    have KA := (Keeps.refl (fun _ => False) y3).alloc (.cells #[.int .i64 f3, .int .i64 g3] 30)
    have KB := hk.trans KA
    have HB4 := Lib.hid (HB3.out.keeps0 KB); have HT4 := Lib.hid (HT3.out.keeps0 KB); have HK4 := Lib.hid (HK3.out.trans KB); have HP4 := Lib.hid (show Ints _ (.slice ap p.length cp) p from HP3.out.keeps0 KB); have F12 := Lib.hid (KB.heap F11.out (fun h => h)); have F21 := Lib.hid (KB.heap F2.out (fun h => h))
    clear HB3 HT3 HK3 HP3 F11 F2
    have F3 := Lib.hid (heap_alloc_new y3 (.cells #[.int .i64 f3, .int .i64 g3] 30))
    clear hk KA KB
    go_upto_region 6 with fail
    generalize y3.alloc (.cells #[.int .i64 f3, .int .i64 g3] 30) = z3 at HB4 HT4 HK4 HP4 F12 F21 F3 ⊢
    generalize y3.heap.size = b3 at F3 ⊢
    obtain ⟨p1, q1, r1, s1, l1⟩ := pair_cells F12.out
    clear r1 s1
    obtain ⟨p2, q2, r2, s2, l2⟩ := pair_cells F21.out
    clear r2 s2
    obtain ⟨p3, q3, r3, s3, l3⟩ := pair_cells F3.out
    clear r3 s3
    have hcc : (c == c) = true := by simp
    have hii : (i == i) = true := by simp
    by_cases h10 : c = 10
    · have h10b : (c == 10) = true := by simpa using h10
      clear h10
      go_wp2_with fail
      go_ret
      exact ⟨by simp, HK4.out⟩
    · have h10b : (c == 10) = false := by simpa using h10
      clear h10
      go_wp2_with fail
      go_ret
      exact ⟨by simp, HK4.out⟩
  ·
    have OK := Lib.hid hok; have HX := Lib.hid hx
    clear hok hx
    unfold WayPost at hway
    rcases hway with ⟨hb, rfl⟩ | ⟨pp, hb, ⟨h60, rfl⟩ | ⟨h60, v, rfl, hown⟩⟩
    ·
      have HBST := Lib.hid hb
      clear hb
      clear hbxd d0 d1 d2 d3
      simp only [fltV]
      have KA := (Keeps.refl (fun _ => False) y1).alloc (.cells #[.int .i64 0, .int .i64 0] 30)
      have KB := hk.trans KA
      have HB2 := Lib.hid (HB1.out.keeps0 KB); have HT2 := Lib.hid (HT1.out.keeps0 KB); have HK2 := Lib.hid (HK1.out.trans KB); have HP2 := Lib.hid (show Ints _ (.slice ap p.length cp) p from HP1.out.keeps0 KB)
      clear HB1 HT1 HK1 HP1
      have F1 := Lib.hid (heap_alloc_new y1 (.cells #[.int .i64 0, .int .i64 0] 30))
      clear hk KA KB
      go_upto_region 4 with fail
      generalize y1.alloc (.cells #[.int .i64 0, .int .i64 0] 30) = z1 at HB2 HT2 HK2 HP2 F1 ⊢
      generalize y1.heap.size = b1 at F1 ⊢
      have hbxd := HB2.out.lt
      obtain ⟨d0, d1, d2, d3⟩ := HB2.out
      go_wp2_with fail
      refine (optimal_any _ _ _ _ t HT2.out).mono ?_; rintro e y2 ⟨hk, hr⟩
      rcases hr with ⟨c', i', hc, he, rfl⟩ | ⟨_, l', ws, D, hx', hperm, _, hd, rfl⟩
      · exact (exp_none hc he OK.out HX.out).elim
      rw [HX.out] at hx'; cases hx'
      have PM := Lib.hid hperm; have HD := Lib.hid hd
      clear hperm hd
      clear hbxd d0 d1 d2 d3
      simp only [fltV]
      have KA := (Keeps.refl (fun _ => False) y2).alloc (.cells #[.int .i64 0, .int .i64 0] 30)
      have KB := hk.trans KA
      have HB3 := Lib.hid (HB2.out.keeps0 KB); have HT3 := Lib.hid (HT2.out.keeps0 KB); have HK3 := Lib.hid (HK2.out.trans KB); have HP3 := Lib.hid (show Ints _ (.slice ap p.length cp) p from HP2.out.keeps0 KB); have F11 := Lib.hid (KB.heap F1.out (fun h => h))
      clear HB2 HT2 HK2 HP2 F1
      have F2 := Lib.hid (heap_alloc_new y2 (.cells #[.int .i64 0, .int .i64 0] 30))
      clear hk KA KB
      go_upto_region 5 with fail
      generalize y2.alloc (.cells #[.int .i64 0, .int .i64 0] 30) = z2 at HB3 HT3 HK3 HP3 F11 F2 ⊢
      generalize y2.heap.size = b2 at F2 ⊢
      have hdd : D (wd t.init) = 1000000000 := opt_none HD.out (costs_need OK.out HX.out PM.out).2.2.2.2.2.2.2 HBST.out
      rw [hdd]
      clear hdd HD PM
      rcases planF_cases t p with ⟨c, i, hc, he⟩ | ⟨he, _, q, rfl, hl, hin⟩
      ·
        have HC := Lib.hid hc; have HE := Lib.hid he
        have hcz : (c == 0) = false := by simpa using hc
        clear hc he
        have hbxd := HB3.out.lt
        obtain ⟨d0, d1, d2, d3⟩ := HB3.out
        go_wp2_with fail
        refine (solves_bad _ _ _ _ _ t p HT3.out HP3.out HC.out HE.out).mono ?_; rintro e y3 ⟨rfl, hk⟩
        clear hbxd d0 d1 d2 d3
        simp only [fltV]
        have KA := (Keeps.refl (fun _ => False) y3).alloc (.cells #[.int .i64 c, .int .i64 i] 30)
        have KB := hk.trans KA
        have HB4 := Lib.hid (HB3.out.keeps0 KB); have HT4 := Lib.hid (HT3.out.keeps0 KB); have HK4 := Lib.hid (HK3.out.trans KB); have HP4 := Lib.hid (show Ints _ (.slice ap p.length cp) p from HP3.out.keeps0 KB); have F12 := Lib.hid (KB.heap F11.out (fun h => h)); have F21 := Lib.hid (KB.heap F2.out (fun h => h))
        clear HB3 HT3 HK3 HP3 F11 F2
        have F3 := Lib.hid (heap_alloc_new y3 (.cells #[.int .i64 c, .int .i64 i] 30))
        clear hk KA KB
        go_upto_region 6 with fail
        generalize y3.alloc (.cells #[.int .i64 c, .int .i64 i] 30) = z3 at HB4 HT4 HK4 HP4 F12 F21 F3 ⊢
        generalize y3.heap.size = b3 at F3 ⊢
        obtain ⟨p1, q1, r1, s1, l1⟩ := pair_cells F12.out
        clear r1 s1
        obtain ⟨p2, q2, r2, s2, l2⟩ := pair_cells F21.out
        clear r2 s2
        obtain ⟨p3, q3, r3, s3, l3⟩ := pair_cells F3.out
        clear r3 s3
        have hbxd := HB4.out.lt
        obtain ⟨d0, d1, d2, d3⟩ := HB4.out
        go_wp2_with fail
        refine (solves_weak HT4.out (ints_nil _)).mono ?_; rintro e y4 ⟨bb, f4, g4, rfl, hk⟩
        clear hbxd d0 d1 d2 d3
        simp only [fltV]
        have KA := (Keeps.refl (fun _ => False) y4).alloc (.cells #[.int .i64 f4, .int .i64 g4] 30)
        have KB := hk.trans KA
        have HB5 := Lib.hid (HB4.out.keeps0 KB); have HT5 := Lib.hid (HT4.out.keeps0 KB); have HK5 := Lib.hid (HK4.out.trans KB); have HP5 := Lib.hid (show Ints _ (.slice ap p.length cp) p from HP4.out.keeps0 KB); have F13 := Lib.hid (KB.heap F12.out (fun h => h)); have F22 := Lib.hid (KB.heap F21.out (fun h => h)); have F31 := Lib.hid (KB.heap F3.out (fun h => h))
        clear HB4 HT4 HK4 HP4 F12 F21 F3
        have F4 := Lib.hid (heap_alloc_new y4 (.cells #[.int .i64 f4, .int .i64 g4] 30))
        clear hk KA KB
        go_upto_region 11 with fail
        generalize y4.alloc (.cells #[.int .i64 f4, .int .i64 g4] 30) = z4 at HB5 HT5 HK5 HP5 F13 F22 F31 F4 ⊢
        generalize y4.heap.size = b4 at F4 ⊢
        obtain ⟨p4, q4, r4, s4, l4⟩ := pair_cells F4.out
        clear r4 s4
        go_wp2_with fail
        go_ret
        exact ⟨rfl, HK5.out⟩
      ·
        have HE := Lib.hid he; have HIN := Lib.hid hin
        clear he hin
        have hbxd := HB3.out.lt
        obtain ⟨d0, d1, d2, d3⟩ := HB3.out
        go_wp2_with fail
        refine (solves_good _ _ _ _ _ t q HT3.out OK.out HP3.out hl HIN.out HE.out).mono ?_; rintro e y3 ⟨rfl, hk⟩
        rw [short_none HBST.out q]
        clear hbxd d0 d1 d2 d3
        simp only [fltV]
        have KA := (Keeps.refl (fun _ => False) y3).alloc (.cells #[.int .i64 0, .int .i64 0] 30)
        have KB := hk.trans KA
        have HB4 := Lib.hid (HB3.out.keeps0 KB); have HT4 := Lib.hid (HT3.out.keeps0 KB); have HK4 := Lib.hid (HK3.out.trans KB); have HP4 := Lib.hid (show Ints _ (.slice ap (intsP q).length cp) (intsP q) from HP3.out.keeps0 KB); have F12 := Lib.hid (KB.heap F11.out (fun h => h)); have F21 := Lib.hid (KB.heap F2.out (fun h => h))
        clear HB3 HT3 HK3 HP3 F11 F2
        have F3 := Lib.hid (heap_alloc_new y3 (.cells #[.int .i64 0, .int .i64 0] 30))
        clear hk KA KB
        go_upto_region 6 with fail
        generalize y3.alloc (.cells #[.int .i64 0, .int .i64 0] 30) = z3 at HB4 HT4 HK4 HP4 F12 F21 F3 ⊢
        generalize y3.heap.size = b3 at F3 ⊢
        obtain ⟨p1, q1, r1, s1, l1⟩ := pair_cells F12.out
        clear r1 s1
        obtain ⟨p2, q2, r2, s2, l2⟩ := pair_cells F21.out
        clear r2 s2
        obtain ⟨p3, q3, r3, s3, l3⟩ := pair_cells F3.out
        clear r3 s3
        have hbxd := HB4.out.lt
        obtain ⟨d0, d1, d2, d3⟩ := HB4.out
        go_wp2_with fail
        refine (solves_weak HT4.out (ints_nil _)).mono ?_; rintro e y4 ⟨bb, f4, g4, rfl, hk⟩
        clear hbxd d0 d1 d2 d3
        simp only [fltV]
        have KA := (Keeps.refl (fun _ => False) y4).alloc (.cells #[.int .i64 f4, .int .i64 g4] 30)
        have KB := hk.trans KA
        have HB5 := Lib.hid (HB4.out.keeps0 KB); have HT5 := Lib.hid (HT4.out.keeps0 KB); have HK5 := Lib.hid (HK4.out.trans KB); have HP5 := Lib.hid (show Ints _ (.slice ap (intsP q).length cp) (intsP q) from HP4.out.keeps0 KB); have F13 := Lib.hid (KB.heap F12.out (fun h => h)); have F22 := Lib.hid (KB.heap F21.out (fun h => h)); have F31 := Lib.hid (KB.heap F3.out (fun h => h))
        clear HB4 HT4 HK4 HP4 F12 F21 F3
        have F4 := Lib.hid (heap_alloc_new y4 (.cells #[.int .i64 f4, .int .i64 g4] 30))
        clear hk KA KB
        go_upto_region 11 with fail
        generalize y4.alloc (.cells #[.int .i64 f4, .int .i64 g4] 30) = z4 at HB5 HT5 HK5 HP5 F13 F22 F31 F4 ⊢
        generalize y4.heap.size = b4 at F4 ⊢
        obtain ⟨p4, q4, r4, s4, l4⟩ := pair_cells F4.out
        clear r4 s4
        go_wp2_with fail
        go_ret
        exact ⟨rfl, HK5.out⟩
    ·
      clear hb
      clear hbxd d0 d1 d2 d3
      simp only [fltV]
      have KA := (Keeps.refl (fun _ => False) y1).alloc (.cells #[.int .i64 10, .int .i64 (-9)] 30)
      have KB := hk.trans KA
      have HB2 := Lib.hid (HB1.out.keeps0 KB); have HT2 := Lib.hid (HT1.out.keeps0 KB); have HK2 := Lib.hid (HK1.out.trans KB); have HP2 := Lib.hid (show Ints _ (.slice ap p.length cp) p from HP1.out.keeps0 KB)
      clear HB1 HT1 HK1 HP1
      have F1 := Lib.hid (heap_alloc_new y1 (.cells #[.int .i64 10, .int .i64 (-9)] 30))
      clear hk KA KB
      go_upto_region 4 with fail
      generalize y1.alloc (.cells #[.int .i64 10, .int .i64 (-9)] 30) = z1 at HB2 HT2 HK2 HP2 F1 ⊢
      generalize y1.heap.size = b1 at F1 ⊢
      have hbxd := HB2.out.lt
      obtain ⟨d0, d1, d2, d3⟩ := HB2.out
      go_wp2_with fail
      refine (optimal_any _ _ _ _ t HT2.out).mono ?_; rintro e y2 ⟨hk, hr⟩
      rcases hr with ⟨c', i', hc, he, rfl⟩ | ⟨_, l', ws, D, hx', hperm, _, hd, rfl⟩
      · exact (exp_none hc he OK.out HX.out).elim
      rw [HX.out] at hx'; cases hx'
      have PM := Lib.hid hperm; have HD := Lib.hid hd
      clear hperm hd
      clear hbxd d0 d1 d2 d3
      simp only [fltV]
      have KA := (Keeps.refl (fun _ => False) y2).alloc (.cells #[.int .i64 0, .int .i64 0] 30)
      have KB := hk.trans KA
      have HB3 := Lib.hid (HB2.out.keeps0 KB); have HT3 := Lib.hid (HT2.out.keeps0 KB); have HK3 := Lib.hid (HK2.out.trans KB); have HP3 := Lib.hid (show Ints _ (.slice ap p.length cp) p from HP2.out.keeps0 KB); have F11 := Lib.hid (KB.heap F1.out (fun h => h))
      clear HB2 HT2 HK2 HP2 F1
      have F2 := Lib.hid (heap_alloc_new y2 (.cells #[.int .i64 0, .int .i64 0] 30))
      clear hk KA KB
      go_upto_region 5 with fail
      generalize y2.alloc (.cells #[.int .i64 0, .int .i64 0] 30) = z2 at HB3 HT3 HK3 HP3 F11 F2 ⊢
      generalize y2.heap.size = b2 at F2 ⊢
      have hbxd := HB3.out.lt
      obtain ⟨d0, d1, d2, d3⟩ := HB3.out
      go_wp2_with fail
      refine (solves_weak HT3.out HP3.out).mono ?_; rintro e y3 ⟨bb, f3, g3, rfl, hk⟩
      clear hbxd d0 d1 d2 d3
      simp only [fltV]
      have KA := (Keeps.refl (fun _ => False) y3).alloc (.cells #[.int .i64 f3, .int .i64 g3] 30)
      have KB := hk.trans KA
      have HB4 := Lib.hid (HB3.out.keeps0 KB); have HT4 := Lib.hid (HT3.out.keeps0 KB); have HK4 := Lib.hid (HK3.out.trans KB); have HP4 := Lib.hid (show Ints _ (.slice ap p.length cp) p from HP3.out.keeps0 KB); have F12 := Lib.hid (KB.heap F11.out (fun h => h)); have F21 := Lib.hid (KB.heap F2.out (fun h => h))
      clear HB3 HT3 HK3 HP3 F11 F2
      have F3 := Lib.hid (heap_alloc_new y3 (.cells #[.int .i64 f3, .int .i64 g3] 30))
      clear hk KA KB
      go_upto_region 6 with fail
      generalize y3.alloc (.cells #[.int .i64 f3, .int .i64 g3] 30) = z3 at HB4 HT4 HK4 HP4 F12 F21 F3 ⊢
      generalize y3.heap.size = b3 at F3 ⊢
      obtain ⟨p1, q1, r1, s1, l1⟩ := pair_cells F12.out
      clear r1 s1
      obtain ⟨p2, q2, r2, s2, l2⟩ := pair_cells F21.out
      clear r2 s2
      obtain ⟨p3, q3, r3, s3, l3⟩ := pair_cells F3.out
      clear r3 s3
      go_wp2_with fail
      go_ret
      exact ⟨rfl, HK4.out⟩
    ·
      have HBST := Lib.hid hb
      obtain ⟨a1, c1, hv⟩ := ownsRow_form1 hown
      have hpn : (intsP pp).length = pp.length := by unfold intsP; rw [List.length_map]
      have HV0 := Lib.hid (show Ints y1 v (intsP pp) from Ints.of_own (base := w2.heap.size) (e := 3) (by rw [hpn]; exact hown))
      subst hv
      clear hb hown hpn
      clear hbxd d0 d1 d2 d3
      simp only [fltV]
      have KA := (Keeps.refl (fun _ => False) y1).alloc (.cells #[.int .i64 0, .int .i64 0] 30)
      have KB := hk.trans KA
      have HB2 := Lib.hid (HB1.out.keeps0 KB); have HT2 := Lib.hid (HT1.out.keeps0 KB); have HK2 := Lib.hid (HK1.out.trans KB); have HP2 := Lib.hid (show Ints _ (.slice ap p.length cp) p from HP1.out.keeps0 KB)
      clear HB1 HT1 HK1 HP1
      have F1 := Lib.hid (heap_alloc_new y1 (.cells #[.int .i64 0, .int .i64 0] 30))
      have HV := Lib.hid (show Ints _ (.slice a1 pp.length c1) (intsP pp) from HV0.out.keeps0 KA)
      clear hk KA KB
      go_upto_region 4 with fail
      generalize y1.alloc (.cells #[.int .i64 0, .int .i64 0] 30) = z1 at HB2 HT2 HK2 HP2 F1 HV ⊢
      generalize y1.heap.size = b1 at F1 ⊢
      clear HV0
      have hbxd := HB2.out.lt
      obtain ⟨d0, d1, d2, d3⟩ := HB2.out
      go_wp2_with fail
      refine (optimal_any _ _ _ _ t HT2.out).mono ?_; rintro e y2 ⟨hk, hr⟩
      rcases hr with ⟨c', i', hc, he, rfl⟩ | ⟨_, l', ws, D, hx', hperm, _, hd, rfl⟩
      · exact (exp_none hc he OK.out HX.out).elim
      rw [HX.out] at hx'; cases hx'
      have PM := Lib.hid hperm; have HD := Lib.hid hd
      clear hperm hd
      clear hbxd d0 d1 d2 d3
      simp only [fltV]
      have KA := (Keeps.refl (fun _ => False) y2).alloc (.cells #[.int .i64 0, .int .i64 0] 30)
      have KB := hk.trans KA
      have HB3 := Lib.hid (HB2.out.keeps0 KB); have HT3 := Lib.hid (HT2.out.keeps0 KB); have HK3 := Lib.hid (HK2.out.trans KB); have HP3 := Lib.hid (show Ints _ (.slice ap p.length cp) p from HP2.out.keeps0 KB); have F11 := Lib.hid (KB.heap F1.out (fun h => h)); have HV1 := Lib.hid (show Ints _ (.slice a1 pp.length c1) (intsP pp) from HV.out.keeps0 KB)
      clear HB2 HT2 HK2 HP2 F1 HV
      have F2 := Lib.hid (heap_alloc_new y2 (.cells #[.int .i64 0, .int .i64 0] 30))
      clear hk KA KB
      go_upto_region 5 with fail
      generalize y2.alloc (.cells #[.int .i64 0, .int .i64 0] 30) = z2 at HB3 HT3 HK3 HP3 F11 HV1 F2 ⊢
      generalize y2.heap.size = b2 at F2 ⊢
      obtain ⟨⟨yy, hrun, hgoal⟩, _⟩ := HBST.out
      have hdd : D (wd t.init) < 1000000000 := (opt_le (costs_need OK.out HX.out PM.out).2.2.2.1 HD.out (ops_cost0 OK.out) (costs_need OK.out HX.out PM.out).2.2.2.2.2.2.2 hrun hgoal (by omega)).2
      clear hrun hgoal HD PM
      generalize D (wd t.init) = dd at hdd ⊢
      have hddb : decide (dd < 1000000000) = true := by simpa using hdd
      have HSO := Lib.hid (short_ok HBST.out)
      rcases planF_cases t p with ⟨c, i, hc, he⟩ | ⟨he, _, q, rfl, hl, hin⟩
      ·
        have HC := Lib.hid hc; have HE := Lib.hid he
        have hcz : (c == 0) = false := by simpa using hc
        clear hc he
        have hbxd := HB3.out.lt
        obtain ⟨d0, d1, d2, d3⟩ := HB3.out
        go_wp2_with fail
        refine (solves_bad _ _ _ _ _ t p HT3.out HP3.out HC.out HE.out).mono ?_; rintro e y3 ⟨rfl, hk⟩
        clear hbxd d0 d1 d2 d3
        simp only [fltV]
        have KA := (Keeps.refl (fun _ => False) y3).alloc (.cells #[.int .i64 c, .int .i64 i] 30)
        have KB := hk.trans KA
        have HB4 := Lib.hid (HB3.out.keeps0 KB); have HT4 := Lib.hid (HT3.out.keeps0 KB); have HK4 := Lib.hid (HK3.out.trans KB); have HP4 := Lib.hid (show Ints _ (.slice ap p.length cp) p from HP3.out.keeps0 KB); have F12 := Lib.hid (KB.heap F11.out (fun h => h)); have HV2 := Lib.hid (show Ints _ (.slice a1 pp.length c1) (intsP pp) from HV1.out.keeps0 KB); have F21 := Lib.hid (KB.heap F2.out (fun h => h))
        clear HB3 HT3 HK3 HP3 F11 HV1 F2
        have F3 := Lib.hid (heap_alloc_new y3 (.cells #[.int .i64 c, .int .i64 i] 30))
        clear hk KA KB
        go_upto_region 6 with fail
        generalize y3.alloc (.cells #[.int .i64 c, .int .i64 i] 30) = z3 at HB4 HT4 HK4 HP4 F12 HV2 F21 F3 ⊢
        generalize y3.heap.size = b3 at F3 ⊢
        obtain ⟨p1, q1, r1, s1, l1⟩ := pair_cells F12.out
        clear r1 s1
        obtain ⟨p2, q2, r2, s2, l2⟩ := pair_cells F21.out
        clear r2 s2
        obtain ⟨p3, q3, r3, s3, l3⟩ := pair_cells F3.out
        clear r3 s3
        have hbxd := HB4.out.lt
        obtain ⟨d0, d1, d2, d3⟩ := HB4.out
        go_wp2_with fail
        refine (solves_good _ _ _ _ _ t pp HT4.out OK.out HV2.out h60 (best_in HBST.out) (planF_ints OK.out h60 (best_in HBST.out))).mono ?_; rintro e y4 ⟨rfl, hk⟩
        rw [HSO.out]
        clear hbxd d0 d1 d2 d3
        simp only [fltV]
        have KA := (Keeps.refl (fun _ => False) y4).alloc (.cells #[.int .i64 0, .int .i64 0] 30)
        have KB := hk.trans KA
        have HB5 := Lib.hid (HB4.out.keeps0 KB); have HT5 := Lib.hid (HT4.out.keeps0 KB); have HK5 := Lib.hid (HK4.out.trans KB); have HP5 := Lib.hid (show Ints _ (.slice ap p.length cp) p from HP4.out.keeps0 KB); have F13 := Lib.hid (KB.heap F12.out (fun h => h)); have HV3 := Lib.hid (show Ints _ (.slice a1 pp.length c1) (intsP pp) from HV2.out.keeps0 KB); have F22 := Lib.hid (KB.heap F21.out (fun h => h)); have F31 := Lib.hid (KB.heap F3.out (fun h => h))
        clear HB4 HT4 HK4 HP4 F12 HV2 F21 F3
        have F4 := Lib.hid (heap_alloc_new y4 (.cells #[.int .i64 0, .int .i64 0] 30))
        clear hk KA KB
        go_upto_region 11 with fail
        generalize y4.alloc (.cells #[.int .i64 0, .int .i64 0] 30) = z4 at HB5 HT5 HK5 HP5 F13 HV3 F22 F31 F4 ⊢
        generalize y4.heap.size = b4 at F4 ⊢
        obtain ⟨p4, q4, r4, s4, l4⟩ := pair_cells F4.out
        clear r4 s4
        go_wp2_with fail
        go_ret
        exact ⟨rfl, HK5.out⟩
      ·
        have HE := Lib.hid he; have HIN := Lib.hid hin
        clear he hin
        have hbxd := HB3.out.lt
        obtain ⟨d0, d1, d2, d3⟩ := HB3.out
        go_wp2_with fail
        refine (solves_good _ _ _ _ _ t q HT3.out OK.out HP3.out hl HIN.out HE.out).mono ?_; rintro e y3 ⟨rfl, hk⟩
        clear hbxd d0 d1 d2 d3
        simp only [fltV]
        have KA := (Keeps.refl (fun _ => False) y3).alloc (.cells #[.int .i64 0, .int .i64 0] 30)
        have KB := hk.trans KA
        have HB4 := Lib.hid (HB3.out.keeps0 KB); have HT4 := Lib.hid (HT3.out.keeps0 KB); have HK4 := Lib.hid (HK3.out.trans KB); have HP4 := Lib.hid (show Ints _ (.slice ap (intsP q).length cp) (intsP q) from HP3.out.keeps0 KB); have F12 := Lib.hid (KB.heap F11.out (fun h => h)); have HV2 := Lib.hid (show Ints _ (.slice a1 pp.length c1) (intsP pp) from HV1.out.keeps0 KB); have F21 := Lib.hid (KB.heap F2.out (fun h => h))
        clear HB3 HT3 HK3 HP3 F11 HV1 F2
        have F3 := Lib.hid (heap_alloc_new y3 (.cells #[.int .i64 0, .int .i64 0] 30))
        clear hk KA KB
        go_upto_region 6 with fail
        generalize y3.alloc (.cells #[.int .i64 0, .int .i64 0] 30) = z3 at HB4 HT4 HK4 HP4 F12 HV2 F21 F3 ⊢
        generalize y3.heap.size = b3 at F3 ⊢
        obtain ⟨p1, q1, r1, s1, l1⟩ := pair_cells F12.out
        clear r1 s1
        obtain ⟨p2, q2, r2, s2, l2⟩ := pair_cells F21.out
        clear r2 s2
        obtain ⟨p3, q3, r3, s3, l3⟩ := pair_cells F3.out
        clear r3 s3
        cases hs : solvesB t q with
        | false =>
          clear hs
          have hbxd := HB4.out.lt
          obtain ⟨d0, d1, d2, d3⟩ := HB4.out
          go_wp2_with fail
          refine (solves_good _ _ _ _ _ t pp HT4.out OK.out HV2.out h60 (best_in HBST.out) (planF_ints OK.out h60 (best_in HBST.out))).mono ?_; rintro e y4 ⟨rfl, hk⟩
          rw [HSO.out]
          clear hbxd d0 d1 d2 d3
          simp only [fltV]
          have KA := (Keeps.refl (fun _ => False) y4).alloc (.cells #[.int .i64 0, .int .i64 0] 30)
          have KB := hk.trans KA
          have HB5 := Lib.hid (HB4.out.keeps0 KB); have HT5 := Lib.hid (HT4.out.keeps0 KB); have HK5 := Lib.hid (HK4.out.trans KB); have HP5 := Lib.hid (show Ints _ (.slice ap (intsP q).length cp) (intsP q) from HP4.out.keeps0 KB); have F13 := Lib.hid (KB.heap F12.out (fun h => h)); have HV3 := Lib.hid (show Ints _ (.slice a1 pp.length c1) (intsP pp) from HV2.out.keeps0 KB); have F22 := Lib.hid (KB.heap F21.out (fun h => h)); have F31 := Lib.hid (KB.heap F3.out (fun h => h))
          clear HB4 HT4 HK4 HP4 F12 HV2 F21 F3
          have F4 := Lib.hid (heap_alloc_new y4 (.cells #[.int .i64 0, .int .i64 0] 30))
          clear hk KA KB
          go_upto_region 11 with fail
          generalize y4.alloc (.cells #[.int .i64 0, .int .i64 0] 30) = z4 at HB5 HT5 HK5 HP5 F13 HV3 F22 F31 F4 ⊢
          generalize y4.heap.size = b4 at F4 ⊢
          obtain ⟨p4, q4, r4, s4, l4⟩ := pair_cells F4.out
          clear r4 s4
          go_wp2_with fail
          go_ret
          exact ⟨rfl, HK5.out⟩
        | true =>
          have hle := short_some HBST.out hs
          have hle2 : pp.length ≤ (intsP q).length := by unfold intsP; rw [List.length_map]; exact hle
          clear hs
          have hbxd := HB4.out.lt
          obtain ⟨d0, d1, d2, d3⟩ := HB4.out
          go_wp2_with fail
          refine (solves_good _ _ _ _ _ t pp HT4.out OK.out HV2.out h60 (best_in HBST.out) (planF_ints OK.out h60 (best_in HBST.out))).mono ?_; rintro e y4 ⟨rfl, hk⟩
          rw [HSO.out]
          clear hbxd d0 d1 d2 d3
          simp only [fltV]
          have KA := (Keeps.refl (fun _ => False) y4).alloc (.cells #[.int .i64 0, .int .i64 0] 30)
          have KB := hk.trans KA
          have HB5 := Lib.hid (HB4.out.keeps0 KB); have HT5 := Lib.hid (HT4.out.keeps0 KB); have HK5 := Lib.hid (HK4.out.trans KB); have HP5 := Lib.hid (show Ints _ (.slice ap (intsP q).length cp) (intsP q) from HP4.out.keeps0 KB); have F13 := Lib.hid (KB.heap F12.out (fun h => h)); have HV3 := Lib.hid (show Ints _ (.slice a1 pp.length c1) (intsP pp) from HV2.out.keeps0 KB); have F22 := Lib.hid (KB.heap F21.out (fun h => h)); have F31 := Lib.hid (KB.heap F3.out (fun h => h))
          clear HB4 HT4 HK4 HP4 F12 HV2 F21 F3
          have F4 := Lib.hid (heap_alloc_new y4 (.cells #[.int .i64 0, .int .i64 0] 30))
          clear hk KA KB
          go_upto_region 11 with fail
          generalize y4.alloc (.cells #[.int .i64 0, .int .i64 0] 30) = z4 at HB5 HT5 HK5 HP5 F13 HV3 F22 F31 F4 ⊢
          generalize y4.heap.size = b4 at F4 ⊢
          obtain ⟨p4, q4, r4, s4, l4⟩ := pair_cells F4.out
          clear r4 s4
          go_wp2_with fail
          go_ret
          exact ⟨rfl, HK5.out⟩

end Go.Proofs.Ytdonadeodioplaa

namespace Go.Proofs.Ytdonadeodioplaa
open Go.RowKit

theorem reach_path {ops : List Wop} {s x : Nat} (h : Reach ops s x) : ∃ q, runOps ops s q = some x := by
  induction h with
  | refl => exact ⟨[], rfl⟩
  | step _ hy ih =>
    obtain ⟨q, hq⟩ := ih
    obtain ⟨o, ho, rfl⟩ := List.mem_map.1 hy
    obtain ⟨ho, hc⟩ := List.mem_filter.1 ho
    obtain ⟨k, hk⟩ := List.mem_iff_getElem?.1 ho
    exact ⟨q ++ [k], runOps_snoc' hq hk hc⟩
/-- The tree's entry of a state holds the least of the shortest ways to it, and its depth is that way's length. -/
theorem tree_way {ops : List Wop} {s i x : Nat} (hi : (tree ops s i).length ≤ i) (h : Reach ops s x) : ∃ p, Best ops s (fun y => y == x) (some p) ∧ runOps ops s p = some x ∧ depT (tree ops s i) x = (p.length : Int) := by
  have ok := tree_ok ops s i
  obtain ⟨q, hq⟩ := reach_path h
  obtain ⟨f, hf, hfx, _⟩ := ok.least hi q x hq
  refine ⟨f.path, ⟨⟨x, by rw [← hfx]; exact ok.run f hf, by simp⟩, fun q' y hq' hy => ?_⟩, by rw [← hfx]; exact ok.run f hf, ?_⟩
  · have hyx : y = x := by simpa using hy
    subst hyx
    obtain ⟨g, hg, hgx, hle⟩ := ok.least hi q' y hq'
    obtain ⟨j, hj⟩ := List.mem_iff_getElem?.1 hf
    obtain ⟨k, hk⟩ := List.mem_iff_getElem?.1 hg
    have := ok.inj hj hk (by rw [hfx, hgx])
    subst this
    rw [hj] at hk; cases hk
    exact hle
  · unfold depT
    cases hfi : (tree ops s i).find? (fun e => e.to == x) with
    | none => rw [List.find?_eq_none] at hfi; exact absurd (by simpa using hfx) (hfi f hf)
    | some g =>
      have hg := List.mem_of_find?_eq_some hfi
      have hgx : g.to = x := by simpa using List.find?_some hfi
      obtain ⟨j, hj⟩ := List.mem_iff_getElem?.1 hf
      obtain ⟨k, hk⟩ := List.mem_iff_getElem?.1 hg
      have := ok.inj hj hk (by rw [hfx, hgx])
      subst this
      rw [hj] at hk; cases hk
      rfl

section
variable {w : World} {vi vg vo vs : Value} {t : Tsk}
theorem reach_good (h : TaskAt w vi vg vo t) (ok : t.Ok) {l : List Nat} (hx : explored t = some l) {x : Nat} (hg : Good t.n x) (hs : Ints w vs (facts x)) {p : List Nat} (hb : Best (wordsOf t.ops) (wd t.init) (fun y => y == x) (some p)) :
    Calls Try.prog 37 #[.agg #[.int .i64 t.n, vi, vg, vo], vs] w fun e w' => ((60 < p.length ∧ e = .returned (.tuple #[.slice none 0 0, .bool false, fltV 10 (-9)])) ∨ (p.length ≤ 60 ∧ ∃ v, e = .returned (.tuple #[v, .bool true, fltV 0 0]) ∧ w'.ownsRow w.heap.size 3 1 v p.length ((intsP p).map (Value.int .i64)))) ∧ Keeps (fun _ => False) w w' := by
  refine (reach_any w vi vg vo vs t (facts x) h hs).mono ?_
  rintro e w' ⟨hk, ⟨hc, _⟩ | ⟨_, _, hn, _⟩ | ⟨_, _, l', hx', hway⟩⟩
  · unfold stateFault at hc
    rw [if_pos (taskFault_zero.2 ok), if_pos hg.1] at hc
    exact absurd rfl hc
  · rw [hx] at hn; cases hn
  · rw [hg.2] at hway
    rcases hway with ⟨hn, _⟩ | ⟨p', hb', hr⟩
    · have := Best.unique hb hn; cases this
    · have := Best.unique hb hb'; cases this
      exact ⟨hr, hk⟩
theorem reach_long (h : TaskAt w vi vg vo t) (ok : t.Ok) {l : List Nat} (hx : explored t = some l) {x : Nat} (hg : Good t.n x) (hs : Ints w vs (facts x)) {p : List Nat} (hb : Best (wordsOf t.ops) (wd t.init) (fun y => y == x) (some p)) (hl : 60 < p.length) :
    Calls Try.prog 37 #[.agg #[.int .i64 t.n, vi, vg, vo], vs] w fun e w' => e = .returned (.tuple #[.slice none 0 0, .bool false, fltV 10 (-9)]) ∧ Keeps (fun _ => False) w w' := by
  refine (reach_good h ok hx hg hs hb).mono ?_
  rintro e w' ⟨⟨_, rfl⟩ | ⟨hn, _⟩, hk⟩
  · exact ⟨rfl, hk⟩
  · omega
theorem reach_short (h : TaskAt w vi vg vo t) (ok : t.Ok) {l : List Nat} (hx : explored t = some l) {x : Nat} (hg : Good t.n x) (hs : Ints w vs (facts x)) {p : List Nat} (hb : Best (wordsOf t.ops) (wd t.init) (fun y => y == x) (some p)) (hl : p.length ≤ 60) :
    Calls Try.prog 37 #[.agg #[.int .i64 t.n, vi, vg, vo], vs] w fun e w' => ∃ a c, e = .returned (.tuple #[.slice a p.length c, .bool true, fltV 0 0]) ∧ Ints w' (.slice a p.length c) (intsP p) ∧ Keeps (fun _ => False) w w' := by
  refine (reach_good h ok hx hg hs hb).mono ?_
  rintro e w' ⟨⟨hn, _⟩ | ⟨_, v, rfl, hown⟩, hk⟩
  · omega
  · obtain ⟨a, c, hv⟩ := ownsRow_form1 hown
    subst hv
    have hpn : (intsP p).length = p.length := by unfold intsP; rw [List.length_map]
    exact ⟨a, c, rfl, Ints.of_own (base := w.heap.size) (e := 3) (by rw [hpn]; exact hown), hk⟩
end

set_option maxRecDepth 100000 in
set_option maxHeartbeats 1000000 in
theorem agreeLaw_any (w : World) (vi vg vo : Value) (t : Tsk) (h : TaskAt w vi vg vo t) :
    Calls Try.prog 9 #[.agg #[.int .i64 t.n, vi, vg, vo]] w fun e w' => e = .returned (.bool true) ∧ Keeps (fun _ => False) w w' := by
  obtain ⟨ai, ci, h1, _⟩ := h.init.form
  obtain ⟨ag, cg, h2, _⟩ := h.goal.form
  obtain ⟨ao, co, h3, hmo⟩ := h.ops.form
  subst h1 h2 h3
  have HB := Lib.hid (Four.new w (.int .i64 t.n) (.slice ai t.init.length ci) (.slice ag t.goal.length cg) (.slice ao t.ops.length co) 25)
  have K1 := (Keeps.refl (fun _ => False) w).alloc (.cells #[.int .i64 t.n, .slice ai t.init.length ci, .slice ag t.goal.length cg, .slice ao t.ops.length co] 25)
  have HT := Lib.hid (h.keeps0 K1); have HK := Lib.hid K1
  clear h K1
  go_enter Try.func9, Try.ntmps9
  go_upto_region 1 with fail
  generalize (w.alloc (.cells #[.int .i64 t.n, .slice ai t.init.length ci, .slice ag t.goal.length cg, .slice ao t.ops.length co] 25)) = w1 at HB HT HK ⊢
  generalize w.heap.size = bt at HB ⊢
  go_wp2_with fail
  refine (breadthExample_any _).mono ?_; rintro e w2 ⟨rfl, hk⟩
  have HB1 := Lib.hid (HB.out.keeps0 hk); have HT1 := Lib.hid (HT.out.keeps0 hk); have HK1 := Lib.hid (HK.out.trans hk)
  clear HB HT HK
  clear hk
  rcases exp_cases t with ⟨c, i, hc, he⟩ | ⟨hok, l, hx, he⟩
  ·
    have HC := Lib.hid hc; have HE := Lib.hid he
    have hcb : (c != 0) = true := by simpa using hc
    have hcc : (c == c) = true := by simp
    have hii : (i == i) = true := by simp
    clear hc he
    have hbxd := HB1.out.lt
    obtain ⟨d0, d1, d2, d3⟩ := HB1.out
    go_wp2_with fail
    refine (explore_bad HT1.out HC.out HE.out).mono ?_; rintro e y1 ⟨rfl, hk⟩
    clear hbxd d0 d1 d2 d3
    simp only [fltV]
    have KA := (Keeps.refl (fun _ => False) y1).alloc (.cells #[.int .i64 c, .int .i64 i] 30)
    have KB := hk.trans KA
    have HB2 := Lib.hid (HB1.out.keeps0 KB); have HT2 := Lib.hid (HT1.out.keeps0 KB); have HK2 := Lib.hid (HK1.out.trans KB)
    clear HB1 HT1 HK1
    have F1 := Lib.hid (heap_alloc_new y1 (.cells #[.int .i64 c, .int .i64 i] 30))
    clear hk KA KB
    go_upto_region 4 with fail
    generalize y1.alloc (.cells #[.int .i64 c, .int .i64 i] 30) = z1 at HB2 HT2 HK2 F1 ⊢
    generalize y1.heap.size = b1 at F1 ⊢
    have hbxd := HB2.out.lt
    obtain ⟨d0, d1, d2, d3⟩ := HB2.out
    go_wp2_with fail
    refine (spsteps_bad HT2.out HC.out HE.out).mono ?_; rintro e y2 ⟨rfl, hk⟩
    clear hbxd d0 d1 d2 d3
    simp only [fltV]
    have KA := (Keeps.refl (fun _ => False) y2).alloc (.cells #[.int .i64 c, .int .i64 i] 30)
    have KB := hk.trans KA
    have HB3 := Lib.hid (HB2.out.keeps0 KB); have HT3 := Lib.hid (HT2.out.keeps0 KB); have HK3 := Lib.hid (HK2.out.trans KB); have F11 := Lib.hid (KB.heap F1.out (fun h => h))
    clear HB2 HT2 HK2 F1
    have F2 := Lib.hid (heap_alloc_new y2 (.cells #[.int .i64 c, .int .i64 i] 30))
    clear hk KA KB
    go_upto_region 5 with fail
    generalize y2.alloc (.cells #[.int .i64 c, .int .i64 i] 30) = z2 at HB3 HT3 HK3 F11 F2 ⊢
    generalize y2.heap.size = b2 at F2 ⊢
    obtain ⟨p1, q1, r1, s1, l1⟩ := pair_cells F11.out
    clear r1 s1
    obtain ⟨p2, q2, r2, s2, l2⟩ := pair_cells F2.out
    clear r2 s2
    go_wp2_with fail
    go_ret
    exact ⟨by simp, HK3.out⟩
  ·
    have OK := Lib.hid hok; have HX := Lib.hid hx
    clear hok hx he
    have hbxd := HB1.out.lt
    obtain ⟨d0, d1, d2, d3⟩ := HB1.out
    go_wp2_with fail
    refine (explore_good HT1.out OK.out HX.out).mono ?_; rintro e y1 ⟨ws, v1, hws, rfl, hr, hk⟩
    have WS := Lib.hid hws
    obtain ⟨a1, c1, hv, _⟩ := hr.form
    rw [List.length_map] at hv
    subst hv
    clear hbxd d0 d1 d2 d3
    simp only [fltV]
    have KA := (Keeps.refl (fun _ => False) y1).alloc (.cells #[.int .i64 0, .int .i64 0] 30)
    have KB := hk.trans KA
    have HB2 := Lib.hid (HB1.out.keeps0 KB); have HT2 := Lib.hid (HT1.out.keeps0 KB); have HK2 := Lib.hid (HK1.out.trans KB)
    clear HB1 HT1 HK1
    have F1 := Lib.hid (heap_alloc_new y1 (.cells #[.int .i64 0, .int .i64 0] 30))
    have V1 := Lib.hid (hr.keeps0 KA)
    clear hk KA KB
    go_upto_region 4 with fail
    generalize y1.alloc (.cells #[.int .i64 0, .int .i64 0] 30) = z1 at HB2 HT2 HK2 F1 V1 ⊢
    generalize y1.heap.size = b1 at F1 ⊢
    clear hr hws
    have hbxd := HB2.out.lt
    obtain ⟨d0, d1, d2, d3⟩ := HB2.out
    go_wp2_with fail
    refine (spsteps_good HT2.out OK.out HX.out WS.out).mono ?_; rintro e y2 ⟨v2, j, rfl, hj, hr, hk⟩
    have HJ := Lib.hid hj
    obtain ⟨a2, c2, hv, _⟩ := hr.form
    rw [List.length_map] at hv
    subst hv
    clear hbxd d0 d1 d2 d3
    simp only [fltV]
    have KA := (Keeps.refl (fun _ => False) y2).alloc (.cells #[.int .i64 0, .int .i64 0] 30)
    have KB := hk.trans KA
    have HB3 := Lib.hid (HB2.out.keeps0 KB); have HT3 := Lib.hid (HT2.out.keeps0 KB); have HK3 := Lib.hid (HK2.out.trans KB); have F11 := Lib.hid (KB.heap F1.out (fun h => h)); have V11 := Lib.hid (V1.out.keeps0 KB)
    clear HB2 HT2 HK2 F1 V1
    have F2 := Lib.hid (heap_alloc_new y2 (.cells #[.int .i64 0, .int .i64 0] 30))
    have V2 := Lib.hid (hr.keeps0 KA)
    clear hk KA KB
    go_upto_region 5 with fail
    generalize y2.alloc (.cells #[.int .i64 0, .int .i64 0] 30) = z2 at HB3 HT3 HK3 F11 V11 F2 V2 ⊢
    generalize y2.heap.size = b2 at F2 ⊢
    clear hr hj
    obtain ⟨p1, q1, r1, s1, l1⟩ := pair_cells F11.out
    clear r1 s1
    obtain ⟨p2, q2, r2, s2, l2⟩ := pair_cells F2.out
    clear r2 s2
    have hfew : ws.length ≤ 2000 := (costs_need OK.out HX.out WS.out.1).2.2.2.2.1
    obtain ⟨hgd, _, hrc, _⟩ := WS.out.good OK.out HX.out
    have HGD := Lib.hid hgd; have HRC := Lib.hid hrc
    have HCV := Lib.hid (V11.out.cell rfl)
    have HNV := Lib.hid (V2.out.cell (show Value.slice a2 ws.length c2 = .slice a2 (ws.map (depT (tree (wordsOf t.ops) (wd t.init) j))).length c2 by rw [List.length_map]))
    clear hgd hrc
    go_wp2_with fail
    go_loopw [7] (fun v7 wr => ∃ i : Nat, i ≤ ws.length ∧ v7 = .int .i64 (i : Int) ∧ Keeps (fun _ => False) z2 wr) (fun v7 _ => ws.length - (intOf v7).toNat)
    case atStart => exact ⟨0, Nat.zero_le _, rfl, Keeps.refl _ _⟩
    case round =>
      obtain ⟨i, hi, rfl, hkr⟩ := hrel
      have HKR := Lib.hid hkr
      clear hkr p1 q1 l1 p2 q2 l2
      by_cases hlt : i < ws.length
      · by_cases h40 : i < 40
        · obtain ⟨x, hx⟩ : ∃ x, ws[i]? = some x := ⟨_, List.getElem?_eq_getElem hlt⟩
          have hxw := List.mem_of_getElem? hx
          have HGX := Lib.hid (HGD.out x hxw)
          obtain ⟨pp, hb, hrun, hdep⟩ := tree_way HJ.out ((HRC.out x).1 hxw)
          have HBST := Lib.hid hb; have HRUN := Lib.hid hrun
          obtain ⟨bl, ol, rfl, hx'⟩ := HCV.out (by rw [List.length_map]; omega)
          obtain ⟨uf, hu, hiu⟩ := hx' i (facts x) (by rw [List.getElem?_map, hx]; rfl)
          obtain ⟨af, cf, hfu, _⟩ := hiu.form
          have HIU := Lib.hid hiu
          subst hfu
          have HU := Lib.hid hu
          obtain ⟨bn, on, rfl, hn'⟩ := HNV.out (by rw [List.length_map]; omega)
          have HNI := Lib.hid (hn' i (pp.length : Int) (by rw [List.getElem?_map, hx, Option.map_some, hdep]))
          clear hx hxw hb hrun hdep hx' hu hiu hn'
          have HBr := Lib.hid (HB3.out.keeps0 HKR.out); have HTr := Lib.hid (HT3.out.keeps0 HKR.out)
          have hbx := HBr.out.lt
          have hsz := HKR.out.size
          obtain ⟨d0, d1, d2, d3⟩ := HBr.out
          have hcu := HKR.out.cell HU.out (fun h => h)
          have HIr := Lib.hid (show Ints wr (.slice af (facts x).length cf) (facts x) from HIU.out.keeps0 HKR.out)
          have i0 : (0 : Int) ≤ (i : Int) := by omega
          have i1 : (i : Int) < (ws.length : Int) := by omega
          have hbl : bl < wr.heap.size := by have := World.block_lt_of_cell? wr _ hcu; simpa using this
          go_upto_region 12 with fail
          have KD : Keeps (fun _ => False) wr wr.drew := (Keeps.refl (fun _ => False) wr).drew
          have KA : Keeps (fun _ => False) wr.drew (wr.alloc (.cells #[.int .i64 0, .int .i64 0] 30)).drew := by
            have h := (Keeps.refl (fun _ => False) wr.drew).alloc (.cells #[.int .i64 0, .int .i64 0] 30)
            exact h
          have HTD := Lib.hid (HTr.out.keeps0 KD); have HID := Lib.hid (show Ints wr.drew (.slice af (facts x).length cf) (facts x) from HIr.out.keeps0 KD); have KRD := Lib.hid (HKR.out.trans KD)
          have HZ8 := Lib.hid (show (wr.alloc (.cells #[.int .i64 0, .int .i64 0] 30)).drew.heap[wr.heap.size]? = some (.cells #[.int .i64 0, .int .i64 0] 30 (0, 0)) from heap_alloc_new wr _)
          obtain ⟨d0', d1', d2', d3'⟩ := ((HBr.out.keeps0 KD).keeps0 KA)
          have hcu' := KA.cell (KD.cell hcu (fun h => h)) (fun h => h)
          by_cases h60 : 60 < pp.length
          ·
            go_region_held3 (fun w' => w'.cell? ⟨bt, 0, none⟩ = some (.int .i64 t.n) ∧ w'.cell? ⟨bt, 1, none⟩ = some (.slice ai t.init.length ci) ∧ w'.cell? ⟨bt, 2, none⟩ = some (.slice ag t.goal.length cg) ∧ w'.cell? ⟨bt, 3, none⟩ = some (.slice ao t.ops.length co) ∧ w'.cell? ⟨bl, ol + i, none⟩ = some (.slice af (facts x).length cf))
              (first | go_keep | exact ⟨(keeps_pair (w := w9) wr.heap.size (.int .i64 10) (.int .i64 (-9))).cell t0 (show ¬ bt = wr.heap.size by omega), (keeps_pair (w := w9) wr.heap.size (.int .i64 10) (.int .i64 (-9))).cell t1 (show ¬ bt = wr.heap.size by omega), (keeps_pair (w := w9) wr.heap.size (.int .i64 10) (.int .i64 (-9))).cell t2 (show ¬ bt = wr.heap.size by omega), (keeps_pair (w := w9) wr.heap.size (.int .i64 10) (.int .i64 (-9))).cell t3 (show ¬ bt = wr.heap.size by omega), (keeps_pair (w := w9) wr.heap.size (.int .i64 10) (.int .i64 (-9))).cell t4 (show ¬ bl = wr.heap.size by omega)⟩)
              (first
                | (go_at_call 37; refine (reach_long HTD.out OK.out HX.out HGX.out HID.out HBST.out h60).mono ?_; rintro e w9 ⟨rfl, hk⟩; simp only [fltV]; have KE := Lib.hid (KRD.out.trans hk); have t0 := hk.cell d0 (fun h => h); have t1 := hk.cell d1 (fun h => h); have t2 := hk.cell d2 (fun h => h); have t3 := hk.cell d3 (fun h => h); have t4 := hk.cell hcu (fun h => h); clear hk)
                | (go_at_call 37; refine (reach_long (HTD.out.keeps0 KA) OK.out HX.out HGX.out (HID.out.keeps0 KA) HBST.out h60).mono ?_; rintro e w9 ⟨rfl, hk⟩; simp only [fltV]; have KE := Lib.hid ((KRD.out.trans KA).trans hk); have HZ9 := Lib.hid (hk.heap HZ8.out (fun h => h)); obtain ⟨q0, q1, y0, y1, hl6⟩ := pair_cells HZ9.out;  have t0 := hk.cell d0' (fun h => h); have t1 := hk.cell d1' (fun h => h); have t2 := hk.cell d2' (fun h => h); have t3 := hk.cell d3' (fun h => h); have t4 := hk.cell hcu' (fun h => h); clear hk))
            all_goals
              first
                | (have KF := Lib.hid (KE.out.trans' (keeps_pair (w := w9) wr.heap.size (.int .i64 10) (.int .i64 (-9))) (fun k hk => .inr (by omega)))
                   have HFZ := Lib.hid (pair_set HZ9.out (.int .i64 10) (.int .i64 (-9)))
                   skip
                   clear t0 t1 t2 t3 t4 q0 q1 y0 y1  HZ9 hl6
                   generalize (w9.setCell ⟨wr.heap.size, 0, none⟩ (.int .i64 10)).setCell ⟨wr.heap.size, 1, none⟩ (.int .i64 (-9)) = wz at HFZ KF ⊢
                   generalize wr.heap.size = b10 at HFZ ⊢)
                | (have HFZ := Lib.hid (heap_alloc_new w9 (.cells #[.int .i64 10, .int .i64 (-9)] 30))
                   have KF := Lib.hid (KE.out.alloc (.cells #[.int .i64 10, .int .i64 (-9)] 30))
                   skip
                   clear t0 t1 t2 t3 t4
                   generalize w9.alloc (.cells #[.int .i64 10, .int .i64 (-9)] 30) = wz at HFZ KF ⊢
                   generalize w9.heap.size = b10 at HFZ ⊢)
            all_goals
              obtain ⟨f0, f1, y0, y1, hlf⟩ := pair_cells HFZ.out
              clear y0 y1
              go_wp2_with fail
              go_roundw
              case rel => exact ⟨i + 1, by omega, by go_num, KF.out⟩
              case measure => simp only [intOf]; omega
          ·
            have h60' : pp.length ≤ 60 := by omega
            clear h60
            go_region_held3 (fun w' => w'.cell? ⟨bt, 0, none⟩ = some (.int .i64 t.n) ∧ w'.cell? ⟨bt, 1, none⟩ = some (.slice ai t.init.length ci) ∧ w'.cell? ⟨bt, 2, none⟩ = some (.slice ag t.goal.length cg) ∧ w'.cell? ⟨bt, 3, none⟩ = some (.slice ao t.ops.length co) ∧ w'.cell? ⟨bl, ol + i, none⟩ = some (.slice af (facts x).length cf))
              (first | go_keep | exact ⟨(keeps_pair (w := w9) wr.heap.size (.int .i64 10) (.int .i64 (-9))).cell t0 (show ¬ bt = wr.heap.size by omega), (keeps_pair (w := w9) wr.heap.size (.int .i64 10) (.int .i64 (-9))).cell t1 (show ¬ bt = wr.heap.size by omega), (keeps_pair (w := w9) wr.heap.size (.int .i64 10) (.int .i64 (-9))).cell t2 (show ¬ bt = wr.heap.size by omega), (keeps_pair (w := w9) wr.heap.size (.int .i64 10) (.int .i64 (-9))).cell t3 (show ¬ bt = wr.heap.size by omega), (keeps_pair (w := w9) wr.heap.size (.int .i64 10) (.int .i64 (-9))).cell t4 (show ¬ bl = wr.heap.size by omega)⟩)
              (first
                | (go_at_call 37; refine (reach_short HTD.out OK.out HX.out HGX.out HID.out HBST.out h60').mono ?_; rintro e w9 ⟨a9, c9, rfl, hpv, hk⟩; simp only [fltV]; have HPV := Lib.hid hpv; clear hpv; have KE := Lib.hid (KRD.out.trans hk); have t0 := hk.cell d0 (fun h => h); have t1 := hk.cell d1 (fun h => h); have t2 := hk.cell d2 (fun h => h); have t3 := hk.cell d3 (fun h => h); have t4 := hk.cell hcu (fun h => h); clear hk)
                | (go_at_call 37; refine (reach_short (HTD.out.keeps0 KA) OK.out HX.out HGX.out (HID.out.keeps0 KA) HBST.out h60').mono ?_; rintro e w9 ⟨a9, c9, rfl, hpv, hk⟩; simp only [fltV]; have HPV := Lib.hid hpv; clear hpv; have KE := Lib.hid ((KRD.out.trans KA).trans hk); have HZ9 := Lib.hid (hk.heap HZ8.out (fun h => h)); obtain ⟨q0, q1, y0, y1, hl6⟩ := pair_cells HZ9.out; have e0 := setCell_id q0; have e1 := setCell_id q1; have t0 := hk.cell d0' (fun h => h); have t1 := hk.cell d1' (fun h => h); have t2 := hk.cell d2' (fun h => h); have t3 := hk.cell d3' (fun h => h); have t4 := hk.cell hcu' (fun h => h); clear hk))
            all_goals
              first
                | (have KF := Lib.hid (KE.out.trans' (keeps_pair (w := w9) wr.heap.size (.int .i64 0) (.int .i64 0)) (fun k hk => .inr (by omega)))
                   have HFZ := Lib.hid (pair_set HZ9.out (.int .i64 0) (.int .i64 0))
                   have hid9 : (w9.setCell ⟨wr.heap.size, 0, none⟩ (.int .i64 0)).setCell ⟨wr.heap.size, 1, none⟩ (.int .i64 0) = w9 := by rw [e0, e1]
                   rw [hid9] at KF HFZ
                   have HPW := Lib.hid HPV.out
                   clear hid9 HPV
                   clear t0 t1 t2 t3 t4 q0 q1 y0 y1 e0 e1 HZ9 hl6
                   generalize w9 = wz at HFZ KF HPW ⊢
                   generalize wr.heap.size = b10 at HFZ ⊢)
                | (have HFZ := Lib.hid (heap_alloc_new w9 (.cells #[.int .i64 0, .int .i64 0] 30))
                   have KF := Lib.hid (KE.out.alloc (.cells #[.int .i64 0, .int .i64 0] 30))
                   have HPW := Lib.hid (show Ints _ (.slice a9 pp.length c9) (intsP pp) from HPV.out.keeps0 ((Keeps.refl (fun _ => False) w9).alloc (.cells #[.int .i64 0, .int .i64 0] 30)))
                   clear HPV
                   clear t0 t1 t2 t3 t4
                   generalize w9.alloc (.cells #[.int .i64 0, .int .i64 0] 30) = wz at HFZ KF HPW ⊢
                   generalize w9.heap.size = b10 at HFZ ⊢)
            all_goals
              have HBz := Lib.hid (HB3.out.keeps0 KF.out); have HTz := Lib.hid (HT3.out.keeps0 KF.out)
              obtain ⟨f0, f1, y0, y1, hlf⟩ := pair_cells HFZ.out
              clear y0 y1 d0 d1 d2 d3 hbx hcu d0' d1' d2' d3' hcu' KD KA HTD HID KRD HZ8 HBr HTr HIr
              have hbx := HBz.out.lt
              obtain ⟨d0, d1, d2, d3⟩ := HBz.out
              have hin := best_in HBST.out
              have HIN := Lib.hid hin
              clear hin
              go_wp2_with fail
              refine (play_good _ _ _ _ _ _ t (wd t.init) x pp HTz.out OK.out (facts_init OK.out).2 (by rw [(facts_init OK.out).1]; exact HTz.out.init) HPW.out h60' HIN.out HRUN.out).mono ?_; rintro e w10 ⟨v10, rfl, hls, hk⟩
              obtain ⟨hln, hlast⟩ := playL_run HRUN.out
              obtain ⟨a10, c10, hv, _⟩ := hls.form
              obtain ⟨nn, hnn⟩ : ∃ nn, nn = pp.length + 1 := ⟨_, rfl⟩
              rw [List.length_map, hln, ← hnn] at hv
              subst hv
              have HNN := Lib.hid hnn
              clear hnn
              simp only [fltV]
              have KB := hk.trans ((Keeps.refl (fun _ => False) w10).alloc (.cells #[.int .i64 0, .int .i64 0] 30))
              have HBa := Lib.hid (HBz.out.keeps0 KB); have HTa := Lib.hid (HTz.out.keeps0 KB); have Ka := Lib.hid (KF.out.trans KB); have HPa := Lib.hid (show Ints _ (.slice a9 pp.length c9) (intsP pp) from HPW.out.keeps0 KB); have HFa := Lib.hid (KB.heap HFZ.out (fun h => h)); have HF12 := Lib.hid (heap_alloc_new w10 (.cells #[.int .i64 0, .int .i64 0] 30))
              have HLS := Lib.hid (show Lists _ (.slice a10 nn c10) ((playL (wordsOf t.ops) (wd t.init) pp).map facts) from hls.keeps0 ((Keeps.refl (fun _ => False) w10).alloc (.cells #[.int .i64 0, .int .i64 0] 30)))
              have HLN := Lib.hid hln; have HLA := Lib.hid hlast
              clear hk KB d0 d1 d2 d3 hbx f0 f1 hlf hls hln hlast HBz HTz KF HPW HFZ
              go_upto_region 15 with fail
              generalize w10.alloc (.cells #[.int .i64 0, .int .i64 0] 30) = wa at HBa HTa Ka HPa HFa HF12 HLS ⊢
              generalize w10.heap.size = b12 at HF12 ⊢
              obtain ⟨g0, g1, y0, y1, hlg⟩ := pair_cells HF12.out
              clear y0 y1
              have hni := Ka.out.cell HNI.out (fun h => h)
              have hcu := Ka.out.cell HU.out (fun h => h)
              have HLC := Lib.hid (HLS.out.cell rfl)
              obtain ⟨bs, os, rfl, hsc⟩ := HLC.out (by rw [List.length_map, HLN.out]; omega)
              obtain ⟨us, hus, hius⟩ := hsc pp.length (facts x) (by rw [List.getElem?_map, HLA.out]; rfl)
              obtain ⟨au, cu, hfu, _⟩ := hius.form
              have HIS := Lib.hid hius
              subst hfu
              have HIX := Lib.hid (show Ints wa (.slice af (facts x).length cf) (facts x) from HIU.out.keeps0 Ka.out)
              have hW : IntKind.i64.wrap ((pp.length : Int) + 1) = (pp.length : Int) + 1 := IntWalk.i64_in _ (by omega)
              have ht1 : ((pp.length : Int) != (pp.length : Int)) = false := by simp
              have ht2 : ((nn : Int) != (pp.length : Int) + 1) = false := by have := HNN.out; simp; omega
              have j0 : (0 : Int) ≤ (pp.length : Int) := by omega
              have j1 : (pp.length : Int) < (nn : Int) := by have := HNN.out; omega
              clear hsc hius
              go_still_tail 38, (by kernel_rfl)
              change wpList _ _ _ _ _ wa.drew
              have KW := (Keeps.refl (fun _ => False) wa).drew
              have Kb := Lib.hid (Ka.out.trans KW); have HIS2 := Lib.hid (show Ints wa.drew (.slice au (facts x).length cu) (facts x) from HIS.out.keeps0 KW); have HIX2 := Lib.hid (show Ints wa.drew (.slice af (facts x).length cf) (facts x) from HIX.out.keeps0 KW)
              clear KW g0 g1 hlg hni hcu hus
              generalize wa.drew = wb at Kb HIS2 HIX2 ⊢
              go_wp2_with fail
              refine (ints_any _ _ _ (facts x) (facts x) HIS2.out HIX2.out).mono ?_; rintro e wc ⟨rfl, hk⟩
              rw [beq_self_eq_true]
              have Kc := Lib.hid (Kb.out.trans hk)
              clear hk
              go_wp2_with fail
              go_roundw
              case rel => exact ⟨i + 1, by omega, by go_num, Kc.out⟩
              case measure => simp only [intOf]; omega
        · go_wp2_with fail
          go_ret
          exact ⟨rfl, HK3.out.trans HKR.out⟩
      · go_wp2_with fail
        go_ret
        exact ⟨rfl, HK3.out.trans HKR.out⟩

end Go.Proofs.Ytdonadeodioplaa
