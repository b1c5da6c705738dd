/- The reference's StepsFault, Ends, Works, Solves and PlanFault, for a plan that can be followed. noResult, isOne, StateFault of the reference. The reference's IsBest, at a best plan; the law's bestMatches. astar: kinds that are not permitted; the reference's faults of a call with a kind. astar: Checked and Plan at a kind that is not permitted; KindFault. KindFault; bestMatches of a result with a fault. relaxplan: levels, supporters and a plan of the task without deletions, as functions; in plain Lean. slices.ContainsFunc at int with a function value that has one or two variables of its own. Printed by genHasF.py. relaxplan: the walk of levels. relaxplan: the walk of supporters. No condition beyond what each theorem says. -/
import Derived.Test.YtdokakhgflljgaaGreatM9
import Derived.Test.YtdokakhgflljgaaGreatM12
import Derived.Test.YtdokakhgflljgaaGreatM2
import Derived.Test.YtdokakhgflljgaaGreatM8
import Derived.Test.YtdokakhgflljgaaGreatM3
import Derived.Test.YtdokakhgflljgaaGreatM4
import Derived.Test.YtdokakhgflljgaaGreatM6
import Derived.Test.YtdokakhgflljgaaGreatM11
import Derived.Test.YtdokakhgflljgaaGreatM1

namespace Go.Proofs.YtdokakhgflljgaaGreat
open Go.RowKit

set_option maxRecDepth 100000 in
set_option maxHeartbeats 2000000 in
theorem stepsFault_good (w : World) (vp : Value) (p : List Int) (n : Int) (hp : Ints w vp p) (hl : p.length ≤ 60) (hin : ∀ x ∈ p, 0 ≤ x ∧ x < n) (hn : 0 ≤ n ∧ n ≤ 1000000) :
  Calls Tryz.prog 62 #[.int .i64 n, vp] w fun e w' => e = .returned (.agg #[.int .i64 0, .int .i64 0]) ∧ Keeps (fun _ => False) w w' := by
 obtain ⟨ap, cp, h1, hpl⟩ := hp.form
 subst h1
 have K1 := (Keeps.refl (fun _ => False) w).alloc (.cells #[.int .i64 0, .int .i64 0] 31)
 have HF := Lib.hid (show Flt w (w.alloc (.cells #[.int .i64 0, .int .i64 0] 31)) w.heap.size 31 from ⟨heap_alloc_new w _, Nat.le_refl _, K1⟩)
 have HC := Lib.hid ((hp.keeps0 K1).cell rfl)
 have HIN := Lib.hid hin
 clear hp K1 hin
 have hgt : decide (60 < (p.length : Int)) = false := by simp; omega
 go_enter Tryz.func62, Tryz.ntmps62
 go_upto_region 1 with fail
 generalize (w.alloc (.cells #[.int .i64 0, .int .i64 0] 31)) = w1 at HF HC ⊢
 go_wp2_with fail
 go_loopw [5] (fun v5 wr => ∃ i : Nat, i ≤ p.length ∧ v5 = .int .i64 (i : Int) ∧ Keeps (fun _ => False) w1 wr) (fun v5 _ => p.length - (intOf v5).toNat)
 case atStart => exact ⟨0, Nat.zero_le _, rfl, Keeps.refl _ _⟩
 case round =>
  obtain ⟨i, hi, rfl, hkr⟩ := hrel
  have HKR := Lib.hid hkr
  clear hkr
  by_cases hlt : i < p.length
  ·obtain ⟨x, hx⟩ : ∃ x, p[i]? = some x := ⟨_, List.getElem?_eq_getElem hlt⟩
   obtain ⟨bp, op, rfl, hpc⟩ := HC.out (by omega)
   have q1 := HKR.out.cell (hpc i x hx) (fun h => h)
   have hxn := HIN.out x (List.mem_of_getElem? hx)
   clear hpc hx
   have hilt : (i : Int) < (p.length : Int) := by omega
   go_wp2_with fail
   refine (in_true _ x 0 (n - 1) (by unfold inB; simp; omega)).mono ?_; rintro e w2 ⟨rfl, hw⟩
   subst hw
   go_wp2_with fail
   go_roundw
   case rel => exact ⟨i + 1, by omega, by go_num, HKR.out⟩
   case measure => simp [intOf]; omega
  ·obtain rfl : i = p.length := by omega
   have HF2 := Lib.hid (HF.out.keeps0 HKR.out)
   obtain ⟨e0, e1, z0, z1, hF⟩ := HF2.out.cells
   go_wp2_with fail
   refine bodyPost_ret (results_cell_row rfl _ _ w.heap.size 31 _ (0, 0) _ rfl (HF2.out.set (.int .i64 0) (.int .i64 0)).1 Tryz.underlying31 rfl (by kernel_rfl)) rfl ?_
   exact ⟨rfl, (HF2.out.set (.int .i64 0) (.int .i64 0)).2⟩

theorem run_take {ops : List Wop} : ∀ {q : List Nat} {x y : Nat}, runOps ops x q = some y → ∀ i, i < q.length → ∃ z a o, runOps ops x (q.take i) = some z ∧ q[i]? = some a ∧ ops[a]? = some o ∧ o.can z = true ∧ runOps ops x (q.take (i + 1)) = some (o.next z) := fun {q x y} hr i hi => by
 obtain ⟨z, hz, hd⟩ := run_cut hr i
 obtain ⟨a, ha⟩ : ∃ a, q[i]? = some a := ⟨_, List.getElem?_eq_getElem hi⟩
 rw [drop_getS ha, runOps] at hd
 cases ho : ops[a]? with
 | none => rw [ho] at hd; cases hd
 | some o =>
  rw [ho] at hd; simp only at hd
  by_cases hc : o.can z = true
  ·exact ⟨z, a, o, hz, ha, ho, hc, by rw [take_getS ha, runOps_append, hz]; simp [runOps, ho, hc]⟩
  ·rw [if_neg hc] at hd; cases hd

set_option maxRecDepth 100000 in
set_option maxHeartbeats 4000000 in
theorem ends_good (w : World) (vi vg vo vs vp : Value) (t : Tsk) (x y : Nat) (q : List Nat) (h : TaskAt w vi vg vo t) (ok : t.Ok) (hs : Ints w vs (facts x)) (hg : Good t.n x) (hp : Ints w vp (intsP q)) (hr : runOps (wordsOf t.ops) x q = some y) (hl : q.length ≤ 100000) :
  Calls Tryz.prog 81 #[.agg #[.int .i64 t.n, vi, vg, vo], vs, vp] w fun e w' => ∃ v, e = .returned (.tuple #[v, .bool true]) ∧ Ints w' v (facts y) ∧ Keeps (fun _ => False) w w' := by
 obtain ⟨ai, ci, h1, _⟩ := h.init.form
 obtain ⟨ag, cg, h2, _⟩ := h.goal.form
 obtain ⟨ao, co, h3, hmo⟩ := h.ops.form
 obtain ⟨ap, cp, h4, hpl⟩ := hp.form
 have hil : (intsP q).length = q.length := by simp [intsP]
 rw [hil] at h4
 subst h1 h2 h3 h4
 have HB := Lib.hid (Four.new w (.int .i64 t.n) (.slice ai t.init.length ci) (.slice ag t.goal.length cg) (.slice ao t.ops.length co) 25)
 have K1 := (Keeps.refl (fun _ => False) w).alloc (.cells #[.int .i64 t.n, .slice ai t.init.length ci, .slice ag t.goal.length cg, .slice ao t.ops.length co] 25)
 have HT := Lib.hid (h.keeps0 K1); have HK := Lib.hid K1; have HS := Lib.hid (hs.keeps0 K1); have HCP := Lib.hid ((hp.keeps0 K1).cell rfl)
 have OK := Lib.hid ok; have HG := Lib.hid hg; have HR := Lib.hid hr; have HIL := Lib.hid hil
 clear h K1 hs hp ok hg hr hil
 go_enter Tryz.func81, Tryz.ntmps81
 go_upto_region 1 with fail
 generalize (w.alloc (.cells #[.int .i64 t.n, .slice ai t.init.length ci, .slice ag t.goal.length cg, .slice ao t.ops.length co] 25)) = w1 at HB HT HK HS HCP ⊢
 generalize w.heap.size = bt at HB ⊢
 go_wp2_with fail
 go_loopw [1, 8] (fun v1 v8 wr => ∃ (i z : Nat), i ≤ q.length ∧ v8 = .int .i64 (i : Int) ∧ runOps (wordsOf t.ops) x (q.take i) = some z ∧ Good t.n z ∧ Ints wr v1 (facts z) ∧ Keeps (fun _ => False) w1 wr) (fun _ v8 _ => q.length - (intOf v8).toNat)
 case atStart => exact ⟨0, x, Nat.zero_le _, rfl, rfl, HG.out, HS.out, Keeps.refl _ _⟩
 case round =>
  obtain ⟨i, z, hi, rfl, hz, hgz, hv, hkr⟩ := hrel
  obtain ⟨av, cv, hvf, _⟩ := hv.form
  subst hvf
  have HV := Lib.hid hv; have HKR := Lib.hid hkr; have HGZ := Lib.hid hgz; have HZ := Lib.hid hz
  clear hv hkr hgz hz
  by_cases hlt : i < q.length
  ·obtain ⟨z', a, o, g1, g2, g3, g4, g5⟩ := run_take HR.out i hlt
   obtain rfl : z' = z := by have := g1.symm.trans HZ.out; cases this; rfl
   obtain ⟨o', ho', rfl⟩ : ∃ o', t.ops[a]? = some o' ∧ o'.word = o := by
    unfold wordsOf at g3
    rw [List.getElem?_map] at g3
    obtain ⟨o', h1, h2⟩ := Option.map_eq_some_iff.1 g3
    exact ⟨o', h1, h2⟩
   obtain ⟨hap, haf, hgn⟩ := good_next (by have := OK.out.n1; omega) (OK.out.ops o' (List.mem_of_getElem? ho')) HGZ.out
   rw [g4] at hap
   obtain ⟨bp, op, rfl, hpc⟩ := HCP.out (by rw [HIL.out]; omega)
   have q1 := HKR.out.cell (hpc i (a : Int) (by unfold intsP; rw [List.getElem?_map, g2]; rfl)) (fun h => h)
   have HAP := Lib.hid hap; have HAF := Lib.hid haf; have HGN := Lib.hid hgn; have HOO := Lib.hid ho'; have HNX := Lib.hid g5
   have HBq := Lib.hid (HB.out.keeps0 HKR.out); have HTq := Lib.hid (HT.out.keeps0 HKR.out)
   have hbx := HBq.out.lt
   obtain ⟨d0, d1, d2, d3⟩ := HBq.out
   have hilt : (i : Int) < (q.length : Int) := by omega
   have hi0 : (0 : Int) ≤ (i : Int) := by omega
   clear g1 g2 g3 g4 g5 hpc hap haf hgn ho'
   go_upto_region 4 with fail
   go_still_tail 6, (by kernel_rfl)
   change wpList _ _ _ _ _ wr.drew
   have KD := (Keeps.refl (fun _ => False) wr).drew
   have HTD := Lib.hid (HTq.out.keeps0 KD); have HVD := Lib.hid (show Ints wr.drew (.slice av (facts z').length cv) (facts z') from HV.out.keeps0 KD); have HBD := Lib.hid (HBq.out.keeps0 KD); have KRD := Lib.hid (HKR.out.trans KD)
   have q1 := KD.cell q1 (fun h => h)
   clear KD d0 d1 d2 d3 hbx HBq HTq HV HKR
   generalize wr.drew = w4 at HTD HVD HBD KRD q1 ⊢
   go_wp2_with fail
   refine (applies_any _ _ _ _ _ t (facts z') a o' HTD.out HVD.out HOO.out).mono ?_; rintro en w5 ⟨rfl, hk⟩
   rw [HAP.out]
   have HT5 := Lib.hid (HTD.out.keeps0 hk); have HV5 := Lib.hid (show Ints w5 (.slice av (facts z').length cv) (facts z') from HVD.out.keeps0 hk); have HB5 := Lib.hid (HBD.out.keeps0 hk); have KR5 := Lib.hid (KRD.out.trans hk)
   have q1 := hk.cell q1 (fun h => h)
   clear hk HTD HVD HBD KRD
   have hbx := HB5.out.lt
   obtain ⟨d0, d1, d2, d3⟩ := HB5.out
   go_upto_region 6 with fail
   go_still_tail 6, (by kernel_rfl)
   change wpList _ _ _ _ _ w5.drew
   have KD := (Keeps.refl (fun _ => False) w5).drew
   have HTD := Lib.hid (HT5.out.keeps0 KD); have HVD := Lib.hid (show Ints w5.drew (.slice av (facts z').length cv) (facts z') from HV5.out.keeps0 KD); have KRD := Lib.hid (KR5.out.trans KD)
   clear KD d0 d1 d2 d3 hbx HB5 HT5 HV5 KR5 q1
   generalize w5.drew = w6 at HTD HVD KRD ⊢
   go_wp2_with fail
   refine (after_any _ _ _ _ _ t (facts z') a o' HTD.out HVD.out HOO.out OK.out.n0 (by have := OK.out.n1; omega)).mono ?_; rintro en w7 ⟨v, rfl, hown, hk⟩
   have HV7 := Lib.hid (show Ints w7 v (facts (o'.word.next z')) by have := Ints.of_own hown; rwa [HAF.out] at this)
   have KR7 := Lib.hid (KRD.out.trans hk)
   clear hown hk
   go_wp2_with fail
   go_roundw
   case rel => exact ⟨i + 1, o'.word.next z', by omega, by go_num, HNX.out, HGN.out, HV7.out, KR7.out⟩
   case measure => simp [intOf]; omega
  ·obtain rfl : i = q.length := by omega
   have hzy : z = y := by have := HZ.out; rw [List.take_length] at this; have := this.symm.trans HR.out; cases this; rfl
   subst hzy
   go_wp2_with fail
   go_ret2
   exact ⟨_, rfl, HV.out, HK.out.trans HKR.out⟩

set_option maxRecDepth 100000 in
set_option maxHeartbeats 2000000 in
theorem worksR_good (w : World) (vi vg vo vs vp : Value) (t : Tsk) (x y : Nat) (q : List Nat) (h : TaskAt w vi vg vo t) (ok : t.Ok) (hs : Ints w vs (facts x)) (hg : Good t.n x) (hp : Ints w vp (intsP q)) (hr : runOps (wordsOf t.ops) x q = some y) (hl : q.length ≤ 100000) :
  Calls Tryz.prog 63 #[.agg #[.int .i64 t.n, vi, vg, vo], vs, vp] w fun e w' => e = .returned (.bool (goalW t y)) ∧ Keeps (fun _ => False) w w' := by
 obtain ⟨ai, ci, h1, _⟩ := h.init.form
 obtain ⟨ag, cg, h2, _⟩ := h.goal.form
 obtain ⟨ao, co, h3, hmo⟩ := h.ops.form
 subst h1 h2 h3
 have HB := Lib.hid (Four.new w (.int .i64 t.n) (.slice ai t.init.length ci) (.slice ag t.goal.length cg) (.slice ao t.ops.length co) 25)
 have K1 := (Keeps.refl (fun _ => False) w).alloc (.cells #[.int .i64 t.n, .slice ai t.init.length ci, .slice ag t.goal.length cg, .slice ao t.ops.length co] 25)
 have HT := Lib.hid (h.keeps0 K1); have HK := Lib.hid K1; have HS := Lib.hid (hs.keeps0 K1); have HP := Lib.hid (hp.keeps0 K1)
 have OK := Lib.hid ok; have HG := Lib.hid hg; have HR := Lib.hid hr
 clear h K1 hs hp ok hg hr
 go_enter Tryz.func63, Tryz.ntmps63
 go_upto_region 1 with fail
 generalize (w.alloc (.cells #[.int .i64 t.n, .slice ai t.init.length ci, .slice ag t.goal.length cg, .slice ao t.ops.length co] 25)) = w1 at HB HT HK HS HP ⊢
 generalize w.heap.size = bt at HB ⊢
 have hbx := HB.out.lt
 obtain ⟨d0, d1, d2, d3⟩ := HB.out
 go_wp2_with fail
 refine (ends_good _ _ _ _ _ _ t x y q HT.out OK.out HS.out HG.out HP.out HR.out hl).mono ?_; rintro e w2 ⟨v, rfl, hv, hk⟩
 have HB2 := Lib.hid (HB.out.keeps0 hk); have HT2 := Lib.hid (HT.out.keeps0 hk); have K2 := Lib.hid (HK.out.trans hk); have HV := Lib.hid hv
 clear d0 d1 d2 d3 hbx hk hv
 have hbx := HB2.out.lt
 obtain ⟨d0, d1, d2, d3⟩ := HB2.out
 go_wp2_with fail
 refine (subset_goal _ _ _ t y HT2.out.goal HV.out).mono ?_; rintro e w3 ⟨rfl, rfl⟩
 go_wp2_with fail
 go_ret
 exact ⟨rfl, K2.out⟩

set_option maxRecDepth 100000 in
set_option maxHeartbeats 2000000 in
theorem solvesR_good (w : World) (vi vg vo vp : Value) (t : Tsk) (y : Nat) (q : List Nat) (h : TaskAt w vi vg vo t) (ok : t.Ok) (hp : Ints w vp (intsP q)) (hr : runOps (wordsOf t.ops) (wd t.init) q = some y) (hl : q.length ≤ 100000) :
  Calls Tryz.prog 42 #[.agg #[.int .i64 t.n, vi, vg, vo], vp] w fun e w' => e = .returned (.bool (goalW t y)) ∧ Keeps (fun _ => False) w w' := by
 obtain ⟨ai, ci, h1, _⟩ := h.init.form
 obtain ⟨ag, cg, h2, _⟩ := h.goal.form
 obtain ⟨ao, co, h3, hmo⟩ := h.ops.form
 subst h1 h2 h3
 have HB := Lib.hid (Four.new w (.int .i64 t.n) (.slice ai t.init.length ci) (.slice ag t.goal.length cg) (.slice ao t.ops.length co) 25)
 have K1 := (Keeps.refl (fun _ => False) w).alloc (.cells #[.int .i64 t.n, .slice ai t.init.length ci, .slice ag t.goal.length cg, .slice ao t.ops.length co] 25)
 have HT := Lib.hid (h.keeps0 K1); have HK := Lib.hid K1; have HP := Lib.hid (hp.keeps0 K1)
 have OK := Lib.hid ok; have HR := Lib.hid hr
 have HG := Lib.hid (good_wd (by have := ok.n1; omega : t.n ≤ 32) ok.init)
 have hfi : facts (wd t.init) = t.init := facts_wd (isSet_mono ok.init (by have := ok.n1; omega))
 have HFI := Lib.hid hfi
 clear h K1 hp ok hr hfi
 go_enter Tryz.func42, Tryz.ntmps42
 go_upto_region 1 with fail
 generalize (w.alloc (.cells #[.int .i64 t.n, .slice ai t.init.length ci, .slice ag t.goal.length cg, .slice ao t.ops.length co] 25)) = w1 at HB HT HK HP ⊢
 generalize w.heap.size = bt at HB ⊢
 have hbx := HB.out.lt
 obtain ⟨d0, d1, d2, d3⟩ := HB.out
 go_wp2_with fail
 refine (worksR_good _ _ _ _ _ _ t (wd t.init) y q HT.out OK.out (by rw [HFI.out]; exact HT.out.init) HG.out HP.out HR.out hl).mono ?_; rintro e w2 ⟨rfl, hk⟩
 go_wp2_with fail
 go_ret
 exact ⟨rfl, HK.out.trans hk⟩

set_option maxRecDepth 100000 in
set_option maxHeartbeats 2000000 in
theorem planFaultR_good (w : World) (vi vg vo vp : Value) (t : Tsk) (p : List Int) (h : TaskAt w vi vg vo t) (ok : t.Ok) (hp : Ints w vp p) (hl : p.length ≤ 60) (hin : PlanIn t p) :
  Calls Tryz.prog 41 #[.agg #[.int .i64 t.n, vi, vg, vo], vp] w fun e w' => e = .returned (.agg #[.int .i64 0, .int .i64 0]) ∧ Keeps (fun _ => False) w w' := by
 obtain ⟨ai, ci, h1, _⟩ := h.init.form
 obtain ⟨ag, cg, h2, _⟩ := h.goal.form
 obtain ⟨ao, co, h3, hmo⟩ := h.ops.form
 subst h1 h2 h3
 have K1 := (Keeps.refl (fun _ => False) w).alloc (.cells #[.int .i64 t.n, .slice ai t.init.length ci, .slice ag t.goal.length cg, .slice ao t.ops.length co] 25)
 have KA := K1.alloc (.cells #[.int .i64 0, .int .i64 0] 31)
 have HT := Lib.hid (h.keeps0 KA); have HP := Lib.hid (hp.keeps0 KA)
 have HB := Lib.hid ((Four.new w (.int .i64 t.n) (.slice ai t.init.length ci) (.slice ag t.goal.length cg) (.slice ao t.ops.length co) 25).keeps0 ((Keeps.refl _ _).alloc (.cells #[.int .i64 0, .int .i64 0] 31)))
 have HF := Lib.hid (show Flt w ((w.alloc (.cells #[.int .i64 t.n, .slice ai t.init.length ci, .slice ag t.goal.length cg, .slice ao t.ops.length co] 25)).alloc (.cells #[.int .i64 0, .int .i64 0] 31)) (w.heap.size + 1) 31 from
  ⟨by have := heap_alloc_new (w.alloc (.cells #[.int .i64 t.n, .slice ai t.init.length ci, .slice ag t.goal.length cg, .slice ao t.ops.length co] 25)) (.cells #[.int .i64 0, .int .i64 0] 31); rwa [World.size_alloc] at this, by omega, KA⟩)
 have OK := Lib.hid ok; have HIN := Lib.hid hin
 have hfew := ok.few
 clear h K1 KA hp ok hin
 go_enter Tryz.func41, Tryz.ntmps41
 go_upto_region 1 with fail
 generalize ((w.alloc (.cells #[.int .i64 t.n, .slice ai t.init.length ci, .slice ag t.goal.length cg, .slice ao t.ops.length co] 25)).alloc (.cells #[.int .i64 0, .int .i64 0] 31)) = w1 at HB HT HF HP ⊢
 have hbx := HB.out.lt
 obtain ⟨d0, d1, d2, d3⟩ := HB.out
 go_wp2_with fail
 refine (taskFault_any _ _ _ _ t HT.out).mono ?_; rintro e w2 ⟨rfl, hk⟩
 rw [taskFault_ok OK.out]
 have KB := (Keeps.refl (fun _ => False) w2).alloc (.cells #[.int .i64 0, .int .i64 0] 31)
 have HB3 := Lib.hid (HB.out.keeps0 (hk.trans KB)); have HP3 := Lib.hid (HP.out.keeps0 (hk.trans KB)); have HF3 := Lib.hid (HF.out.keeps0 (hk.trans KB))
 have F0 := Lib.hid (heap_alloc_new w2 (.cells #[.int .i64 0, .int .i64 0] 31))
 have hlt2 : w.heap.size + 1 < w2.heap.size := Nat.lt_of_lt_of_le HF.out.cells.2.2.2.2 hk.size
 clear d0 d1 d2 d3 hbx hk KB HB HT HF HP
 go_upto_region 2 with fail
 generalize w2.alloc (.cells #[.int .i64 0, .int .i64 0] 31) = w3 at HB3 HF3 HP3 F0 ⊢
 generalize w2.heap.size = b3 at F0 hlt2 ⊢
 obtain ⟨p0, p1, y0, y1, pl⟩ := pair_cells F0.out
 have hbx := HB3.out.lt
 obtain ⟨d0, d1, d2, d3⟩ := HB3.out
 go_wp2_with fail
 refine (stepsFault_good _ _ p (t.ops.length : Int) HP3.out hl HIN.out (by omega)).mono ?_; rintro e w4 ⟨rfl, hk⟩
 have HF4 := Lib.hid (HF3.out.keeps0 hk)
 have F4 := hk.heap F0.out (fun h => h)
 clear p0 p1 y0 y1 pl d0 d1 d2 d3 hbx hk
 obtain ⟨p0, p1, y0, y1, pl⟩ := pair_cells F4
 obtain ⟨e0, e1, z0, z1, hF⟩ := HF4.out.cells
 have hne : b3 ≠ w.heap.size + 1 := by omega
 have i0 := setCell_id p0
 have i1 := setCell_id p1
 go_wp2_with fail
 refine bodyPost_ret (results_cell_row rfl _ _ (w.heap.size + 1) 31 _ (0, 0) _ rfl (HF4.out.set (.int .i64 0) (.int .i64 0)).1 Tryz.underlying31 rfl (by kernel_rfl)) rfl ?_
 exact ⟨rfl, (HF4.out.set _ _).2⟩

end Go.Proofs.YtdokakhgflljgaaGreat

namespace Go.Proofs.YtdokakhgflljgaaGreat
open Go.RowKit

def noResB (f : Bool) (m : Nat) (c n : Int) : Bool := !f && (m == 0) && (c == 0) && (n == 0)

set_option maxRecDepth 100000 in
set_option maxHeartbeats 1000000 in
theorem noResult_any (w : World) (f : Bool) (ao : Option Addr) (m cap : Nat) (c n : Int) (hm : m ≤ 9223372036854775807) :
  Calls Tryz.prog 12 #[resV f (.slice ao m cap) c n] w fun e w' => e = .returned (.bool (noResB f m c n)) ∧ Keeps (fun _ => False) w w' := by
 have HK := Lib.hid ((Keeps.refl (fun _ => False) w).alloc (.cells #[.bool f, .slice ao m cap, .int .i64 c, .int .i64 n] 29))
 have HX := heap_alloc_new w (.cells #[.bool f, .slice ao m cap, .int .i64 c, .int .i64 n] 29)
 have HE : Hid (noResB f m c n = (!f && (m == 0) && (c == 0) && (n == 0))) := rfl
 unfold resV
 go_enter Tryz.func12, Tryz.ntmps12
 go_upto_region 1 with fail
 generalize w.alloc (.cells #[.bool f, .slice ao m cap, .int .i64 c, .int .i64 n] 29) = w1 at HX HK ⊢
 have s0 : w1.cell? ⟨w.heap.size, 0, none⟩ = some (.bool f) := by rw [cell_of_blk HX]; rfl
 have s1 : w1.cell? ⟨w.heap.size, 1, none⟩ = some (.slice ao m cap) := by rw [cell_of_blk HX]; rfl
 have s2 : w1.cell? ⟨w.heap.size, 2, none⟩ = some (.int .i64 c) := by rw [cell_of_blk HX]; rfl
 have s3 : w1.cell? ⟨w.heap.size, 3, none⟩ = some (.int .i64 n) := by rw [cell_of_blk HX]; rfl
 have hl := lt_of_heap HX
 clear HX
 cases f with
 | true =>
  go_wp2_with fail
  go_ret
  exact ⟨congrArg (fun b => Ending.returned (Value.bool b)) (show false = noResB true m c n by rw [HE.out]; rfl), HK.out⟩
 | false =>
  by_cases h1 : m = 0
  ·subst h1
   cases h2 : (c == 0) with
   | true =>
    go_wp2_with fail
    go_ret
    exact ⟨congrArg (fun b => Ending.returned (Value.bool b)) (show (n == 0) = noResB false 0 c n by rw [HE.out, h2]; rfl), HK.out⟩
   | false =>
    go_wp2_with fail
    go_ret
    exact ⟨congrArg (fun b => Ending.returned (Value.bool b)) (show false = noResB false 0 c n by rw [HE.out, h2]; rfl), HK.out⟩
  ·have h2 : ((m : Int) == 0) = false := by simp; omega
   go_wp2_with fail
   go_ret
   exact ⟨congrArg (fun b => Ending.returned (Value.bool b)) (show false = noResB false m c n by rw [HE.out]; simp [h1]), HK.out⟩

/-! ### StateFault of the reference -/
end Go.Proofs.YtdokakhgflljgaaGreat

/- isOne at the task step. -/
namespace Go.Proofs.YtdokakhgflljgaaGreat
open Go.RowKit

end Go.Proofs.YtdokakhgflljgaaGreat

namespace Go.Proofs.YtdokakhgflljgaaGreat
open Go.RowKit

theorem costL_is (t : Tsk) : ∀ q : List Nat, costL t (intsP q) = costN (wordsOf t.ops) q
 | [] => rfl
 | a :: r => by
  have h := costL_is t r
  unfold intsP at h ⊢
  rw [List.map_cons, costL, costN, h]
  congr 1
  unfold costAt wordsOf
  rw [List.getElem?_map, Int.toNat_natCast, Option.map_map]
  rfl

theorem goal_reached {t : Tsk} (ok : t.Ok) {q : List Nat} {y : Nat} (hr : runOps (wordsOf t.ops) (wd t.init) q = some y) (ha : goalB (wd t.goal) y = true) : goalW t y = true := by
 rw [goalW_goalB ok (good_reach ok (good_wd (by have := ok.n1; omega) ok.init) (reach_run q .refl hr))]
 exact ha

theorem fld_fault (x y : Value) (W : World) : (Instr.field 31 (.agg #[x, y]) 0).run Tryz.prog W = .ok x W := by kernel_rfl

end Go.Proofs.YtdokakhgflljgaaGreat

namespace Go.Proofs.YtdokakhgflljgaaGreat
open Go.RowKit Go.Shelf

def admK (k : Int) : Bool := decide (k = 0 ∨ k = 1 ∨ k = 4 ∨ k = 5)
/-- The faults of a call with a kind. -/
def kindF (t : Tsk) (b : Bool) : Int × Int := if (taskFault t).1 = 0 then (if b = true then expF t else (4, -8)) else taskFault t
theorem kindF_true (t : Tsk) : kindF t true = expF t := by
 unfold kindF expF
 split <;> simp_all

theorem admissible_any (k : Int) (w : World) : Calls Tryz.prog 44 #[.int .i64 k] w fun e w' => e = .returned (.bool (admK k)) ∧ w = w' := by
 by_cases h0 : k = 0
 ·subst h0
  go_enter Tryz.func44, Tryz.ntmps44
  go_wp2_with fail
  go_ret
  exact ⟨rfl, rfl⟩
 ·by_cases h1 : k = 1
  ·subst h1
   go_enter Tryz.func44, Tryz.ntmps44
   go_wp2_with fail
   go_ret
   exact ⟨rfl, rfl⟩
  ·by_cases h4 : k = 4
   ·subst h4
    go_enter Tryz.func44, Tryz.ntmps44
    go_wp2_with fail
    go_ret
    exact ⟨rfl, rfl⟩
   ·by_cases h5 : k = 5
    ·subst h5
     go_enter Tryz.func44, Tryz.ntmps44
     go_wp2_with fail
     go_ret
     exact ⟨rfl, rfl⟩
    ·have HR := Lib.hid (show admK k = false by unfold admK; simp [h0, h1, h4, h5])
     have b0 : (k == 0) = false := by simpa using h0
     have b1 : (k == 1) = false := by simpa using h1
     have b4 : (k == 4) = false := by simpa using h4
     have b5 : (k == 5) = false := by simpa using h5
     clear h0 h1 h4 h5
     go_enter Tryz.func44, Tryz.ntmps44
     go_wp2_with fail
     go_ret
     exact ⟨congrArg (fun b => Ending.returned (Value.bool b)) HR.out.symm, rfl⟩

set_option maxRecDepth 100000 in
set_option maxHeartbeats 4000000 in
theorem value4_any (t : Tsk) (ok : t.Ok) (L : List Nat) (hL : ∀ x ∈ L, Good t.n x) : ValC t 4 L (cutsH t) := by
 intro w vi vg vo vs x h hx hs
 obtain ⟨ai, ci, h1, _⟩ := h.init.form
 obtain ⟨ag, cg, h2, _⟩ := h.goal.form
 obtain ⟨ao, co, h3, hmo⟩ := h.ops.form
 subst h1 h2 h3
 have K1 := (Keeps.refl (fun _ => False) w).alloc (.cells #[.int .i64 t.n, .slice ai t.init.length ci, .slice ag t.goal.length cg, .slice ao t.ops.length co] 25)
 have HB := Lib.hid (Four.new w (.int .i64 t.n) (.slice ai t.init.length ci) (.slice ag t.goal.length cg) (.slice ao t.ops.length co) 25)
 have HT := Lib.hid (h.keeps0 K1); have HS := Lib.hid (hs.keeps0 K1); have HK1 := Lib.hid K1
 have OK := Lib.hid ok; have HX := Lib.hid (hL x hx)
 clear h hs K1 ok hL hx
 go_enter Tryz.func59, Tryz.ntmps59
 go_upto_region 20 with fail
 generalize (w.alloc (.cells #[.int .i64 t.n, .slice ai t.init.length ci, .slice ag t.goal.length cg, .slice ao t.ops.length co] 25)) = w1 at HT HB HK1 HS ⊢
 obtain ⟨d0, d1, d2, d3⟩ := HB.out
 have hbx := HB.out.lt
 go_wp2_with fail
 refine (cuts_any _ _ _ _ _ t x HT.out OK.out HX.out HS.out).mono ?_
 rintro e w2 ⟨vx, rfl, hk⟩
 have HK2 := Lib.hid (HK1.out.trans hk)
 unfold fltV
 clear hk d0 d1 d2 d3
 go_wp2_with fail
 go_ret
 exact ⟨rfl, HK2.out.trans ((Keeps.refl (fun _ => False) w2).alloc _)⟩

/-- What Value says of a state. -/
def kindH (t : Tsk) (k : Int) : Nat → Int := if k = 1 then maxH t else if k = 2 then addH t else if k = 4 then cutsH t else if k = 5 then pairsH t else fun _ => 0
/-- What is said at the permitted kinds. -/
theorem says_kind {k : Int} (h : admK k = true) (t : Tsk) : SaysH t k (kindH t k) := fun l ok hx => by
 have hg := good_explored ok hx
 unfold admK at h
 rcases of_decide_eq_true h with rfl | rfl | rfl | rfl
 ·have e : kindH t 0 = fun _ => 0 := rfl
  rw [e]
  exact ⟨value0_any t l, ⟨fun x _ => ⟨by decide, by decide⟩, fun x _ p y _ _ => ⟨(costN_bound (ops_cost ok) p).1, by decide⟩⟩⟩
 ·exact ⟨value1_any t ok l hg, max_adm ok l⟩
 ·exact ⟨value4_any t ok l hg, cuts_adm ok l hg⟩
 ·exact ⟨value5_any t ok l hg, pairs_adm ok l hg⟩

end Go.Proofs.YtdokakhgflljgaaGreat

namespace Go.Proofs.YtdokakhgflljgaaGreat
open Go.RowKit Go.Shelf

theorem opsFault_at (n : Int) : ∀ (os : List Opr) (k : Int), 0 ≤ k → (opsFault n k os).1 ≠ 0 → (opsFault n k os).2 ≠ -7
 | [], k, _, h => absurd rfl h
 | o :: r, k, hk, h => by
  unfold opsFault at h ⊢
  split
  ·exact opsFault_at n r (k + 1) (by omega) (by rename_i he; rw [if_pos he] at h; exact h)
  ·simp only; omega
theorem taskFault_at7 {t : Tsk} (h : (taskFault t).1 ≠ 0) : (taskFault t).2 ≠ -7 := by
 unfold taskFault at h ⊢
 split
 ·decide
 ·split
  ·decide
  ·split
   ·decide
   ·split
    ·decide
    ·rename_i a b c d
     rw [if_neg a, if_neg b, if_neg c, if_neg d] at h
     exact opsFault_at _ _ _ (Int.le_refl _) h

def NoPost (t : Tsk) (w : World) (e : Ending) (w' : World) : Prop := ∃ pv lv c i, e = .returned (.tuple #[.pointer pv, lv, .agg #[.int .i64 c, .int .i64 i]]) ∧ (c, i) = kindF t false ∧ c ≠ 0 ∧ Keeps (fun _ => False) w w'

set_option maxRecDepth 100000 in
set_option maxHeartbeats 2000000 in
theorem acheckNo_any (w : World) (vi vg vo : Value) (t : Tsk) (h : TaskAt w vi vg vo t) :
  Calls Tryz.prog 29 #[.agg #[.int .i64 t.n, vi, vg, vo], .bool false] w (NoPost t w) := by
 obtain ⟨ai, ci, h1, _⟩ := h.init.form
 obtain ⟨ag, cg, h2, _⟩ := h.goal.form
 obtain ⟨ao, co, h3, hmo⟩ := h.ops.form
 subst h1 h2 h3
 have K1 := (Keeps.refl (fun _ => False) w).alloc (.cells #[.int .i64 t.n, .slice ai t.init.length ci, .slice ag t.goal.length cg, .slice ao t.ops.length co] 25)
 have HT := h.keeps0 (K1.alloc (.cells #[.int .i64 0, .int .i64 0] 31))
 have HB := (Four.new w (.int .i64 t.n) (.slice ai t.init.length ci) (.slice ag t.goal.length cg) (.slice ao t.ops.length co) 25).keeps0 ((Keeps.refl _ _).alloc (.cells #[.int .i64 0, .int .i64 0] 31))
 have HF : Flt w ((w.alloc (.cells #[.int .i64 t.n, .slice ai t.init.length ci, .slice ag t.goal.length cg, .slice ao t.ops.length co] 25)).alloc (.cells #[.int .i64 0, .int .i64 0] 31)) (w.heap.size + 1) 31 :=
  ⟨by have := heap_alloc_new (w.alloc (.cells #[.int .i64 t.n, .slice ai t.init.length ci, .slice ag t.goal.length cg, .slice ao t.ops.length co] 25)) (.cells #[.int .i64 0, .int .i64 0] 31); rwa [World.size_alloc] at this, by omega, K1.alloc _⟩
 replace HT := Lib.hid HT; replace HB := Lib.hid HB; replace HF := Lib.hid HF
 clear h K1
 go_enter Tryz.func29, Tryz.ntmps29
 go_upto_region 1 with fail
 generalize ((w.alloc (.cells #[.int .i64 t.n, .slice ai t.init.length ci, .slice ag t.goal.length cg, .slice ao t.ops.length co] 25)).alloc (.cells #[.int .i64 0, .int .i64 0] 31)) = w1 at HT HB HF ⊢
 have hbx := HB.out.lt
 obtain ⟨d0, d1, d2, d3⟩ := HB.out
 go_wp2_with fail
 refine (checked_any _ _ _ _ t HT.out).mono ?_; rintro e w2 hr
 have hform : (∃ pv lv c i, e = .returned (.tuple #[.pointer pv, lv, .agg #[.int .i64 c, .int .i64 i]]) ∧ ((c ≠ 0 ∧ i ≠ -7 ∧ (c, i) = kindF t false) ∨ (((c = 0 ∧ i = 0) ∨ (c ≠ 0 ∧ i = -7)) ∧ (4, -8) = kindF t false))) := by
  rcases hr.2 with ⟨hc, he⟩ | ⟨hok, hx, he⟩ | ⟨hok, l, hx, b, v, vl, ws, he, _⟩
  ·refine ⟨_, _, _, _, he, .inl ⟨hc, taskFault_at7 hc, ?_⟩⟩
   unfold kindF; rw [if_neg hc]
  ·refine ⟨_, _, _, _, he, .inr ⟨.inr ⟨by decide, rfl⟩, ?_⟩⟩
   unfold kindF; rw [if_pos (taskFault_zero.2 hok)]; rfl
  ·refine ⟨_, _, _, _, he, .inr ⟨.inl ⟨rfl, rfl⟩, ?_⟩⟩
   unfold kindF; rw [if_pos (taskFault_zero.2 hok)]; rfl
 obtain ⟨pv, lv, c, i, rfl, hcase⟩ := hform
 have HC := Lib.hid hcase
 have KA := (Keeps.refl (fun _ => False) w2).alloc (.cells #[.int .i64 c, .int .i64 i] 31)
 have HF3 := Lib.hid (HF.out.keeps0 (hr.1.trans KA))
 have F0 := Lib.hid (heap_alloc_new w2 (.cells #[.int .i64 c, .int .i64 i] 31))
 clear d0 d1 d2 d3 hbx hr KA HT HB HF hcase
 go_upto_region 2 with fail
 generalize w2.alloc (.cells #[.int .i64 c, .int .i64 i] 31) = w3 at HF3 F0 ⊢
 generalize w2.heap.size = b3 at F0 ⊢
 obtain ⟨f0, f1, _, _, fl⟩ := pair_cells F0.out
 obtain ⟨e0, e1, z0, z1, hF⟩ := HF3.out.cells
 rcases HC.out with ⟨hc, hi, hk⟩ | ⟨hci, hk⟩
 ·have HK := Lib.hid hk; have HCZ := Lib.hid hc
  have b0 : (c == 0) = false := by simpa using hc
  have b1 : (i == -7) = false := by simpa using hi
  clear hc hi hk
  go_wp2_with fail
  go_region
  all_goals
   go_wp2
   refine bodyPost_ret (results_tmp2_cell _ _ (w.heap.size + 1) 31 #[.int .i64 c, .int .i64 i] (0, 0) _ rfl rfl (((Keeps.refl (fun _ => False) _).drew).heap (HF3.out.set (.int .i64 c) (.int .i64 i)).1 (fun h => h)) Tryz.underlying31 rfl (by kernel_rfl)) rfl ?_
   exact ⟨_, _, c, i, rfl, HK.out, HCZ.out, (HF3.out.set (.int .i64 c) (.int .i64 i)).2.drew⟩
 ·have HK := Lib.hid hk
  have HST := Lib.hid (HF3.out.set (.int .i64 4) (.int .i64 (-8)))
  clear hk
  rcases hci with ⟨rfl, rfl⟩ | ⟨hc, rfl⟩
  ·go_wp2_with fail
   refine bodyPost_ret (results_tmp2_cell _ _ (w.heap.size + 1) 31 #[.int .i64 4, .int .i64 (-8)] (0, 0) _ rfl rfl HST.out.1 Tryz.underlying31 rfl (by kernel_rfl)) rfl ?_
   exact ⟨_, _, 4, -8, rfl, HK.out, by decide, HST.out.2⟩
  ·have b0 : (c == 0) = false := by simpa using hc
   clear hc
   go_wp2_with fail
   refine bodyPost_ret (results_tmp2_cell _ _ (w.heap.size + 1) 31 #[.int .i64 4, .int .i64 (-8)] (0, 0) _ rfl rfl HST.out.1 Tryz.underlying31 rfl (by kernel_rfl)) rfl ?_
   exact ⟨_, _, 4, -8, rfl, HK.out, by decide, HST.out.2⟩

end Go.Proofs.YtdokakhgflljgaaGreat

namespace Go.Proofs.YtdokakhgflljgaaGreat
open Go.RowKit Go.Shelf

set_option maxRecDepth 100000 in
set_option maxHeartbeats 2000000 in
theorem kindFault_any (w : World) (vi vg vo : Value) (t : Tsk) (b : Bool) (h : TaskAt w vi vg vo t) :
  Calls Tryz.prog 10 #[.agg #[.int .i64 t.n, vi, vg, vo], .bool b] w fun e w' => e = .returned (.agg #[.int .i64 (kindF t b).1, .int .i64 (kindF t b).2]) ∧ Keeps (fun _ => False) w w' := by
 obtain ⟨ai, ci, h1, _⟩ := h.init.form
 obtain ⟨ag, cg, h2, _⟩ := h.goal.form
 obtain ⟨ao, co, h3, hmo⟩ := h.ops.form
 subst h1 h2 h3
 have K1 := (Keeps.refl (fun _ => False) w).alloc (.cells #[.int .i64 t.n, .slice ai t.init.length ci, .slice ag t.goal.length cg, .slice ao t.ops.length co] 25)
 have HT := Lib.hid (h.keeps0 (K1.alloc (.cells #[.int .i64 0, .int .i64 0] 31)))
 have HB := Lib.hid ((Four.new w (.int .i64 t.n) (.slice ai t.init.length ci) (.slice ag t.goal.length cg) (.slice ao t.ops.length co) 25).keeps0 ((Keeps.refl _ _).alloc (.cells #[.int .i64 0, .int .i64 0] 31)))
 have HF : Flt w ((w.alloc (.cells #[.int .i64 t.n, .slice ai t.init.length ci, .slice ag t.goal.length cg, .slice ao t.ops.length co] 25)).alloc (.cells #[.int .i64 0, .int .i64 0] 31)) (w.heap.size + 1) 31 :=
  ⟨by have := heap_alloc_new (w.alloc (.cells #[.int .i64 t.n, .slice ai t.init.length ci, .slice ag t.goal.length cg, .slice ao t.ops.length co] 25)) (.cells #[.int .i64 0, .int .i64 0] 31); rwa [World.size_alloc] at this, by omega, K1.alloc _⟩
 replace HF := Lib.hid HF
 clear h K1
 go_enter Tryz.func10, Tryz.ntmps10
 go_upto_region 1 with fail
 generalize ((w.alloc (.cells #[.int .i64 t.n, .slice ai t.init.length ci, .slice ag t.goal.length cg, .slice ao t.ops.length co] 25)).alloc (.cells #[.int .i64 0, .int .i64 0] 31)) = w1 at HT HB HF ⊢
 have hbx := HB.out.lt
 obtain ⟨d0, d1, d2, d3⟩ := HB.out
 go_wp2_with fail
 refine (taskFault_any _ _ _ _ t HT.out).mono ?_; rintro e w2 ⟨rfl, hk⟩
 obtain ⟨f, hf⟩ : ∃ f, taskFault t = f := ⟨_, rfl⟩
 have HE := Lib.hid hf
 rw [hf]
 have KA := hk.trans ((Keeps.refl (fun _ => False) w2).alloc (.cells #[.int .i64 f.1, .int .i64 f.2] 31))
 have HF3 := Lib.hid (HF.out.keeps0 KA); have HT3 := Lib.hid (HT.out.keeps0 KA); have HB3 := Lib.hid (HB.out.keeps0 KA)
 have F0 := Lib.hid (heap_alloc_new w2 (.cells #[.int .i64 f.1, .int .i64 f.2] 31))
 have hw2 : w1.heap.size ≤ w2.heap.size := hk.size
 have HW1 := Lib.hid (show w.heap.size + 1 < w1.heap.size from HF.out.cells.2.2.2.2)
 clear d0 d1 d2 d3 hbx hk KA HT HB HF hf
 go_upto_region 2 with fail
 obtain ⟨b3, hb3⟩ : ∃ b3, w2.heap.size = b3 := ⟨_, rfl⟩
 generalize w2.alloc (.cells #[.int .i64 f.1, .int .i64 f.2] 31) = w3 at HF3 HT3 HB3 F0 ⊢
 rw [hb3] at F0 hw2
 try rw [hb3]
 clear hb3
 have HNB := Lib.hid (show ¬ b3 = w.heap.size + 1 ∧ w.heap.size + 1 < b3 by have := HW1.out; omega)
 obtain ⟨f0, f1, q0, q1, fl⟩ := pair_cells F0.out
 obtain ⟨e0, e1, z0, z1, hF⟩ := HF3.out.cells
 obtain ⟨c, i⟩ := f
 simp only at F0 f0 f1 HE ⊢
 cases h0 : (c == 0) with
 | false =>
  have HK := Lib.hid (show kindF t b = (c, i) by unfold kindF; rw [HE.out, if_neg (by simpa using h0)])
  have HST := Lib.hid (HF3.out.set (.int .i64 c) (.int .i64 i))
  go_wp2_with fail
  refine bodyPost_ret (results_cell_row rfl _ _ (w.heap.size + 1) 31 _ (0, 0) _ rfl HST.out.1 Tryz.underlying31 rfl (by kernel_rfl)) rfl ?_
  exact ⟨by rw [HK.out], HST.out.2⟩
 | true =>
  have hc : c = 0 := by simpa using h0
  subst hc
  clear h0
  cases b with
  | false =>
   have HK := Lib.hid (show kindF t false = (4, -8) by unfold kindF; rw [HE.out]; rfl)
   go_wp2_with fail
   refine (at_any _ _ _).mono ?_; rintro e w4 ⟨rfl, hk4⟩
   have kp := keeps_pair (w := w4) b3 (.int .i64 4) (.int .i64 (-8))
   have F4 := Lib.hid (hk4.heap F0.out (fun h => h))
   have F5 := Lib.hid (pair_set F4.out (.int .i64 4) (.int .i64 (-8)))
   have HF5 := Lib.hid ((HF3.out.keeps0 hk4).keepsS kp (fun e => HNB.out.1 e.symm) (fun i hi => by have := HNB.out.2; omega))
   clear f0 f1 q0 q1 fl e0 e1 z0 z1 hF
   obtain ⟨f0, f1, q0, q1, fl⟩ := pair_cells F4.out
   clear kp hk4
   go_upto_region 4 with fail
   generalize (w4.setCell ⟨b3, 0, none⟩ (.int .i64 4)).setCell ⟨b3, 1, none⟩ (.int .i64 (-8)) = w5 at F5 HF5 ⊢
   clear f0 f1 q0 q1 fl
   obtain ⟨f0, f1, q0, q1, fl⟩ := pair_cells F5.out
   obtain ⟨e0, e1, z0, z1, hF⟩ := HF5.out.cells
   have HST := Lib.hid (HF5.out.set (.int .i64 4) (.int .i64 (-8)))
   go_wp2_with fail
   refine bodyPost_ret (results_cell_row rfl _ _ (w.heap.size + 1) 31 _ (0, 0) _ rfl HST.out.1 Tryz.underlying31 rfl (by kernel_rfl)) rfl ?_
   exact ⟨by rw [HK.out], HST.out.2⟩
  | true =>
   have HK := Lib.hid (show kindF t true = expF t from kindF_true t)
   have hbx := HB3.out.lt
   obtain ⟨d0, d1, d2, d3⟩ := HB3.out
   go_wp2_with fail
   refine (explored_any _ _ _ _ t HT3.out).mono ?_; rintro e w4 ⟨rfl, hk4⟩
   have kp := keeps_pair (w := w4) b3 (.int .i64 (expF t).1) (.int .i64 (expF t).2)
   have F4 := Lib.hid (hk4.heap F0.out (fun h => h))
   have F5 := Lib.hid (pair_set F4.out (.int .i64 (expF t).1) (.int .i64 (expF t).2))
   have HF5 := Lib.hid ((HF3.out.keeps0 hk4).keepsS kp (fun e => HNB.out.1 e.symm) (fun i hi => by have := HNB.out.2; omega))
   clear f0 f1 q0 q1 fl e0 e1 z0 z1 hF d0 d1 d2 d3 hbx
   obtain ⟨f0, f1, q0, q1, fl⟩ := pair_cells F4.out
   clear kp hk4
   go_upto_region 6 with fail
   generalize (w4.setCell ⟨b3, 0, none⟩ (.int .i64 (expF t).1)).setCell ⟨b3, 1, none⟩ (.int .i64 (expF t).2) = w5 at F5 HF5 ⊢
   clear f0 f1 q0 q1 fl
   obtain ⟨f0, f1, q0, q1, fl⟩ := pair_cells F5.out
   obtain ⟨e0, e1, z0, z1, hF⟩ := HF5.out.cells
   have HST := Lib.hid (HF5.out.set (.int .i64 (expF t).1) (.int .i64 (expF t).2))
   go_wp2_with fail
   refine bodyPost_ret (results_cell_row rfl _ _ (w.heap.size + 1) 31 _ (0, 0) _ rfl HST.out.1 Tryz.underlying31 rfl (by kernel_rfl)) rfl ?_
   exact ⟨by rw [HK.out], HST.out.2⟩

end Go.Proofs.YtdokakhgflljgaaGreat

namespace Go.Proofs.YtdokakhgflljgaaGreat

/-! ### levels -/
def lev0 (n : Int) (s : List Int) : List Int := zeroV (List.replicate n.toNat (-1)) s
def levAdd (k : Int) (v ps : List Int) : List Int := ps.foldl (fun v p => if getV v p < 0 then v.set p.toNat k else v) v
def levBad (k : Int) (v ps : List Int) : Bool := ps.any fun p => decide (getV v p < 0 ∨ k ≤ getV v p)
def levOp (k : Int) (o : Opr) (v : List Int) : List Int := if levBad k v o.pre = true then v else levAdd k v o.add
def levR (k : Int) (ops : List Opr) (v : List Int) : List Int := ops.foldl (fun v o => levOp k o v) v
def levTo (ops : List Opr) (v : List Int) : Nat → List Int
 | 0 => v
 | k + 1 => levR ((k + 1 : Nat) : Int) ops (levTo ops v k)
def levelsV (t : Tsk) (s : List Int) : List Int := levTo t.ops (lev0 t.n s) t.n.toNat
theorem levAdd_snoc (k : Int) (v ps : List Int) (p : Int) : levAdd k v (ps ++ [p]) = if getV (levAdd k v ps) p < 0 then (levAdd k v ps).set p.toNat k else levAdd k v ps := by unfold levAdd; rw [List.foldl_append]; rfl
theorem levR_snoc (k : Int) (ops : List Opr) (o : Opr) (v : List Int) : levR k (ops ++ [o]) v = levOp k o (levR k ops v) := by unfold levR; rw [List.foldl_append]; rfl

/-- Levels are numbers from -1 to n. -/
def LevI (n : Nat) (m : Nat) (v : List Int) : Prop := v.length = n ∧ ∀ y ∈ v, -1 ≤ y ∧ y ≤ m
theorem LevI.get {n m : Nat} {v : List Int} (h : LevI n m v) {p : Int} (hp : p.toNat < n) : -1 ≤ getV v p ∧ getV v p ≤ m := by
 unfold getV
 rw [List.getD_eq_getElem?_getD, List.getElem?_eq_getElem (by have := h.1; omega)]
 exact h.2 _ (List.getElem_mem _)
theorem LevI.mono {n m k : Nat} {v : List Int} (h : LevI n m v) (hk : m ≤ k) : LevI n k v := ⟨h.1, fun y hy => by have := h.2 y hy; omega⟩
theorem LevI.set {n m : Nat} {v : List Int} (h : LevI n m v) (i : Nat) {x : Int} (hx : -1 ≤ x ∧ x ≤ m) : LevI n m (v.set i x) := ⟨by rw [List.length_set]; exact h.1, fun y hy => by
 rcases List.mem_or_eq_of_mem_set hy with h2 | h2
 ·exact h.2 y h2
 ·rw [h2]; exact hx⟩
theorem zeroV_lev {n m : Nat} : ∀ (ps v : List Int), LevI n m v → LevI n m (zeroV v ps)
 | [], v, h => h
 | p :: r, v, h => zeroV_lev r (v.set p.toNat 0) (h.set _ (by omega))
theorem lev0_ok (n : Int) (s : List Int) (m : Nat) : LevI n.toNat m (lev0 n s) := zeroV_lev s _ ⟨by simp, fun y hy => by rw [(List.mem_replicate.1 hy).2]; omega⟩
theorem levAdd_ok {n m : Nat} {k : Int} (hk : -1 ≤ k ∧ k ≤ m) : ∀ (ps v : List Int), LevI n m v → LevI n m (levAdd k v ps)
 | [], v, h => h
 | p :: r, v, h => by
  unfold levAdd
  rw [List.foldl_cons]
  refine levAdd_ok hk r _ ?_
  split
  ·exact h.set _ hk
  ·exact h
theorem levOp_ok {n m : Nat} {k : Int} (hk : -1 ≤ k ∧ k ≤ m) (o : Opr) {v : List Int} (h : LevI n m v) : LevI n m (levOp k o v) := by
 unfold levOp
 split
 ·exact h
 ·exact levAdd_ok hk _ _ h
theorem levR_ok {n m : Nat} {k : Int} (hk : -1 ≤ k ∧ k ≤ m) : ∀ (ops : List Opr) (v : List Int), LevI n m v → LevI n m (levR k ops v)
 | [], v, h => h
 | o :: r, v, h => by
  unfold levR
  rw [List.foldl_cons]
  exact levR_ok hk r _ (levOp_ok hk o h)
theorem levTo_ok {n m : Nat} (ops : List Opr) {v : List Int} (h : LevI n m v) : ∀ k, k ≤ m → LevI n m (levTo ops v k)
 | 0, _ => h
 | k + 1, hk => levR_ok (by omega) ops _ (levTo_ok ops h k (by omega))
theorem levelsV_ok (t : Tsk) (s : List Int) : LevI t.n.toNat t.n.toNat (levelsV t s) := levTo_ok t.ops (lev0_ok t.n s t.n.toNat) _ (Nat.le_refl _)

/-! ### supporters -/
def supPre (n : Int) (lv ps : List Int) : Int × Int := ps.foldl (fun a p => (a.1 + getV lv p, if getV lv p < 0 then n else max a.2 (getV lv p))) (0, -1)
def supAdd (i sum top : Int) (lv : List Int) (st : List Int × List Int) (ps : List Int) : List Int × List Int :=
 ps.foldl (fun st p => if top < getV lv p ∧ 0 < getV lv p ∧ (getV st.1 p < 0 ∨ sum < getV st.2 p) then (st.1.set p.toNat i, st.2.set p.toNat sum) else st) st
def supTo (n : Int) (lv : List Int) (ops : List Opr) : Nat → List Int × List Int
 | 0 => (List.replicate n.toNat (-1), List.replicate n.toNat 0)
 | k + 1 => match ops[k]? with
  | some o => supAdd (k : Int) (supPre n lv o.pre).1 (supPre n lv o.pre).2 lv (supTo n lv ops k) o.add
  | none => supTo n lv ops k
def supV (t : Tsk) (s : List Int) : List Int := (supTo t.n (levelsV t s) t.ops t.ops.length).1
theorem supPre_snoc (n : Int) (lv ps : List Int) (p : Int) : supPre n lv (ps ++ [p]) = ((supPre n lv ps).1 + getV lv p, if getV lv p < 0 then n else max (supPre n lv ps).2 (getV lv p)) := by unfold supPre; rw [List.foldl_append]; rfl
theorem supAdd_snoc (i sum top : Int) (lv : List Int) (st : List Int × List Int) (ps : List Int) (p : Int) : supAdd i sum top lv st (ps ++ [p]) =
  if top < getV lv p ∧ 0 < getV lv p ∧ (getV (supAdd i sum top lv st ps).1 p < 0 ∨ sum < getV (supAdd i sum top lv st ps).2 p) then ((supAdd i sum top lv st ps).1.set p.toNat i, (supAdd i sum top lv st ps).2.set p.toNat sum) else supAdd i sum top lv st ps := by
 unfold supAdd; rw [List.foldl_append]; rfl
theorem supPre_low {n : Int} {m : Nat} {lv : List Int} (h : LevI n.toNat m lv) (h0 : 0 ≤ n) (hm : (m : Int) ≤ n) : ∀ (ps : List Int), (∀ p ∈ ps, 0 ≤ p ∧ p < n) → ∀ a : Int × Int, -1 ≤ a.2 ∧ a.2 ≤ n →
  a.1 - ps.length ≤ (ps.foldl (fun a p => (a.1 + getV lv p, if getV lv p < 0 then n else max a.2 (getV lv p))) a).1 ∧ (ps.foldl (fun a p => (a.1 + getV lv p, if getV lv p < 0 then n else max a.2 (getV lv p))) a).1 ≤ a.1 + n * ps.length ∧
  -1 ≤ (ps.foldl (fun a p => (a.1 + getV lv p, if getV lv p < 0 then n else max a.2 (getV lv p))) a).2 ∧ (ps.foldl (fun a p => (a.1 + getV lv p, if getV lv p < 0 then n else max a.2 (getV lv p))) a).2 ≤ n
 | [], _, a, ha => by simp; omega
 | p :: r, hp, a, ha => by
  have h1 := h.get (p := p) (by have := hp p (by simp); omega)
  obtain ⟨g1, g2, g3, g4⟩ := supPre_low h h0 hm r (fun q hq => hp q (by simp [hq])) (a.1 + getV lv p, if getV lv p < 0 then n else max a.2 (getV lv p)) (by simp only; split <;> omega)
  rw [List.foldl_cons]
  simp only at g1 g2
  refine ⟨by rw [List.length_cons]; omega, ?_, g3, g4⟩
  rw [List.length_cons, show n * ((r.length + 1 : Nat) : Int) = n * (r.length : Int) + n by rw [Int.natCast_succ, Int.mul_add, Int.mul_one]]
  omega
/-- Supporters are -1 or numbers of operators. -/
def SupI (n m : Nat) (c : Int) (st : List Int × List Int) : Prop := st.1.length = n ∧ st.2.length = n ∧ (∀ y ∈ st.1, -1 ≤ y ∧ y < (m : Int)) ∧ ∀ y ∈ st.2, -c ≤ y ∧ y ≤ c
theorem supAdd_ok {n m : Nat} {c i sum top : Int} (hi : -1 ≤ i ∧ i < (m : Int)) (hs : -c ≤ sum ∧ sum ≤ c) (lv : List Int) : ∀ (ps : List Int) (st : List Int × List Int), SupI n m c st → SupI n m c (supAdd i sum top lv st ps)
 | [], st, h => h
 | p :: r, st, h => by
  unfold supAdd
  rw [List.foldl_cons]
  refine supAdd_ok hi hs lv r _ ?_
  split
  ·refine ⟨by rw [List.length_set]; exact h.1, by rw [List.length_set]; exact h.2.1, fun y hy => ?_, fun y hy => ?_⟩
   ·rcases List.mem_or_eq_of_mem_set hy with h2 | h2
    ·exact h.2.2.1 y h2
    ·rw [h2]; exact hi
   ·rcases List.mem_or_eq_of_mem_set hy with h2 | h2
    ·exact h.2.2.2 y h2
    ·rw [h2]; exact hs
  ·exact h
theorem supTo_ok {t : Tsk} (ok : t.Ok) (s : List Int) : ∀ k, k ≤ t.ops.length → SupI t.n.toNat k 1000 (supTo t.n (levelsV t s) t.ops k)
 | 0, _ => ⟨by simp [supTo], by simp [supTo], fun y hy => by rw [(List.mem_replicate.1 hy).2]; decide, fun y hy => by rw [(List.mem_replicate.1 hy).2]; decide⟩
 | k + 1, hk => by
  have ih := supTo_ok ok s k (by omega)
  obtain ⟨o, ho⟩ : ∃ o, t.ops[k]? = some o := ⟨_, List.getElem?_eq_getElem (by omega)⟩
  have oko := ok.ops o (List.mem_of_getElem? ho)
  have n0 := ok.n0; have n1 := ok.n1
  have hl : (o.pre.length : Int) ≤ 24 := by
   rcases setFrom_length oko.pre with h | h
   ·rw [h]; decide
   ·omega
  have hp := supPre_low (levelsV_ok t s) n0 (by omega) o.pre (isSet_iff.1 oko.pre).1 (0, -1) (by simp only; omega)
  have hm : t.n * (o.pre.length : Int) ≤ 24 * 24 := Int.mul_le_mul n1 hl (by omega) (by decide)
  rw [supTo, ho]
  simp only
  have e : SupI t.n.toNat (k + 1) 1000 (supTo t.n (levelsV t s) t.ops k) := ⟨ih.1, ih.2.1, fun y hy => by have := ih.2.2.1 y hy; omega, ih.2.2.2⟩
  refine supAdd_ok (by omega) ?_ _ _ _ e
  unfold supPre
  have h1 := hp.1; have h2 := hp.2.1
  simp only at h1 h2
  omega
theorem supV_ok {t : Tsk} (ok : t.Ok) (s : List Int) : (supV t s).length = t.n.toNat ∧ ∀ y ∈ supV t s, -1 ≤ y ∧ y < (t.ops.length : Int) := by
 have h := supTo_ok ok s t.ops.length (Nat.le_refl _)
 exact ⟨h.1, h.2.2.1⟩

/-! ### the plan -/
def opPre (ops : List Opr) (i : Int) : List Int := ((ops[i.toNat]?).map Opr.pre).getD []
def ach (sup : List Int) (ops : List Opr) : Nat → Int → List Bool × List Int → List Bool × List Int
 | 0, _, st => st
 | k + 1, p, st => if getV sup p < 0 ∨ getB st.1 (getV sup p) = true then st else
  (((opPre ops (getV sup p)).foldl (fun st q => ach sup ops k q st) (st.1.set (getV sup p).toNat true, st.2)).1,
    ((opPre ops (getV sup p)).foldl (fun st q => ach sup ops k q st) (st.1.set (getV sup p).toNat true, st.2)).2 ++ [getV sup p])
def achs (sup : List Int) (ops : List Opr) (k : Nat) (st : List Bool × List Int) (ps : List Int) : List Bool × List Int := ps.foldl (fun st q => ach sup ops k q st) st
def relP (t : Tsk) (s : List Int) : List Int := (achs (supV t s) t.ops (t.ops.length + 1) (List.replicate t.ops.length false, []) t.goal).2
/-- Is there a plan of the task without deletions? -/
def relOk (t : Tsk) (s : List Int) : Bool := !t.goal.any fun p => decide (getV (levelsV t s) p < 0)
theorem achs_snoc (sup : List Int) (ops : List Opr) (k : Nat) (st : List Bool × List Int) (ps : List Int) (p : Int) : achs sup ops k st (ps ++ [p]) = ach sup ops k p (achs sup ops k st ps) := by unfold achs; rw [List.foldl_append]; rfl
theorem ach_skip {sup : List Int} {ops : List Opr} {k : Nat} {p : Int} {st : List Bool × List Int} (h : getV sup p < 0 ∨ getB st.1 (getV sup p) = true) : ach sup ops (k + 1) p st = st := by rw [ach, if_pos h]
theorem ach_go {sup : List Int} {ops : List Opr} {k : Nat} {p : Int} {st : List Bool × List Int} (h : ¬ (getV sup p < 0 ∨ getB st.1 (getV sup p) = true)) :
  ach sup ops (k + 1) p st = ((achs sup ops k (st.1.set (getV sup p).toNat true, st.2) (opPre ops (getV sup p))).1, (achs sup ops k (st.1.set (getV sup p).toNat true, st.2) (opPre ops (getV sup p))).2 ++ [getV sup p]) := by rw [ach, if_neg h]; rfl

/-- Every step of the plan is an operator, and none comes twice. -/
structure AchI (m : Nat) (st st' : List Bool × List Int) : Prop where
 len : st'.1.length = m
 more : offs st'.1 + st'.2.length ≤ offs st.1 + st.2.length
 fewer : offs st'.1 ≤ offs st.1
 ops : ∀ i ∈ st'.2, 0 ≤ i ∧ i < (m : Int)
/-- What the supporters and the operators must be. -/
structure AchNeed (sup : List Int) (ops : List Opr) : Prop where
 inn : ∀ p : Int, 0 ≤ p → p.toNat < sup.length → -1 ≤ getV sup p ∧ getV sup p < (ops.length : Int)
 pre : ∀ o ∈ ops, ∀ p ∈ o.pre, 0 ≤ p ∧ p.toNat < sup.length
theorem AchNeed.opPre {sup : List Int} {ops : List Opr} (h : AchNeed sup ops) (i : Int) : ∀ p ∈ opPre ops i, 0 ≤ p ∧ p.toNat < sup.length := fun p hp => by
 unfold Go.Proofs.YtdokakhgflljgaaGreat.opPre at hp
 cases ho : ops[i.toNat]? with
 | none => rw [ho] at hp; cases hp
 | some o => rw [ho] at hp; exact h.pre o (List.mem_of_getElem? ho) p hp
theorem achs_of {sup : List Int} {ops : List Opr} {k : Nat} (h : ∀ (p : Int) (st : List Bool × List Int), 0 ≤ p → p.toNat < sup.length → st.1.length = ops.length → (∀ i ∈ st.2, 0 ≤ i ∧ i < (ops.length : Int)) → AchI ops.length st (ach sup ops k p st)) :
  ∀ (ps : List Int) (st : List Bool × List Int), (∀ p ∈ ps, 0 ≤ p ∧ p.toNat < sup.length) → st.1.length = ops.length → (∀ i ∈ st.2, 0 ≤ i ∧ i < (ops.length : Int)) → AchI ops.length st (achs sup ops k st ps)
 | [], st, _, hl, ho => ⟨hl, Nat.le_refl _, Nat.le_refl _, ho⟩
 | q :: r, st, hp, hl, ho => by
  have a := h q st (hp q (by simp)).1 (hp q (by simp)).2 hl ho
  have b := achs_of h r (ach sup ops k q st) (fun p hpp => hp p (by simp [hpp])) a.len a.ops
  exact ⟨b.len, Nat.le_trans b.more a.more, Nat.le_trans b.fewer a.fewer, b.ops⟩
theorem ach_ok {sup : List Int} {ops : List Opr} (hn : AchNeed sup ops) : ∀ (k : Nat) (p : Int) (st : List Bool × List Int), 0 ≤ p → p.toNat < sup.length → st.1.length = ops.length → (∀ i ∈ st.2, 0 ≤ i ∧ i < (ops.length : Int)) → AchI ops.length st (ach sup ops k p st)
 | 0, p, st, _, _, hl, ho => ⟨hl, Nat.le_refl _, Nat.le_refl _, ho⟩
 | k + 1, p, st, hp0, hp, hl, ho => by
  by_cases hc : getV sup p < 0 ∨ getB st.1 (getV sup p) = true
  ·rw [ach_skip hc]; exact ⟨hl, Nat.le_refl _, Nat.le_refl _, ho⟩
  ·have h1 := hn.inn p hp0 hp
   have hf : getB st.1 (getV sup p) = false := by
    cases h : getB st.1 (getV sup p) with
    | false => rfl
    | true => exact absurd (.inr h) hc
   have hneg : ¬ getV sup p < 0 := fun e => hc (.inl e)
   have hlt : (getV sup p).toNat < st.1.length := by omega
   have hoff := offs_set st.1 _ (getB_false hlt hf)
   have b := achs_of (ach_ok hn k) (opPre ops (getV sup p)) (st.1.set (getV sup p).toNat true, st.2) (hn.opPre _) (by simp only; rw [List.length_set, hl]) ho
   rw [ach_go hc]
   refine ⟨b.len, ?_, ?_, fun i hi => ?_⟩
   ·have := b.more; simp only [List.length_append, List.length_singleton] at this ⊢; omega
   ·have := b.fewer; simp only at this ⊢; omega
   ·rcases List.mem_append.1 hi with h | h
    ·exact b.ops i h
    ·have : i = getV sup p := by simpa using h
     omega
theorem achs_ok {sup : List Int} {ops : List Opr} (hn : AchNeed sup ops) (k : Nat) : ∀ (ps : List Int) (st : List Bool × List Int), (∀ p ∈ ps, 0 ≤ p ∧ p.toNat < sup.length) → st.1.length = ops.length → (∀ i ∈ st.2, 0 ≤ i ∧ i < (ops.length : Int)) → AchI ops.length st (achs sup ops k st ps) :=
 achs_of (ach_ok hn k)
theorem sup_need {t : Tsk} (ok : t.Ok) (s : List Int) : AchNeed (supV t s) t.ops := by
 obtain ⟨h1, h2⟩ := supV_ok ok s
 have n0 := ok.n0
 refine ⟨fun p _ hp => ?_, fun o ho p hp => by have := (isSet_iff.1 (ok.ops o ho).pre).1 p hp; omega⟩
 unfold getV
 rw [List.getD_eq_getElem?_getD, List.getElem?_eq_getElem hp]
 exact h2 _ (List.getElem_mem _)
theorem offs_falses (n : Nat) : offs (List.replicate n false) = n := by unfold offs; simp
theorem relP_ok {t : Tsk} (ok : t.Ok) (s : List Int) : (relP t s).length ≤ 40 ∧ ∀ i ∈ relP t s, 0 ≤ i ∧ i < (t.ops.length : Int) := by
 have n0 := ok.n0
 have h := achs_ok (sup_need ok s) (t.ops.length + 1) t.goal (List.replicate t.ops.length false, []) (fun p hp => by have := (isSet_iff.1 ok.goal).1 p hp; have := (supV_ok ok s).1; omega) (by simp) (fun i hi => by cases hi)
 have h1 := h.more
 simp only [offs_falses, List.length_nil] at h1
 have := ok.few
 exact ⟨by unfold relP; omega, h.ops⟩

end Go.Proofs.YtdokakhgflljgaaGreat

namespace Go.Proofs.YtdokakhgflljgaaGreat
open Go.RowKit

/-- A function value says of every element of a list whether pr holds. -/
def HasP1 (G : Nat) (x0 : Nat) (pr : Int → Bool) (l : List Int) (w : World) : Prop := ∀ (W : World) (x : Int), Keeps (fun _ => False) w W → x ∈ l → Calls Tryz.prog G #[.int .i64 x, .pointer (some ⟨x0, 0, none⟩)] W fun e W' => e = .returned (.bool (pr x)) ∧ Keeps (fun _ => False) W W'
set_option maxHeartbeats 1000000 in
theorem indexF1_any (G : Nat) (x0 : Nat) (pr : Int → Bool) (hen : ∀ args w, (callFunc G args).run Tryz.prog w = .ok (.enter G args) w) (w : World) (va : Value) (a : List Int) (ha : Ints w va a) (hf : HasP1 G x0 pr a w) :
  Calls Tryz.prog 119 #[va, .func (.func G) #[] #[.pointer (some ⟨x0, 0, none⟩)]] w fun e w' => ∃ k : Int, e = .returned (.int .i64 k) ∧ (decide (0 ≤ k) = a.any pr) ∧ Keeps (fun _ => False) w w' := by
 obtain ⟨ao, ca, hv, ma⟩ := ha.form
 have CA := Lib.hid (ha.cell hv)
 have HF := Lib.hid hf
 subst hv
 clear ha hf
 go_enter Tryz.func119, Tryz.ntmps119
 go_wp2_with fail
 go_loopw [8] (fun i wr => ∃ k : Nat, k ≤ a.length ∧ i = .int .i64 (k : Int) ∧ (a.take k).any pr = false ∧ Keeps (fun _ => False) w wr) (fun i _ => a.length - (intOf i).toNat)
 case atStart => exact ⟨0, Nat.zero_le _, rfl, rfl, Keeps.refl _ _⟩
 case round =>
  obtain ⟨k, hk, rfl, ht, hkw⟩ := hrel
  have HT := Lib.hid ht; clear ht
  have KW := Lib.hid hkw; clear hkw
  by_cases hlt : k < a.length
  ·obtain ⟨ba, oa, rfl, ha'⟩ := CA.out (by omega)
   obtain ⟨x, hx⟩ : ∃ x, a[k]? = some x := ⟨_, List.getElem?_eq_getElem hlt⟩
   have ha1 := KW.out.cell (ha' k _ hx) (fun h => h)
   have HXM := Lib.hid (List.mem_of_getElem? hx)
   have HTK := Lib.hid (show (a.take (k + 1)).any pr = pr x by rw [take_getS hx, List.any_append, HT.out]; simp)
   clear ha' hx
   go_wp2_with fail
   refine (HF.out _ x KW.out HXM.out).mono ?_; rintro e w1 ⟨rfl, hk1⟩
   have KW1 := Lib.hid (KW.out.trans hk1)
   clear hk1
   cases hp : pr x with
   | true =>
    have hf : Hid (a.any pr = true) := by
     unfold Hid
     exact List.any_eq_true.2 ⟨x, HXM.out, hp⟩
    clear hp
    go_wp2_with fail
    go_ret
    exact ⟨_, rfl, by rw [hf.out]; simp, KW1.out⟩
   | false =>
    rw [hp] at HTK
    clear hp
    go_wp2_with fail
    go_roundw
    case rel => exact ⟨k + 1, by omega, by go_num, HTK.out, KW1.out⟩
    case measure => simp [intOf]; omega
  ·have hf : Hid (a.any pr = false) := by
    unfold Hid
    have := HT.out
    rwa [List.take_of_length_le (by omega)] at this
   go_wp2_with fail
   go_ret
   exact ⟨_, rfl, by rw [hf.out]; rfl, KW.out⟩
theorem containsF1_any (G : Nat) (x0 : Nat) (pr : Int → Bool) (hen : ∀ args w, (callFunc G args).run Tryz.prog w = .ok (.enter G args) w) (w : World) (va : Value) (a : List Int) (ha : Ints w va a) (hf : HasP1 G x0 pr a w) :
  Calls Tryz.prog 97 #[va, .func (.func G) #[] #[.pointer (some ⟨x0, 0, none⟩)]] w fun e w' => e = .returned (.bool (a.any pr)) ∧ Keeps (fun _ => False) w w' := by
 have H := Lib.hid (indexF1_any G x0 pr hen w va a ha hf)
 clear ha hf
 generalize a.any pr = r at H ⊢
 go_enter Tryz.func97, Tryz.ntmps97
 go_wp2_with fail
 refine H.out.mono ?_; rintro e w1 ⟨k, rfl, hk, hkw⟩
 have KW := Lib.hid hkw
 have HK := Lib.hid hk
 clear hkw hk
 go_wp2_with fail
 go_ret
 exact ⟨congrArg (fun b => Ending.returned (Value.bool b)) HK.out, KW.out⟩

/-- A function value says of every element of a list whether pr holds. -/
def HasP2 (G : Nat) (x0 x1 : Nat) (pr : Int → Bool) (l : List Int) (w : World) : Prop := ∀ (W : World) (x : Int), Keeps (fun _ => False) w W → x ∈ l → Calls Tryz.prog G #[.int .i64 x, .pointer (some ⟨x0, 0, none⟩), .pointer (some ⟨x1, 0, none⟩)] W fun e W' => e = .returned (.bool (pr x)) ∧ Keeps (fun _ => False) W W'
set_option maxHeartbeats 1000000 in
theorem indexF2_any (G : Nat) (x0 x1 : Nat) (pr : Int → Bool) (hen : ∀ args w, (callFunc G args).run Tryz.prog w = .ok (.enter G args) w) (w : World) (va : Value) (a : List Int) (ha : Ints w va a) (hf : HasP2 G x0 x1 pr a w) :
  Calls Tryz.prog 119 #[va, .func (.func G) #[] #[.pointer (some ⟨x0, 0, none⟩), .pointer (some ⟨x1, 0, none⟩)]] w fun e w' => ∃ k : Int, e = .returned (.int .i64 k) ∧ (decide (0 ≤ k) = a.any pr) ∧ Keeps (fun _ => False) w w' := by
 obtain ⟨ao, ca, hv, ma⟩ := ha.form
 have CA := Lib.hid (ha.cell hv)
 have HF := Lib.hid hf
 subst hv
 clear ha hf
 go_enter Tryz.func119, Tryz.ntmps119
 go_wp2_with fail
 go_loopw [8] (fun i wr => ∃ k : Nat, k ≤ a.length ∧ i = .int .i64 (k : Int) ∧ (a.take k).any pr = false ∧ Keeps (fun _ => False) w wr) (fun i _ => a.length - (intOf i).toNat)
 case atStart => exact ⟨0, Nat.zero_le _, rfl, rfl, Keeps.refl _ _⟩
 case round =>
  obtain ⟨k, hk, rfl, ht, hkw⟩ := hrel
  have HT := Lib.hid ht; clear ht
  have KW := Lib.hid hkw; clear hkw
  by_cases hlt : k < a.length
  ·obtain ⟨ba, oa, rfl, ha'⟩ := CA.out (by omega)
   obtain ⟨x, hx⟩ : ∃ x, a[k]? = some x := ⟨_, List.getElem?_eq_getElem hlt⟩
   have ha1 := KW.out.cell (ha' k _ hx) (fun h => h)
   have HXM := Lib.hid (List.mem_of_getElem? hx)
   have HTK := Lib.hid (show (a.take (k + 1)).any pr = pr x by rw [take_getS hx, List.any_append, HT.out]; simp)
   clear ha' hx
   go_wp2_with fail
   refine (HF.out _ x KW.out HXM.out).mono ?_; rintro e w1 ⟨rfl, hk1⟩
   have KW1 := Lib.hid (KW.out.trans hk1)
   clear hk1
   cases hp : pr x with
   | true =>
    have hf : Hid (a.any pr = true) := by
     unfold Hid
     exact List.any_eq_true.2 ⟨x, HXM.out, hp⟩
    clear hp
    go_wp2_with fail
    go_ret
    exact ⟨_, rfl, by rw [hf.out]; simp, KW1.out⟩
   | false =>
    rw [hp] at HTK
    clear hp
    go_wp2_with fail
    go_roundw
    case rel => exact ⟨k + 1, by omega, by go_num, HTK.out, KW1.out⟩
    case measure => simp [intOf]; omega
  ·have hf : Hid (a.any pr = false) := by
    unfold Hid
    have := HT.out
    rwa [List.take_of_length_le (by omega)] at this
   go_wp2_with fail
   go_ret
   exact ⟨_, rfl, by rw [hf.out]; rfl, KW.out⟩
theorem containsF2_any (G : Nat) (x0 x1 : Nat) (pr : Int → Bool) (hen : ∀ args w, (callFunc G args).run Tryz.prog w = .ok (.enter G args) w) (w : World) (va : Value) (a : List Int) (ha : Ints w va a) (hf : HasP2 G x0 x1 pr a w) :
  Calls Tryz.prog 97 #[va, .func (.func G) #[] #[.pointer (some ⟨x0, 0, none⟩), .pointer (some ⟨x1, 0, none⟩)]] w fun e w' => e = .returned (.bool (a.any pr)) ∧ Keeps (fun _ => False) w w' := by
 have H := Lib.hid (indexF2_any G x0 x1 pr hen w va a ha hf)
 clear ha hf
 generalize a.any pr = r at H ⊢
 go_enter Tryz.func97, Tryz.ntmps97
 go_wp2_with fail
 refine H.out.mono ?_; rintro e w1 ⟨k, rfl, hk, hkw⟩
 have KW := Lib.hid hkw
 have HK := Lib.hid hk
 clear hkw hk
 go_wp2_with fail
 go_ret
 exact ⟨congrArg (fun b => Ending.returned (Value.bool b)) HK.out, KW.out⟩

end Go.Proofs.YtdokakhgflljgaaGreat

namespace Go.Proofs.YtdokakhgflljgaaGreat
open Go.RowKit Go.Shelf

theorem IArr.get {W : World} {g : Nat} {v : List Int} (h : IArr W g v) {j : Nat} (hj : j < v.length) : W.cell? ⟨g, j, none⟩ = some (.int .i64 (getV v (j : Int))) := h.cell (getV_at hj)

set_option maxRecDepth 100000 in
set_option maxHeartbeats 2000000 in
theorem lev1_any (W : World) (b5 b9 g n : Nat) (v : List Int) (k x : Int) (h5 : W.cell? ⟨b5, 0, none⟩ = some (.slice (some ⟨g, 0, none⟩) n n)) (h9 : W.cell? ⟨b9, 0, none⟩ = some (.int .i64 k)) (hv : IArr W g v) (hl : v.length = n) (hx : 0 ≤ x ∧ x < (n : Int)) :
  Calls Tryz.prog 118 #[.int .i64 x, .pointer (some ⟨b5, 0, none⟩), .pointer (some ⟨b9, 0, none⟩)] W fun e W' => e = .returned (.bool (decide (getV v x < 0 ∨ k ≤ getV v x))) ∧ Keeps (fun _ => False) W W' := by
 obtain ⟨j, rfl⟩ := Int.eq_ofNat_of_zero_le hx.1
 have hg := hv.get (j := j) (by omega)
 have hgl := hv.lt
 have hb5 : b5 < W.heap.size := World.block_lt_of_cell? W _ h5
 have hb9 : b9 < W.heap.size := World.block_lt_of_cell? W _ h9
 have hxn := hx.2
 clear hv hx
 generalize getV v (j : Int) = y at hg ⊢
 go_enter Tryz.func118, Tryz.ntmps118
 by_cases h0 : y < 0
 ·have hd : decide (y < 0) = true := by simpa using h0
  have HR := Lib.hid (show decide (y < 0 ∨ k ≤ y) = true by simp [h0])
  clear h0
  go_wp2_with fail
  go_quiet (fail)
  go_wp2_with fail
  go_ret
  exact ⟨congrArg (fun b => Ending.returned (Value.bool b)) HR.out.symm, (Keeps.refl _ _).drewN _⟩
 ·have hd : decide (y < 0) = false := by simpa using h0
  have HR := Lib.hid (show decide (y < 0 ∨ k ≤ y) = decide (k ≤ y) by simp [h0])
  clear h0
  go_wp2_with fail
  go_quiet (fail)
  go_wp2_with fail
  go_ret
  exact ⟨congrArg (fun b => Ending.returned (Value.bool b)) HR.out.symm, (Keeps.refl _ _).drewN _⟩

section
variable (w3 : World) (g n : Nat)
def ArrAt (v : List Int) (wr : World) : Prop := IArr wr g v ∧ Keeps (fun b => b = g) w3 wr
/-- At a level: its box, and the levels so far. -/
def LevAt (ops : List Opr) (v0 : List Int) (m : Nat) (v9 : Value) (wr : World) : Prop :=
 ∃ k b9 : Nat, k + m = n ∧ v9 = .pointer (some ⟨b9, 0, none⟩) ∧ w3.heap.size ≤ b9 ∧ wr.heap[b9]? = some (.cells #[.int .i64 ((k : Int) + 1)] 3 (0, 0)) ∧ ArrAt w3 g (levTo ops v0 k) wr
end

set_option maxRecDepth 100000 in
set_option maxHeartbeats 8000000 in
theorem levels_any (w : World) (vi vg vo vs : Value) (t : Tsk) (s : List Int) (h : TaskAt w vi vg vo t) (ok : t.Ok) (hs : Ints w vs s) (hsb : ∀ p ∈ s, 0 ≤ p ∧ p < t.n) :
  Calls Tryz.prog 95 #[.agg #[.int .i64 t.n, vi, vg, vo], vs] w fun e w' => ∃ g, e = .returned (.slice (some ⟨g, 0, none⟩) t.n.toNat t.n.toNat) ∧ IArr w' g (levelsV t s) ∧ w.heap.size ≤ g ∧ Keeps (fun _ => False) w w' := by
 obtain ⟨ai, ci, h1, _⟩ := h.init.form
 obtain ⟨ag, cg, h2, _⟩ := h.goal.form
 obtain ⟨ao, co, h3, hmo⟩ := h.ops.form
 obtain ⟨a4, cs, h4, hms⟩ := hs.form
 subst h1 h2 h3 h4
 have hn0 : 0 ≤ t.n ∧ t.n ≤ 24 := ⟨by have := ok.n0; omega, ok.n1⟩
 obtain ⟨n, hn⟩ : ∃ n : Nat, t.n = (n : Int) := ⟨t.n.toNat, by omega⟩
 have HNT := Lib.hid (show t.n.toNat = n by omega)
 have hn24 : n ≤ 24 := by omega
 have HN := Lib.hid hn; clear hn
 have K1 := (Keeps.refl (fun _ => False) w).alloc (.cells #[.int .i64 t.n, .slice ai t.init.length ci, .slice ag t.goal.length cg, .slice ao t.ops.length co] 25)
 have HB := Lib.hid (Four.new w (.int .i64 t.n) (.slice ai t.init.length ci) (.slice ag t.goal.length cg) (.slice ao t.ops.length co) 25)
 have HT := Lib.hid (h.keeps0 K1); have HS := Lib.hid (hs.keeps0 K1); have HK1 := Lib.hid K1; have OK := Lib.hid ok; have HSB := Lib.hid hsb
 have HPRE := Lib.hid (show ∀ o ∈ t.ops, ∀ p ∈ o.pre, 0 ≤ p ∧ p < (n : Int) from fun o ho => by have := (isSet_iff.1 (ok.ops o ho).pre).1; rw [HN.out] at this; exact this)
 have HADD := Lib.hid (show ∀ o ∈ t.ops, ∀ p ∈ o.add, 0 ≤ p ∧ p < (n : Int) from fun o ho => by have := (isSet_iff.1 (ok.ops o ho).add).1; rw [HN.out] at this; exact this)
 have hen := enters_of (P := Tryz.prog) Tryz.func118 (by kernel_rfl) rfl
 have HEN := Lib.hid hen
 clear h ok hs hsb K1 hen
 go_enter Tryz.func95, Tryz.ntmps95
 go_upto_region 1 with fail
 generalize (w.alloc (.cells #[.int .i64 t.n, .slice ai t.init.length ci, .slice ag t.goal.length cg, .slice ao t.ops.length co] 25)) = w1 at HT HB HK1 HS ⊢
 obtain ⟨d0, d1, d2, d3⟩ := HB.out
 have hbx := HB.out.lt
 have hmk := run_make_ints w1 t.n n HN.out (by omega)
 go_upto_region 2 with fail
 have KM := ((Keeps.refl (fun _ => False) w1).alloc (.cells (Array.replicate n (Value.int .i64 0)) 3))
 have KM2 := (Keeps.refl (fun _ => False) (w1.alloc (.cells (Array.replicate n (Value.int .i64 0)) 3))).alloc (.cells #[.slice (some ⟨w1.heap.size, 0, none⟩) n n] 22)
 have HA := Lib.hid ((IArr.zeros w1 n).keeps KM2 (fun h => h))
 have h5 := heap_alloc_new (w1.alloc (.cells (Array.replicate n (Value.int .i64 0)) 3)) (.cells #[.slice (some ⟨w1.heap.size, 0, none⟩) n n] 22)
 rw [World.size_alloc] at h5
 have HKM := Lib.hid (KM.trans KM2)
 obtain ⟨g, hg⟩ : ∃ g, w1.heap.size = g := ⟨_, rfl⟩
 have HG := Lib.hid hg
 rw [hg] at HA h5 HKM ⊢
 have H5 := Lib.hid h5
 have hgw : w.heap.size < g := by omega
 have HGW := Lib.hid hgw
 clear d0 d1 d2 d3 hbx hmk KM KM2 h5 hgw
 generalize (w1.alloc (.cells (Array.replicate n (Value.int .i64 0)) 3)).alloc (.cells #[.slice (some ⟨g, 0, none⟩) n n] 22) = w3 at HA H5 HKM ⊢
 have HKW : ∀ wq : World, Keeps (fun b => b = g) w3 wq → Keeps (fun _ => False) w1 wq := fun wq hk => HKM.out.trans' hk (fun i hi => .inr (by have := HG.out; omega))
 replace HKW := Lib.hid HKW
 have HC5 : ∀ wq : World, Keeps (fun b => b = g) w3 wq → wq.cell? ⟨g + 1, 0, none⟩ = some (.slice (some ⟨g, 0, none⟩) n n) := fun wq hk => (cell_of_blk (hk.heap H5.out (by omega))).trans rfl
 replace HC5 := Lib.hid HC5
 clear hg
 have c5 := HC5.out w3 (Keeps.refl _ _)
 have hl5 := lt_of_heap H5.out
 go_wp2_with fail
 clear c5 hl5
 go_loopw [19] (fun v19 wr => ∃ k : Nat, v19 = .int .i64 (k : Int) ∧ k ≤ n ∧ Keeps (fun b => b = g) w3 wr ∧ ∃ l : List Int, l.length = n ∧ (∀ j, j < k → l[j]? = some (-1)) ∧ IArr wr g l) (fun v19 _ => n - (intOf v19).toNat)
 case atStart => exact ⟨0, rfl, Nat.zero_le _, Keeps.refl _ _, _, List.length_replicate, fun j hj => absurd hj (by omega), HA.out⟩
 case round =>
  obtain ⟨k, rfl, hk, hkr, l, hl, hlj, hla⟩ := hrel
  have hc5 := HC5.out wr hkr
  have hb5 : g + 1 < wr.heap.size := World.block_lt_of_cell? wr _ hc5
  by_cases hlt : k < n
  ·have hnk : (k : Int) < (n : Int) := by omega
   obtain ⟨x, hx⟩ : ∃ x, l[k]? = some x := ⟨_, List.getElem?_eq_getElem (by omega)⟩
   have hc := hla.cell hx
   have hf := hla.frozen k
   have hlt' := hla.lt
   have HN1 := Lib.hid (show Keeps (fun b => b = g) w3 (wr.setCell ⟨g, k, none⟩ (.int .i64 (-1))) ∧ ∃ l' : List Int, l'.length = n ∧ (∀ j, j < k + 1 → l'[j]? = some (-1)) ∧ IArr (wr.setCell ⟨g, k, none⟩ (.int .i64 (-1))) g l' from
    ⟨hkr.trans (keeps_set _ _ _ _), l.set k (-1), by rw [List.length_set]; exact hl, fun j hj => by
     rw [List.getElem?_set]
     split
     ·rw [if_pos (by omega)]
     ·exact hlj j (by omega), hla.set k _⟩)
   clear hkr hl hlj hla hx
   go_wp2_with fail
   go_roundw
   case rel => exact ⟨k + 1, by go_num, by omega, HN1.out⟩
   case measure => simp [intOf]; omega
  ·have HV := Lib.hid (show IArr wr g (List.replicate n (-1)) by
    have e : l = List.replicate n (-1) := List.eq_replicate_iff.2 ⟨hl, fun b hb => by
     obtain ⟨j, hj⟩ := List.mem_iff_getElem?.1 hb
     have h1 := hlj j (by have := (List.getElem?_eq_some_iff.1 hj).1; omega)
     rw [h1] at hj; cases hj; rfl⟩
    rw [← e]; exact hla)
   have HKR := Lib.hid hkr
   have HLE := Lib.hid (show lev0 t.n s = zeroV (List.replicate n (-1)) s by unfold lev0; rw [HNT.out])
   clear hkr hl hlj hla hc5 hb5
   go_wp2_with fail
   go_loopw [28] (fun v28 wr => ∃ k : Nat, v28 = .int .i64 (k : Int) ∧ k ≤ s.length ∧ Keeps (fun b => b = g) w3 wr ∧ IArr wr g (zeroV (List.replicate n (-1)) (s.take k))) (fun v28 _ => s.length - (intOf v28).toNat)
   case atStart => exact ⟨0, rfl, Nat.zero_le _, HKR.out, HV.out⟩
   case round =>
    obtain ⟨k2, rfl, hk2, hkq, hza⟩ := hrel
    have HKW1 := Lib.hid (HKW.out wr hkq)
    by_cases hls : k2 < s.length
    ·have hc5 := HC5.out wr hkq
     have hb5 : g + 1 < wr.heap.size := World.block_lt_of_cell? wr _ hc5
     obtain ⟨bs, ofs, rfl, hcs⟩ := (HS.out.keeps0 HKW1.out).cell rfl (by omega)
     obtain ⟨p, hp⟩ : ∃ p, s[k2]? = some p := ⟨_, List.getElem?_eq_getElem hls⟩
     have hc1 := hcs k2 p hp
     have hpb := HSB.out p (List.mem_of_getElem? hp)
     obtain ⟨j, rfl⟩ := Int.eq_ofNat_of_zero_le hpb.1
     have hjn : (j : Int) < (n : Int) := by have := HN.out; omega
     have hzl : (zeroV (List.replicate n (-1)) (s.take k2)).length = n := (zeroV_lev (n := n) (m := 0) (s.take k2) (List.replicate n (-1)) ⟨List.length_replicate, fun y hy => by rw [(List.mem_replicate.1 hy).2]; omega⟩).1
     have hg2 := hza.get (j := j) (by rw [hzl]; omega)
     have hf := hza.frozen j
     have hlt' := hza.lt
     have HN2 := Lib.hid (show Keeps (fun b => b = g) w3 (wr.setCell ⟨g, j, none⟩ (.int .i64 0)) ∧ IArr (wr.setCell ⟨g, j, none⟩ (.int .i64 0)) g (zeroV (List.replicate n (-1)) (s.take (k2 + 1))) from
      ⟨hkq.trans (keeps_set _ _ _ _), by rw [take_getS hp, zeroV_snoc, Int.toNat_natCast]; exact hza.set j 0⟩)
     generalize getV (zeroV (List.replicate n (-1)) (s.take k2)) (j : Int) = y at hg2
     clear hkq hza hcs hp hpb hzl
     go_wp2_with fail
     go_roundw
     case rel => exact ⟨k2 + 1, by go_num, by omega, HN2.out⟩
     case measure => simp [intOf]; omega
    ·rw [List.take_of_length_le (by omega), ← HLE.out] at hza
     have HZA := Lib.hid hza; have HKQ := Lib.hid hkq
     have HL0 := Lib.hid (show LevI n n (lev0 t.n s) by have h := lev0_ok t.n s n; rw [HNT.out] at h; exact h)
     have HLV := Lib.hid (show levelsV t s = levTo t.ops (lev0 t.n s) n by unfold levelsV; rw [HNT.out])
     generalize lev0 t.n s = v0 at HZA HL0 HLV
     have KA := (Keeps.refl (fun _ => False) wr).alloc (.cells #[.int .i64 1] 3)
     have HLA := Lib.hid (show LevAt w3 g n t.ops v0 n (.pointer (some ⟨wr.heap.size, 0, none⟩)) (wr.alloc (.cells #[.int .i64 1] 3)) from
      ⟨0, wr.heap.size, by omega, rfl, HKQ.out.size, heap_alloc_new wr _, HZA.out.keeps KA (fun h => h), HKQ.out.trans (KA.mono (fun _ _ h => h.elim))⟩)
     have HG3 := Lib.hid (show g < w3.heap.size by have := lt_of_heap H5.out; omega)
     clear hza hkq KA HZA HKQ
     go_wp2_with fail
     go_loopg [9] n (fun m v9 wr' => LevAt w3 g n t.ops v0 m v9 wr')
     case atStart => exact HLA.out
     case round =>
      obtain ⟨k, b9, hkm, rfl, hb9, h9, hva, hkv⟩ := hrel
      have HKV := Lib.hid hkv; have HVA := Lib.hid hva; have H9 := Lib.hid h9; have HKM9 := Lib.hid hkm
      have KW := Lib.hid (HKW.out wr hkv)
      have c9 : wr.cell? ⟨b9, 0, none⟩ = some (.int .i64 ((k : Int) + 1)) := (cell_of_blk h9).trans rfl
      have l9 := lt_of_heap h9
      obtain ⟨d0, d1, d2, d3⟩ := (HB.out.keeps0 KW.out)
      have hbx : w.heap.size < wr.heap.size := World.block_lt_of_cell? wr _ d0
      have HB9 := Lib.hid (show ¬ b9 = g from fun e => by have := HG3.out; omega)
      have HB93 := Lib.hid hb9
      have hnn : t.n = (n : Int) := HN.out
      clear hkv hva h9 hb9
      by_cases hlt : k < n
      ·have hd : decide ((k : Int) + 1 ≤ t.n) = true := by simp; omega
       have hk24 : (k : Int) + 1 ≤ 24 := by omega
       clear hnn
       go_wp2_with fail
       clear d0 d1 d2 d3 hbx c9 l9 hd
       have HLI := Lib.hid (show LevI n n (levTo t.ops v0 k) from levTo_ok t.ops HL0.out k (by omega))
       have HNK := Lib.hid (show levTo t.ops v0 (k + 1) = levR ((k : Int) + 1) t.ops (levTo t.ops v0 k) by rw [levTo]; rfl)
       generalize levTo t.ops v0 k = vk at HVA HLI HNK
       generalize hw7 : wr = w7 at HKV HVA H9 KW ⊢
       clear hw7
       go_loopw [45] (fun v45 wr' => ∃ j : Nat, v45 = .int .i64 (j : Int) ∧ j ≤ t.ops.length ∧ ArrAt w7 g (levR ((k : Int) + 1) (t.ops.take j) vk) wr') (fun v45 _ => t.ops.length - (intOf v45).toNat)
       case atStart => exact ⟨0, rfl, Nat.zero_le _, HVA.out, Keeps.refl _ _⟩
       case round =>
        obtain ⟨j, rfl, hj, hva, hkv⟩ := hrel
        have HVJ := Lib.hid hva; have HKJ := Lib.hid hkv
        clear hva hkv
        by_cases hjl : j < t.ops.length
        ·have KW2 := Lib.hid (HKW.out wr (HKV.out.trans HKJ.out))
         obtain ⟨bo, oo, rfl, hcell⟩ := HT.out.ops.cell rfl (by omega)
         obtain ⟨o, ho⟩ : ∃ o, t.ops[j]? = some o := ⟨_, List.getElem?_eq_getElem hjl⟩
         obtain ⟨va, vb, vd, p0', p1', p2', p3', i1, i2, i3⟩ := hcell j o ho
         have p0 := KW2.out.cell p0' (fun h => h); have p1 := KW2.out.cell p1' (fun h => h); have p2 := KW2.out.cell p2' (fun h => h); have p3 := KW2.out.cell p3' (fun h => h)
         clear p0' p1' p2' p3'
         obtain ⟨a1, k1, f1, _⟩ := i1.form
         obtain ⟨a2, k3, f2, _⟩ := i2.form
         obtain ⟨a3, k4, f3, _⟩ := i3.form
         subst f1 f2 f3
         have I1 := Lib.hid i1; have I2 := Lib.hid i2
         have HPO := Lib.hid (HPRE.out o (List.mem_of_getElem? ho)); have HAO := Lib.hid (HADD.out o (List.mem_of_getElem? ho))
         have HNX := Lib.hid (show levR ((k : Int) + 1) (t.ops.take (j + 1)) vk = levOp ((k : Int) + 1) o (levR ((k : Int) + 1) (t.ops.take j) vk) by rw [take_getS ho, levR_snoc])
         have HLJ := Lib.hid (show LevI n n (levR ((k : Int) + 1) (t.ops.take j) vk) from levR_ok (by omega) _ _ HLI.out)
         have K4 := (Keeps.refl (fun _ => False) wr).alloc (.cells #[.slice a1 o.pre.length k1, .slice a2 o.add.length k3, .slice a3 o.del.length k4, .int .i64 o.cost] 80)
         have HO4 := Lib.hid (Four.new wr (.slice a1 o.pre.length k1) (.slice a2 o.add.length k3) (.slice a3 o.del.length k4) (.int .i64 o.cost) 80)
         have HVJ4 := Lib.hid (HVJ.out.keeps K4 (fun h => h)); have HKJ4 := Lib.hid (HKJ.out.trans (K4.mono (fun _ _ h => h.elim))); have KW4 := Lib.hid (KW2.out.trans K4)
         clear hcell ho i1 i2 i3 K4 HVJ HKJ KW2
         go_upto_region 18 with fail
         generalize hw4 : (wr.alloc (.cells #[.slice a1 o.pre.length k1, .slice a2 o.add.length k3, .slice a3 o.del.length k4, .int .i64 o.cost] 80)) = w4 at HVJ4 HKJ4 HO4 KW4 ⊢
         clear p0 p1 p2 p3 hw4
         obtain ⟨b4, hb4⟩ : ∃ b4, wr.heap.size = b4 := ⟨_, rfl⟩
         rw [hb4] at HO4 ⊢
         clear hb4
         generalize levR ((k : Int) + 1) (t.ops.take j) vk = vj at HVJ4 HNX HLJ ⊢
         have HC54 := Lib.hid (HC5.out w4 (HKV.out.trans HKJ4.out))
         have H94 := Lib.hid (HKJ4.out.heap H9.out HB9.out)
         obtain ⟨q0, q1, q2, q3⟩ := HO4.out
         have hq4 := HO4.out.lt
         go_wp2_with fail
         refine (containsF2_any 118 (g + 1) b9 (fun p => decide (getV vj p < 0 ∨ ((k : Int) + 1) ≤ getV vj p)) HEN.out w4 _ o.pre (I1.out.keeps0 KW4.out) (fun W x hk hx => lev1_any W (g + 1) b9 g n vj ((k : Int) + 1) x (hk.cell HC54.out (fun h => h)) (hk.cell ((cell_of_blk H94.out).trans rfl) (fun h => h)) (HVJ4.out.keeps hk (fun h => h)) HLJ.out.1 (HPO.out x hx))).mono ?_
         rintro e w5 ⟨rfl, hk5⟩
         have HVJ5 := Lib.hid (HVJ4.out.keeps hk5 (fun h => h)); have HKJ5 := Lib.hid (HKJ4.out.trans (hk5.mono (fun _ _ h => h.elim))); have HO5 := Lib.hid (HO4.out.keeps0 hk5)
         have HBAD := Lib.hid (show (o.pre.any fun p => decide (getV vj p < 0 ∨ ((k : Int) + 1) ≤ getV vj p)) = levBad ((k : Int) + 1) vj o.pre from rfl)
         rw [HBAD.out]
         clear hk5 HVJ4 HKJ4 HO4 q0 q1 q2 q3 hq4 HC54 H94
         cases hb : levBad ((k : Int) + 1) vj o.pre with
         | true =>
          have HNE := Lib.hid (show levR ((k : Int) + 1) (t.ops.take (j + 1)) vk = vj by rw [HNX.out]; unfold levOp; rw [if_pos hb])
          clear hb
          go_wp2_with fail
          go_roundw
          case rel => exact ⟨j + 1, by go_num, by omega, by rw [HNE.out]; exact HVJ5.out, HKJ5.out⟩
          case measure => simp [intOf]; omega
         | false =>
          have HNE := Lib.hid (show levR ((k : Int) + 1) (t.ops.take (j + 1)) vk = levAdd ((k : Int) + 1) vj o.add by rw [HNX.out]; unfold levOp; rw [hb]; rfl)
          obtain ⟨q0, q1, q2, q3⟩ := HO5.out
          have hq5 := HO5.out.lt
          clear hb
          go_wp2_with fail
          clear q0 q1 q2 q3 hq5
          go_loopw [56] (fun v56 wr' => ∃ i : Nat, v56 = .int .i64 (i : Int) ∧ i ≤ o.add.length ∧ ArrAt w7 g (levAdd ((k : Int) + 1) vj (o.add.take i)) wr') (fun v56 _ => o.add.length - (intOf v56).toNat)
          case atStart => exact ⟨0, rfl, Nat.zero_le _, HVJ5.out, HKJ5.out⟩
          case round =>
           obtain ⟨i, rfl, hi, hva, hkv⟩ := hrel
           by_cases hil : i < o.add.length
           ·have KW6 := Lib.hid (HKW.out wr (HKV.out.trans hkv))
            have hc5 := HC5.out wr (HKV.out.trans hkv)
            have hl5 : g + 1 < wr.heap.size := World.block_lt_of_cell? wr _ hc5
            have h9r := hkv.heap H9.out HB9.out
            have c9 : wr.cell? ⟨b9, 0, none⟩ = some (.int .i64 ((k : Int) + 1)) := (cell_of_blk h9r).trans rfl
            have l9 := lt_of_heap h9r
            obtain ⟨b2, o2, rfl, hca⟩ := (I2.out.keeps0 KW6.out).cell rfl (by omega)
            obtain ⟨p, hp⟩ : ∃ p, o.add[i]? = some p := ⟨_, List.getElem?_eq_getElem hil⟩
            have hpb := HAO.out p (List.mem_of_getElem? hp)
            obtain ⟨p, rfl⟩ := Int.eq_ofNat_of_zero_le hpb.1
            have hc2 := hca i _ hp
            have hpi : (p : Int) < (n : Int) := by omega
            have HTK := Lib.hid (show levAdd ((k : Int) + 1) vj (o.add.take (i + 1)) = if getV (levAdd ((k : Int) + 1) vj (o.add.take i)) (p : Int) < 0 then (levAdd ((k : Int) + 1) vj (o.add.take i)).set p ((k : Int) + 1) else levAdd ((k : Int) + 1) vj (o.add.take i) by rw [take_getS hp, levAdd_snoc, Int.toNat_natCast])
            have hlen : (levAdd ((k : Int) + 1) vj (o.add.take i)).length = n := (levAdd_ok (by omega) (o.add.take i) vj HLJ.out).1
            generalize levAdd ((k : Int) + 1) vj (o.add.take i) = vi at hva HTK hlen
            have hg2 := hva.get (j := p) (by omega)
            have hgf := hva.frozen p
            have hgl := hva.lt
            have HVI := Lib.hid hva; have HKI := Lib.hid hkv
            clear hca hp hpb hlen hva hkv h9r
            by_cases hneg : getV vi (p : Int) < 0
            ·have hd : decide (getV vi (p : Int) < 0) = true := by simpa using hneg
             have HN := Lib.hid (show levAdd ((k : Int) + 1) vj (o.add.take (i + 1)) = vi.set p ((k : Int) + 1) by rw [HTK.out, if_pos hneg])
             clear hneg
             generalize getV vi (p : Int) = y at hg2 hd
             go_wp2_with fail
             go_roundw
             case rel => exact ⟨i + 1, by go_num, by omega, by rw [HN.out]; exact HVI.out.set p _, HKI.out.trans (keeps_set _ _ _ _)⟩
             case measure => simp [intOf]; omega
            ·have hd : decide (getV vi (p : Int) < 0) = false := by simpa using hneg
             have HN := Lib.hid (show levAdd ((k : Int) + 1) vj (o.add.take (i + 1)) = vi by rw [HTK.out, if_neg hneg])
             clear hneg
             generalize getV vi (p : Int) = y at hg2 hd
             go_wp2_with fail
             go_roundw
             case rel => exact ⟨i + 1, by go_num, by omega, by rw [HN.out]; exact HVI.out, HKI.out⟩
             case measure => simp [intOf]; omega
           ·rw [List.take_of_length_le (by omega), ← HNE.out] at hva
            have HVI := Lib.hid hva; have HKI := Lib.hid hkv
            clear hva hkv
            go_wp2_with fail
            go_roundw
            case rel => exact ⟨j + 1, by go_num, by omega, HVI.out, HKI.out⟩
            case measure => simp [intOf]; omega
        ·rw [List.take_of_length_le (by omega), ← HNK.out] at HVJ
         have h9r := HKJ.out.heap H9.out HB9.out
         have c9 : wr.cell? ⟨b9, 0, none⟩ = some (.int .i64 ((k : Int) + 1)) := (cell_of_blk h9r).trans rfl
         have l9 := lt_of_heap h9r
         obtain ⟨m, hm⟩ : ∃ m, n = k + 1 + m := ⟨n - (k + 1), by omega⟩
         have KA := (Keeps.refl (fun _ => False) wr).alloc (.cells #[.int .i64 ((k : Int) + 1 + 1)] 3)
         have HNEW := Lib.hid (show LevAt w3 g n t.ops v0 m (.pointer (some ⟨wr.heap.size, 0, none⟩)) (wr.alloc (.cells #[.int .i64 ((k : Int) + 1 + 1)] 3)) from
          ⟨k + 1, wr.heap.size, by omega, rfl, by have := HKV.out.size; have := HKJ.out.size; omega, by have h := heap_alloc_new wr (.cells #[.int .i64 ((k : Int) + 1 + 1)] 3); rw [show (((k + 1 : Nat) : Int) + 1) = (k : Int) + 1 + 1 by omega]; exact h, HVJ.out.keeps KA (fun h => h), (HKV.out.trans HKJ.out).trans (KA.mono (fun _ _ h => h.elim))⟩)
         clear h9r KA
         go_wp2_with fail
         go_roundg m
         case rel => exact HNEW.out
         case measure => have := HKM9.out; omega
      ·have hkn : k = n := by omega
       have hd : decide ((k : Int) + 1 ≤ t.n) = false := by simp; omega
       have HVV := Lib.hid (show IArr wr g (levelsV t s) by rw [HLV.out, ← hkn]; exact HVA.out)
       have hc5 := HC5.out wr HKV.out
       have hl5 : g + 1 < wr.heap.size := World.block_lt_of_cell? wr _ hc5
       have hd2 : ¬ ((k : Int) + 1 ≤ t.n) := by omega
       have hd3 : decide ((k : Int) < t.n) = false := by simp; omega
       clear hnn
       go_wp2_with fail
       go_ret
       exact ⟨g, by rw [HNT.out]; rfl, HVV.out, by have := HGW.out; omega, HK1.out.trans KW.out⟩

end Go.Proofs.YtdokakhgflljgaaGreat

namespace Go.Proofs.YtdokakhgflljgaaGreat
open Go.RowKit Go.Shelf

theorem supPre_ok {t : Tsk} (ok : t.Ok) (s : List Int) {ps : List Int} (hp : isSetB ps t.n = true) (k : Nat) : -24 ≤ (supPre t.n (levelsV t s) (ps.take k)).1 ∧ (supPre t.n (levelsV t s) (ps.take k)).1 ≤ 576 ∧ -1 ≤ (supPre t.n (levelsV t s) (ps.take k)).2 ∧ (supPre t.n (levelsV t s) (ps.take k)).2 ≤ t.n := by
 have n0 := ok.n0; have n1 := ok.n1
 have hl : ((ps.take k).length : Int) ≤ 24 := by
  have h1 : (ps.take k).length ≤ ps.length := by rw [List.length_take]; omega
  rcases setFrom_length hp with h | h
  ·rw [h] at h1; simp at h1; rw [h]; simp
  ·omega
 have h := supPre_low (levelsV_ok t s) n0 (by omega) (ps.take k) (fun p hpp => (isSet_iff.1 hp).1 p (List.mem_of_mem_take hpp)) (0, -1) (by simp only; omega)
 have hm : t.n * ((ps.take k).length : Int) ≤ 24 * 24 := Int.mul_le_mul n1 hl (by omega) (by decide)
 unfold supPre
 have h1 := h.1; have h2 := h.2.1
 simp only at h1 h2
 exact ⟨by omega, by omega, h.2.2⟩

section
variable (w3 : World) (g1 g2 : Nat)
/-- The supporters and their sums in memory. -/
def SupAt (st : List Int × List Int) (wr : World) : Prop := IArr wr g1 st.1 ∧ IArr wr g2 st.2 ∧ Keeps (fun b => b = g1 ∨ b = g2) w3 wr
end

set_option maxRecDepth 100000 in
set_option maxHeartbeats 8000000 in
theorem supporters_any (w : World) (vi vg vo vs : Value) (t : Tsk) (s : List Int) (h : TaskAt w vi vg vo t) (ok : t.Ok) (hs : Ints w vs s) (hsb : ∀ p ∈ s, 0 ≤ p ∧ p < t.n) :
  Calls Tryz.prog 96 #[.agg #[.int .i64 t.n, vi, vg, vo], vs] w fun e w' => ∃ g, e = .returned (.slice (some ⟨g, 0, none⟩) t.n.toNat t.n.toNat) ∧ IArr w' g (supV t s) ∧ w.heap.size ≤ g ∧ Keeps (fun _ => False) w w' := by
 obtain ⟨ai, ci, h1, _⟩ := h.init.form
 obtain ⟨ag, cg, h2, _⟩ := h.goal.form
 obtain ⟨ao, co, h3, hmo⟩ := h.ops.form
 subst h1 h2 h3
 have hn0 : 0 ≤ t.n ∧ t.n ≤ 24 := ⟨by have := ok.n0; omega, ok.n1⟩
 obtain ⟨n, hn⟩ : ∃ n : Nat, t.n = (n : Int) := ⟨t.n.toNat, by omega⟩
 have HNT := Lib.hid (show t.n.toNat = n by omega)
 have hn24 : n ≤ 24 := by omega
 have HN := Lib.hid hn; clear hn
 have K1 := (Keeps.refl (fun _ => False) w).alloc (.cells #[.int .i64 t.n, .slice ai t.init.length ci, .slice ag t.goal.length cg, .slice ao t.ops.length co] 25)
 have HB := Lib.hid (Four.new w (.int .i64 t.n) (.slice ai t.init.length ci) (.slice ag t.goal.length cg) (.slice ao t.ops.length co) 25)
 have HT := Lib.hid (h.keeps0 K1); have HS := Lib.hid (hs.keeps0 K1); have HK1 := Lib.hid K1; have OK := Lib.hid ok; have HSB := Lib.hid hsb
 have HPRE := Lib.hid (show ∀ o ∈ t.ops, ∀ p ∈ o.pre, 0 ≤ p ∧ p < (n : Int) from fun o ho => by have := (isSet_iff.1 (ok.ops o ho).pre).1; rw [HN.out] at this; exact this)
 have HADD := Lib.hid (show ∀ o ∈ t.ops, ∀ p ∈ o.add, 0 ≤ p ∧ p < (n : Int) from fun o ho => by have := (isSet_iff.1 (ok.ops o ho).add).1; rw [HN.out] at this; exact this)
 have hop40 : t.ops.length ≤ 40 := ok.few
 clear h ok hs hsb K1
 go_enter Tryz.func96, Tryz.ntmps96
 go_upto_region 1 with fail
 generalize (w.alloc (.cells #[.int .i64 t.n, .slice ai t.init.length ci, .slice ag t.goal.length cg, .slice ao t.ops.length co] 25)) = w1 at HT HB HK1 HS ⊢
 obtain ⟨d0, d1, d2, d3⟩ := HB.out
 have hbx := HB.out.lt
 go_wp2_with fail
 refine (levels_any _ _ _ _ _ t s HT.out OK.out HS.out HSB.out).mono ?_; rintro e w2 ⟨g0, rfl, hia, hgl, hk2⟩
 rw [HNT.out]
 have HLV := Lib.hid hia; have HK2 := Lib.hid (HK1.out.trans hk2)
 have HB2 := Lib.hid (HB.out.keeps0 hk2); have HT2 := Lib.hid (HT.out.keeps0 hk2)
 clear d0 d1 d2 d3 hbx hia hgl hk2
 obtain ⟨d0, d1, d2, d3⟩ := HB2.out
 have hbx := HB2.out.lt
 have hmk := run_make_ints w2 t.n n HN.out (by omega)
 go_upto_region 3 with fail
 have KM := (Keeps.refl (fun _ => False) w2).alloc (.cells (Array.replicate n (Value.int .i64 0)) 3)
 have HA1 := Lib.hid (IArr.zeros w2 n)
 have hg0 : g0 < w2.heap.size := HLV.out.lt
 have HKM := Lib.hid KM
 obtain ⟨g1, hg1⟩ : ∃ g, w2.heap.size = g := ⟨_, rfl⟩
 have HG1 := Lib.hid hg1
 rw [hg1] at HA1 hg0 ⊢
 generalize (w2.alloc (.cells (Array.replicate n (Value.int .i64 0)) 3)) = w3 at HA1 HKM ⊢
 clear d0 d1 d2 d3 hbx hmk KM hg1
 obtain ⟨d0, d1, d2, d3⟩ := (HB2.out.keeps0 HKM.out)
 have hbx := (HB2.out.keeps0 HKM.out).lt
 have hmk := run_make_ints w3 t.n n HN.out (by omega)
 go_upto_region 4 with fail
 have KM := (Keeps.refl (fun _ => False) w3).alloc (.cells (Array.replicate n (Value.int .i64 0)) 3)
 have HA2 := Lib.hid (IArr.zeros w3 n)
 have HA1' := Lib.hid (HA1.out.keeps KM (fun h => h))
 have hg1 : g1 < w3.heap.size := HA1.out.lt
 have HKM2 := Lib.hid (HKM.out.trans KM)
 obtain ⟨g2, hg2⟩ : ∃ g, w3.heap.size = g := ⟨_, rfl⟩
 rw [hg2] at HA2 hg1 ⊢
 generalize (w3.alloc (.cells (Array.replicate n (Value.int .i64 0)) 3)) = w4 at HA1' HA2 HKM2 ⊢
 have HGN := Lib.hid (show g1 ≠ g2 ∧ g0 ≠ g1 ∧ g0 ≠ g2 ∧ w2.heap.size ≤ g1 ∧ w2.heap.size ≤ g2 by have := HG1.out; omega)
 clear d0 d1 d2 d3 hbx hmk KM hg2 hg1 hg0 HA1 HKM
 have HKW : ∀ wq : World, Keeps (fun b => b = g1 ∨ b = g2) w4 wq → Keeps (fun _ => False) w2 wq := fun wq hk => HKM2.out.trans' hk (fun i hi => .inr (by have := HGN.out; rcases hi with e | e <;> omega))
 replace HKW := Lib.hid HKW
 go_wp2_with fail
 go_loopw [28] (fun v28 wr => ∃ k : Nat, v28 = .int .i64 (k : Int) ∧ k ≤ n ∧ Keeps (fun b => b = g1 ∨ b = g2) w4 wr ∧ IArr wr g2 (List.replicate n 0) ∧ ∃ l : List Int, l.length = n ∧ (∀ j, j < k → l[j]? = some (-1)) ∧ IArr wr g1 l) (fun v28 _ => n - (intOf v28).toNat)
 case atStart => exact ⟨0, rfl, Nat.zero_le _, Keeps.refl _ _, HA2.out, _, List.length_replicate, fun j hj => absurd hj (by omega), HA1'.out⟩
 case round =>
  obtain ⟨k, rfl, hk, hkr, hz2, l, hl, hlj, hla⟩ := hrel
  by_cases hlt : k < n
  ·have hnk : (k : Int) < (n : Int) := by omega
   obtain ⟨x, hx⟩ : ∃ x, l[k]? = some x := ⟨_, List.getElem?_eq_getElem (by omega)⟩
   have hc := hla.cell hx
   have hf := hla.frozen k
   have hlt' := hla.lt
   have HN1 := Lib.hid (show Keeps (fun b => b = g1 ∨ b = g2) w4 (wr.setCell ⟨g1, k, none⟩ (.int .i64 (-1))) ∧ IArr (wr.setCell ⟨g1, k, none⟩ (.int .i64 (-1))) g2 (List.replicate n 0) ∧ ∃ l' : List Int, l'.length = n ∧ (∀ j, j < k + 1 → l'[j]? = some (-1)) ∧ IArr (wr.setCell ⟨g1, k, none⟩ (.int .i64 (-1))) g1 l' from
    ⟨hkr.trans ((keeps_set _ _ _ _).mono (fun _ _ h => .inl h)), hz2.keeps (keeps_set _ _ _ _) (fun e => HGN.out.1 e.symm), l.set k (-1), by rw [List.length_set]; exact hl, fun j hj => by
     rw [List.getElem?_set]
     split
     ·rw [if_pos (by omega)]
     ·exact hlj j (by omega), hla.set k _⟩)
   clear hkr hl hlj hla hx hz2
   go_wp2_with fail
   go_roundw
   case rel => exact ⟨k + 1, by go_num, by omega, HN1.out⟩
   case measure => simp [intOf]; omega
  ·have HV := Lib.hid (show SupAt w4 g1 g2 (supTo t.n (levelsV t s) t.ops 0) wr from by
    have e : l = List.replicate n (-1) := List.eq_replicate_iff.2 ⟨hl, fun b hb => by
     obtain ⟨j, hj⟩ := List.mem_iff_getElem?.1 hb
     have h1 := hlj j (by have := (List.getElem?_eq_some_iff.1 hj).1; omega)
     rw [h1] at hj; cases hj; rfl⟩
    rw [e] at hla
    refine ⟨?_, ?_, hkr⟩
    ·rw [supTo, HNT.out]; exact hla
    ·rw [supTo, HNT.out]; exact hz2)
   have KW0 := Lib.hid (HKW.out wr hkr)
   clear hkr hl hlj hla hz2
   obtain ⟨d0, d1, d2, d3⟩ := (HB2.out.keeps0 KW0.out)
   have hbx := (HB2.out.keeps0 KW0.out).lt
   go_wp2_with fail
   clear d0 d1 d2 d3 hbx
   go_loopw [38] (fun v38 wr => ∃ k : Nat, v38 = .int .i64 (k : Int) ∧ k ≤ t.ops.length ∧ SupAt w4 g1 g2 (supTo t.n (levelsV t s) t.ops k) wr) (fun v38 _ => t.ops.length - (intOf v38).toNat)
   case atStart => exact ⟨0, rfl, Nat.zero_le _, HV.out⟩
   case round =>
    obtain ⟨k, rfl, hk, hs1, hs2, hks⟩ := hrel
    have KW := Lib.hid (HKW.out wr hks)
    by_cases hkl : k < t.ops.length
    ·have HS1 := Lib.hid hs1; have HS2 := Lib.hid hs2; have HKS := Lib.hid hks
     clear hs1 hs2 hks
     obtain ⟨bo, oo, rfl, hcell⟩ := HT2.out.ops.cell rfl (by omega)
     obtain ⟨o, ho⟩ : ∃ o, t.ops[k]? = some o := ⟨_, List.getElem?_eq_getElem hkl⟩
     obtain ⟨va, vb, vd, p0', p1', p2', p3', i1, i2, i3⟩ := hcell k o ho
     have p0 := KW.out.cell p0' (fun h => h); have p1 := KW.out.cell p1' (fun h => h); have p2 := KW.out.cell p2' (fun h => h); have p3 := KW.out.cell p3' (fun h => h)
     clear p0' p1' p2' p3'
     obtain ⟨a1, k1, f1, _⟩ := i1.form
     obtain ⟨a2, k3, f2, _⟩ := i2.form
     obtain ⟨a3, k4, f3, _⟩ := i3.form
     subst f1 f2 f3
     have I1 := Lib.hid i1; have I2 := Lib.hid i2
     have HPO := Lib.hid (HPRE.out o (List.mem_of_getElem? ho)); have HAO := Lib.hid (HADD.out o (List.mem_of_getElem? ho))
     have HOS := Lib.hid (OK.out.ops o (List.mem_of_getElem? ho)).pre
     have HNX := Lib.hid (show supTo t.n (levelsV t s) t.ops (k + 1) = supAdd (k : Int) (supPre t.n (levelsV t s) o.pre).1 (supPre t.n (levelsV t s) o.pre).2 (levelsV t s) (supTo t.n (levelsV t s) t.ops k) o.add by rw [supTo, ho])
     have HSI := Lib.hid (supTo_ok OK.out s k (by omega))
     have HLI := Lib.hid (levelsV_ok t s)
     have K4 := (Keeps.refl (fun _ => False) wr).alloc (.cells #[.slice a1 o.pre.length k1, .slice a2 o.add.length k3, .slice a3 o.del.length k4, .int .i64 o.cost] 80)
     have HO4 := Lib.hid (Four.new wr (.slice a1 o.pre.length k1) (.slice a2 o.add.length k3) (.slice a3 o.del.length k4) (.int .i64 o.cost) 80)
     have HS14 := Lib.hid (HS1.out.keeps K4 (fun h => h)); have HS24 := Lib.hid (HS2.out.keeps K4 (fun h => h)); have HKS4 := Lib.hid (HKS.out.trans (K4.mono (fun _ _ h => h.elim))); have KW4 := Lib.hid (KW.out.trans K4)
     clear hcell ho i1 i2 i3 K4 HS1 HS2 HKS KW
     go_upto_region 13 with fail
     generalize hw5 : (wr.alloc (.cells #[.slice a1 o.pre.length k1, .slice a2 o.add.length k3, .slice a3 o.del.length k4, .int .i64 o.cost] 80)) = w5 at HS14 HS24 HKS4 HO4 KW4 ⊢
     clear p0 p1 p2 p3 hw5
     obtain ⟨b4, hb4⟩ : ∃ b4, wr.heap.size = b4 := ⟨_, rfl⟩
     try rw [hb4] at HO4
     try rw [hb4]
     clear hb4
     generalize supTo t.n (levelsV t s) t.ops k = st at HS14 HS24 HNX HSI
     have HL5 := Lib.hid (HLV.out.keeps KW4.out (fun h => h))
     obtain ⟨q0, q1, q2, q3⟩ := HO4.out
     have hq4 := HO4.out.lt
     obtain ⟨d0, d1, d2, d3⟩ := (HB2.out.keeps0 KW4.out)
     have hbx := (HB2.out.keeps0 KW4.out).lt
     go_wp2_with fail
     go_loop [11, 12, 46] (fun v11 v12 v46 => ∃ j : Nat, j ≤ o.pre.length ∧ v46 = .int .i64 (j : Int) ∧ v11 = .int .i64 (supPre t.n (levelsV t s) (o.pre.take j)).1 ∧ v12 = .int .i64 (supPre t.n (levelsV t s) (o.pre.take j)).2) (fun _ _ v46 => o.pre.length - (intOf v46).toNat)
     case atStart => exact ⟨0, Nat.zero_le _, rfl, rfl, rfl⟩
     case round =>
      obtain ⟨j, hj, rfl, rfl, rfl⟩ := hrel
      have hsp := supPre_ok OK.out s HOS.out j
      by_cases hjl : j < o.pre.length
      ·obtain ⟨b1, o1, rfl, hca⟩ := (I1.out.keeps0 KW4.out).cell rfl (by omega)
       obtain ⟨p, hp⟩ : ∃ p, o.pre[j]? = some p := ⟨_, List.getElem?_eq_getElem hjl⟩
       have hpb := HPO.out p (List.mem_of_getElem? hp)
       obtain ⟨p, rfl⟩ := Int.eq_ofNat_of_zero_le hpb.1
       have hc2 := hca j _ hp
       have hpi : (p : Int) < (n : Int) := by omega
       have hg1 := HL5.out.get (j := p) (by have := HLI.out.1; rw [this, HNT.out]; omega)
       have hgl := HL5.out.lt
       have hyb := HLI.out.get (p := (p : Int)) (by rw [HNT.out]; omega)
       have HTK := Lib.hid (show supPre t.n (levelsV t s) (o.pre.take (j + 1)) = ((supPre t.n (levelsV t s) (o.pre.take j)).1 + getV (levelsV t s) (p : Int), if getV (levelsV t s) (p : Int) < 0 then t.n else max (supPre t.n (levelsV t s) (o.pre.take j)).2 (getV (levelsV t s) (p : Int))) by rw [take_getS hp, supPre_snoc])
       clear hca hp hpb
       rw [HNT.out] at hyb
       generalize supPre t.n (levelsV t s) (o.pre.take j) = a at hsp HTK ⊢
       generalize getV (levelsV t s) (p : Int) = y at hg1 hyb HTK
       by_cases hneg : y < 0
       ·have hd : decide (y < 0) = true := by simpa using hneg
        have HN2 := Lib.hid (show supPre t.n (levelsV t s) (o.pre.take (j + 1)) = (a.1 + y, t.n) by rw [HTK.out, if_pos hneg])
        clear hneg HTK
        go_wp2_with fail
        go_round
        case rel => exact ⟨j + 1, by omega, by go_num, by rw [HN2.out], by rw [HN2.out]⟩
        case measure => simp [intOf]; omega
       ·have hd : decide (y < 0) = false := by simpa using hneg
        have HN2 := Lib.hid (show supPre t.n (levelsV t s) (o.pre.take (j + 1)) = (a.1 + y, max a.2 y) by rw [HTK.out, if_neg hneg])
        clear hneg HTK
        go_wp2_with fail
        all_goals
         go_round
         case rel => exact ⟨j + 1, by omega, by go_num, by rw [HN2.out], by rw [HN2.out]⟩
         case measure => simp [intOf]; omega
      ·rw [List.take_of_length_le (by omega)] at hsp ⊢
       have hsp2 := hsp
       obtain ⟨sm, tp, hst⟩ : ∃ sm tp, supPre t.n (levelsV t s) o.pre = (sm, tp) := ⟨_, _, rfl⟩
       rw [hst] at HNX hsp ⊢
       simp only at HNX hsp ⊢
       clear hst hsp2
       go_wp2_with fail
       clear q0 q1 q2 q3 hq4 d0 d1 d2 d3 hbx
       go_loopw [73] (fun v73 wr' => ∃ i : Nat, v73 = .int .i64 (i : Int) ∧ i ≤ o.add.length ∧ SupAt w4 g1 g2 (supAdd (k : Int) sm tp (levelsV t s) st (o.add.take i)) wr') (fun v73 _ => o.add.length - (intOf v73).toNat)
       case atStart => exact ⟨0, rfl, Nat.zero_le _, HS14.out, HS24.out, HKS4.out⟩
       case round =>
        obtain ⟨i, rfl, hi, hs1, hs2, hks⟩ := hrel
        by_cases hil : i < o.add.length
        ·have KW6 := Lib.hid (HKW.out wr hks)
         obtain ⟨b2, o2, rfl, hca⟩ := (I2.out.keeps0 KW6.out).cell rfl (by omega)
         obtain ⟨p, hp⟩ : ∃ p, o.add[i]? = some p := ⟨_, List.getElem?_eq_getElem hil⟩
         have hpb := HAO.out p (List.mem_of_getElem? hp)
         obtain ⟨p, rfl⟩ := Int.eq_ofNat_of_zero_le hpb.1
         have hc2 := hca i _ hp
         have hpi : (p : Int) < (n : Int) := by omega
         have HTK := Lib.hid (show supAdd (k : Int) sm tp (levelsV t s) st (o.add.take (i + 1)) = if tp < getV (levelsV t s) (p : Int) ∧ 0 < getV (levelsV t s) (p : Int) ∧ (getV (supAdd (k : Int) sm tp (levelsV t s) st (o.add.take i)).1 (p : Int) < 0 ∨ sm < getV (supAdd (k : Int) sm tp (levelsV t s) st (o.add.take i)).2 (p : Int)) then ((supAdd (k : Int) sm tp (levelsV t s) st (o.add.take i)).1.set p (k : Int), (supAdd (k : Int) sm tp (levelsV t s) st (o.add.take i)).2.set p sm) else supAdd (k : Int) sm tp (levelsV t s) st (o.add.take i) by rw [take_getS hp, supAdd_snoc, Int.toNat_natCast])
         have hsi := supAdd_ok (n := t.n.toNat) (m := k + 1) (c := 1000) (i := (k : Int)) (sum := sm) (top := tp) (by omega) (by omega) (levelsV t s) (o.add.take i) st ⟨HSI.out.1, HSI.out.2.1, fun y hy => by have := HSI.out.2.2.1 y hy; omega, HSI.out.2.2.2⟩
         have hl1 := hsi.1; have hl2 := hsi.2.1
         rw [HNT.out] at hl1 hl2
         generalize supAdd (k : Int) sm tp (levelsV t s) st (o.add.take i) = st2 at hs1 hs2 HTK hl1 hl2
         have hg0 := (HLV.out.keeps KW6.out (fun h => h)).get (j := p) (by have := HLI.out.1; rw [this, HNT.out]; omega)
         have hgl0 := (HLV.out.keeps KW6.out (fun h => h)).lt
         have hg1' := hs1.get (j := p) (by omega)
         have hf1 := hs1.frozen p
         have hgl1 := hs1.lt
         have hg2' := hs2.get (j := p) (by omega)
         have hf2 := hs2.frozen p
         have hgl2 := hs2.lt
         have HS1 := Lib.hid hs1; have HS2 := Lib.hid hs2; have HKS := Lib.hid hks
         have hs2b := (hs2.keeps (keeps_set wr g1 p (.int .i64 (k : Int))) (fun e => HGN.out.1 e.symm))
         have hg2b := hs2b.get (j := p) (by omega)
         have hf2b := hs2b.frozen p
         have HPUT := Lib.hid (show SupAt w4 g1 g2 (st2.1.set p (k : Int), st2.2.set p sm) ((wr.setCell ⟨g1, p, none⟩ (.int .i64 (k : Int))).setCell ⟨g2, p, none⟩ (.int .i64 sm)) from
          ⟨(hs1.set p (k : Int)).keeps (keeps_set _ g2 p _) (fun e => HGN.out.1 e), hs2b.set p sm, (hks.trans ((keeps_set wr g1 p _).mono (fun _ _ h => .inl h))).trans ((keeps_set _ g2 p _).mono (fun _ _ h => .inr h))⟩)
         clear hca hp hpb hs1 hs2 hks hsi hs2b
         generalize getV (levelsV t s) (p : Int) = y at hg0 HTK
         generalize getV st2.1 (p : Int) = ov at hg1' HTK
         generalize getV st2.2 (p : Int) = lv at hg2' hg2b HTK
         by_cases c1 : tp < y
         ·have b1 : decide (tp < y) = true := by simpa using c1
          by_cases c2 : 0 < y
          ·have b2' : decide (0 < y) = true := by simpa using c2
           by_cases c3 : ov < 0
           ·have b3 : decide (ov < 0) = true := by simpa using c3
            have HN2 := Lib.hid (show supAdd (k : Int) sm tp (levelsV t s) st (o.add.take (i + 1)) = (st2.1.set p (k : Int), st2.2.set p sm) by rw [HTK.out, if_pos (by omega)])
            clear HTK
            go_wp2_with fail
            go_roundw
            case rel => exact ⟨i + 1, by go_num, by omega, by rw [HN2.out]; exact HPUT.out⟩
            case measure => simp [intOf]; omega
           ·have b3 : decide (ov < 0) = false := by simpa using c3
            by_cases c4 : sm < lv
            ·have b4' : decide (sm < lv) = true := by simpa using c4
             have HN2 := Lib.hid (show supAdd (k : Int) sm tp (levelsV t s) st (o.add.take (i + 1)) = (st2.1.set p (k : Int), st2.2.set p sm) by rw [HTK.out, if_pos (by omega)])
             clear HTK
             go_wp2_with fail
             go_roundw
             case rel => exact ⟨i + 1, by go_num, by omega, by rw [HN2.out]; exact HPUT.out⟩
             case measure => simp [intOf]; omega
            ·have b4' : decide (sm < lv) = false := by simpa using c4
             have HN2 := Lib.hid (show supAdd (k : Int) sm tp (levelsV t s) st (o.add.take (i + 1)) = st2 by rw [HTK.out, if_neg (by omega)])
             clear HTK
             go_wp2_with fail
             go_roundw
             case rel => exact ⟨i + 1, by go_num, by omega, by rw [HN2.out]; exact ⟨HS1.out, HS2.out, HKS.out⟩⟩
             case measure => simp [intOf]; omega
          ·have b2' : decide (0 < y) = false := by simpa using c2
           have HN2 := Lib.hid (show supAdd (k : Int) sm tp (levelsV t s) st (o.add.take (i + 1)) = st2 by rw [HTK.out, if_neg (by omega)])
           clear HTK
           go_wp2_with fail
           go_roundw
           case rel => exact ⟨i + 1, by go_num, by omega, by rw [HN2.out]; exact ⟨HS1.out, HS2.out, HKS.out⟩⟩
           case measure => simp [intOf]; omega
         ·have b1 : decide (tp < y) = false := by simpa using c1
          have HN2 := Lib.hid (show supAdd (k : Int) sm tp (levelsV t s) st (o.add.take (i + 1)) = st2 by rw [HTK.out, if_neg (by omega)])
          clear HTK
          go_wp2_with fail
          go_roundw
          case rel => exact ⟨i + 1, by go_num, by omega, by rw [HN2.out]; exact ⟨HS1.out, HS2.out, HKS.out⟩⟩
          case measure => simp [intOf]; omega
        ·rw [List.take_of_length_le (by omega), ← HNX.out] at hs1 hs2
         have HS1 := Lib.hid hs1; have HS2 := Lib.hid hs2; have HKS := Lib.hid hks
         clear hs1 hs2 hks
         go_wp2_with fail
         go_roundw
         case rel => exact ⟨k + 1, by go_num, by omega, HS1.out, HS2.out, HKS.out⟩
         case measure => simp [intOf]; omega
    ·have hkn : k = t.ops.length := by omega
     have HS1 := Lib.hid (show IArr wr g1 (supV t s) by unfold supV; rw [← hkn]; exact hs1)
     clear hs1 hs2 hks
     go_wp2_with fail
     go_ret
     exact ⟨g1, by rw [HNT.out]; rfl, HS1.out, by have := HGN.out; have := HK2.out.size; omega, HK2.out.trans KW.out⟩

end Go.Proofs.YtdokakhgflljgaaGreat
