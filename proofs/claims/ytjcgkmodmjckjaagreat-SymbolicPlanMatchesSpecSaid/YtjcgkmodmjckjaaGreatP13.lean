/- The reference's StepsFault, Ends, Works, Solves and PlanFault, for a plan that can be followed. The reference's IsBest, at a best plan; the law's bestMatches. symbolic: SymbolicPlanMatchesSpec walked. No condition beyond what each theorem says. -/
import Derived.Test.YtjcgkmodmjckjaaGreatP11
import Derived.Test.YtjcgkmodmjckjaaGreatP12
import Derived.Test.YtjcgkmodmjckjaaGreatP3
import Derived.Test.YtjcgkmodmjckjaaGreatP9

namespace Go.Proofs.YtjcgkmodmjckjaaGreat
open Go.RowKit

set_option maxRecDepth 100000 in
set_option maxHeartbeats 2000000 in
theorem stepsFault_good (w : World) (vp : Value) (p : List Int) (n : Int) (hp : Ints w vp p) (hl : p.length ≤ 60) (hin : ∀ x ∈ p, 0 ≤ x ∧ x < n) (hn : 0 ≤ n ∧ n ≤ 1000000) :
    Calls Tryz.prog 80 #[.int .i64 n, vp] w fun e w' => e = .returned (.agg #[.int .i64 0, .int .i64 0]) ∧ Keeps (fun _ => False) w w' := by
  obtain ⟨ap, cp, h1, hpl⟩ := hp.form
  subst h1
  have K1 := (Keeps.refl (fun _ => False) w).alloc (.cells #[.int .i64 0, .int .i64 0] 29)
  have HF := Lib.hid (show Flt w (w.alloc (.cells #[.int .i64 0, .int .i64 0] 29)) w.heap.size 29 from ⟨heap_alloc_new w _, Nat.le_refl _, K1⟩)
  have HC := Lib.hid ((hp.keeps0 K1).cell rfl)
  have HIN := Lib.hid hin
  clear hp K1 hin
  have hgt : decide (60 < (p.length : Int)) = false := by simp; omega
  go_enter Tryz.func80, Tryz.ntmps80
  go_upto_region 1 with fail
  generalize (w.alloc (.cells #[.int .i64 0, .int .i64 0] 29)) = w1 at HF HC ⊢
  go_wp2_with fail
  go_loopw [5] (fun v5 wr => ∃ i : Nat, i ≤ p.length ∧ v5 = .int .i64 (i : Int) ∧ Keeps (fun _ => False) w1 wr) (fun v5 _ => p.length - (intOf v5).toNat)
  case atStart => exact ⟨0, Nat.zero_le _, rfl, Keeps.refl _ _⟩
  case round =>
    obtain ⟨i, hi, rfl, hkr⟩ := hrel
    have HKR := Lib.hid hkr
    clear hkr
    by_cases hlt : i < p.length
    · obtain ⟨x, hx⟩ : ∃ x, p[i]? = some x := ⟨_, List.getElem?_eq_getElem hlt⟩
      obtain ⟨bp, op, rfl, hpc⟩ := HC.out (by omega)
      have q1 := HKR.out.cell (hpc i x hx) (fun h => h)
      have hxn := HIN.out x (List.mem_of_getElem? hx)
      clear hpc hx
      have hilt : (i : Int) < (p.length : Int) := by omega
      go_wp2_with fail
      refine (in_true _ x 0 (n - 1) (by unfold inB; simp; omega)).mono ?_; rintro e w2 ⟨rfl, hw⟩
      subst hw
      go_wp2_with fail
      go_roundw
      case rel => exact ⟨i + 1, by omega, by go_num, HKR.out⟩
      case measure => simp [intOf]; omega
    · obtain rfl : i = p.length := by omega
      have HF2 := Lib.hid (HF.out.keeps0 HKR.out)
      obtain ⟨e0, e1, z0, z1, hF⟩ := HF2.out.cells
      go_wp2_with fail
      refine bodyPost_ret (results_cell_row rfl _ _ w.heap.size 29 _ (0, 0) _ rfl (HF2.out.set (.int .i64 0) (.int .i64 0)).1 Tryz.underlying29 rfl (by kernel_rfl)) rfl ?_
      exact ⟨rfl, (HF2.out.set (.int .i64 0) (.int .i64 0)).2⟩

theorem run_take {ops : List Wop} : ∀ {q : List Nat} {x y : Nat}, runOps ops x q = some y → ∀ i, i < q.length → ∃ z a o, runOps ops x (q.take i) = some z ∧ q[i]? = some a ∧ ops[a]? = some o ∧ o.can z = true ∧ runOps ops x (q.take (i + 1)) = some (o.next z) := fun {q x y} hr i hi => by
  obtain ⟨z, hz, hd⟩ := run_cut hr i
  obtain ⟨a, ha⟩ : ∃ a, q[i]? = some a := ⟨_, List.getElem?_eq_getElem hi⟩
  rw [drop_getS ha, runOps] at hd
  cases ho : ops[a]? with
  | none => rw [ho] at hd; cases hd
  | some o =>
    rw [ho] at hd; simp only at hd
    by_cases hc : o.can z = true
    · exact ⟨z, a, o, hz, ha, ho, hc, by rw [take_getS ha, runOps_append, hz]; simp [runOps, ho, hc]⟩
    · rw [if_neg hc] at hd; cases hd

set_option maxRecDepth 100000 in
set_option maxHeartbeats 4000000 in
theorem ends_good (w : World) (vi vg vo vs vp : Value) (t : Tsk) (x y : Nat) (q : List Nat) (h : TaskAt w vi vg vo t) (ok : t.Ok) (hs : Ints w vs (facts x)) (hg : Good t.n x) (hp : Ints w vp (intsP q)) (hr : runOps (wordsOf t.ops) x q = some y) (hl : q.length ≤ 100000) :
    Calls Tryz.prog 100 #[.agg #[.int .i64 t.n, vi, vg, vo], vs, vp] w fun e w' => ∃ v, e = .returned (.tuple #[v, .bool true]) ∧ Ints w' v (facts y) ∧ Keeps (fun _ => False) w w' := by
  obtain ⟨ai, ci, h1, _⟩ := h.init.form
  obtain ⟨ag, cg, h2, _⟩ := h.goal.form
  obtain ⟨ao, co, h3, hmo⟩ := h.ops.form
  obtain ⟨ap, cp, h4, hpl⟩ := hp.form
  have hil : (intsP q).length = q.length := by simp [intsP]
  rw [hil] at h4
  subst h1 h2 h3 h4
  have HB := Lib.hid (Four.new w (.int .i64 t.n) (.slice ai t.init.length ci) (.slice ag t.goal.length cg) (.slice ao t.ops.length co) 25)
  have K1 := (Keeps.refl (fun _ => False) w).alloc (.cells #[.int .i64 t.n, .slice ai t.init.length ci, .slice ag t.goal.length cg, .slice ao t.ops.length co] 25)
  have HT := Lib.hid (h.keeps0 K1); have HK := Lib.hid K1; have HS := Lib.hid (hs.keeps0 K1); have HCP := Lib.hid ((hp.keeps0 K1).cell rfl)
  have OK := Lib.hid ok; have HG := Lib.hid hg; have HR := Lib.hid hr; have HIL := Lib.hid hil
  clear h K1 hs hp ok hg hr hil
  go_enter Tryz.func100, Tryz.ntmps100
  go_upto_region 1 with fail
  generalize (w.alloc (.cells #[.int .i64 t.n, .slice ai t.init.length ci, .slice ag t.goal.length cg, .slice ao t.ops.length co] 25)) = w1 at HB HT HK HS HCP ⊢
  generalize w.heap.size = bt at HB ⊢
  go_wp2_with fail
  go_loopw [1, 8] (fun v1 v8 wr => ∃ (i z : Nat), i ≤ q.length ∧ v8 = .int .i64 (i : Int) ∧ runOps (wordsOf t.ops) x (q.take i) = some z ∧ Good t.n z ∧ Ints wr v1 (facts z) ∧ Keeps (fun _ => False) w1 wr) (fun _ v8 _ => q.length - (intOf v8).toNat)
  case atStart => exact ⟨0, x, Nat.zero_le _, rfl, rfl, HG.out, HS.out, Keeps.refl _ _⟩
  case round =>
    obtain ⟨i, z, hi, rfl, hz, hgz, hv, hkr⟩ := hrel
    obtain ⟨av, cv, hvf, _⟩ := hv.form
    subst hvf
    have HV := Lib.hid hv; have HKR := Lib.hid hkr; have HGZ := Lib.hid hgz; have HZ := Lib.hid hz
    clear hv hkr hgz hz
    by_cases hlt : i < q.length
    · obtain ⟨z', a, o, g1, g2, g3, g4, g5⟩ := run_take HR.out i hlt
      obtain rfl : z' = z := by have := g1.symm.trans HZ.out; cases this; rfl
      obtain ⟨o', ho', rfl⟩ : ∃ o', t.ops[a]? = some o' ∧ o'.word = o := by
        unfold wordsOf at g3
        rw [List.getElem?_map] at g3
        obtain ⟨o', h1, h2⟩ := Option.map_eq_some_iff.1 g3
        exact ⟨o', h1, h2⟩
      obtain ⟨hap, haf, hgn⟩ := good_next (by have := OK.out.n1; omega) (OK.out.ops o' (List.mem_of_getElem? ho')) HGZ.out
      rw [g4] at hap
      obtain ⟨bp, op, rfl, hpc⟩ := HCP.out (by rw [HIL.out]; omega)
      have q1 := HKR.out.cell (hpc i (a : Int) (by unfold intsP; rw [List.getElem?_map, g2]; rfl)) (fun h => h)
      have HAP := Lib.hid hap; have HAF := Lib.hid haf; have HGN := Lib.hid hgn; have HOO := Lib.hid ho'; have HNX := Lib.hid g5
      have HBq := Lib.hid (HB.out.keeps0 HKR.out); have HTq := Lib.hid (HT.out.keeps0 HKR.out)
      have hbx := HBq.out.lt
      obtain ⟨d0, d1, d2, d3⟩ := HBq.out
      have hilt : (i : Int) < (q.length : Int) := by omega
      have hi0 : (0 : Int) ≤ (i : Int) := by omega
      clear g1 g2 g3 g4 g5 hpc hap haf hgn ho'
      go_upto_region 4 with fail
      go_still_tail 6, (by kernel_rfl)
      change wpList _ _ _ _ _ wr.drew
      have KD := (Keeps.refl (fun _ => False) wr).drew
      have HTD := Lib.hid (HTq.out.keeps0 KD); have HVD := Lib.hid (show Ints wr.drew (.slice av (facts z').length cv) (facts z') from HV.out.keeps0 KD); have HBD := Lib.hid (HBq.out.keeps0 KD); have KRD := Lib.hid (HKR.out.trans KD)
      have q1 := KD.cell q1 (fun h => h)
      clear KD d0 d1 d2 d3 hbx HBq HTq HV HKR
      generalize wr.drew = w4 at HTD HVD HBD KRD q1 ⊢
      go_wp2_with fail
      refine (applies_any _ _ _ _ _ t (facts z') a o' HTD.out HVD.out HOO.out).mono ?_; rintro en w5 ⟨rfl, hk⟩
      rw [HAP.out]
      have HT5 := Lib.hid (HTD.out.keeps0 hk); have HV5 := Lib.hid (show Ints w5 (.slice av (facts z').length cv) (facts z') from HVD.out.keeps0 hk); have HB5 := Lib.hid (HBD.out.keeps0 hk); have KR5 := Lib.hid (KRD.out.trans hk)
      have q1 := hk.cell q1 (fun h => h)
      clear hk HTD HVD HBD KRD
      have hbx := HB5.out.lt
      obtain ⟨d0, d1, d2, d3⟩ := HB5.out
      go_upto_region 6 with fail
      go_still_tail 6, (by kernel_rfl)
      change wpList _ _ _ _ _ w5.drew
      have KD := (Keeps.refl (fun _ => False) w5).drew
      have HTD := Lib.hid (HT5.out.keeps0 KD); have HVD := Lib.hid (show Ints w5.drew (.slice av (facts z').length cv) (facts z') from HV5.out.keeps0 KD); have KRD := Lib.hid (KR5.out.trans KD)
      clear KD d0 d1 d2 d3 hbx HB5 HT5 HV5 KR5 q1
      generalize w5.drew = w6 at HTD HVD KRD ⊢
      go_wp2_with fail
      refine (after_any _ _ _ _ _ t (facts z') a o' HTD.out HVD.out HOO.out OK.out.n0 (by have := OK.out.n1; omega)).mono ?_; rintro en w7 ⟨v, rfl, hown, hk⟩
      have HV7 := Lib.hid (show Ints w7 v (facts (o'.word.next z')) by have := Ints.of_own hown; rwa [HAF.out] at this)
      have KR7 := Lib.hid (KRD.out.trans hk)
      clear hown hk
      go_wp2_with fail
      go_roundw
      case rel => exact ⟨i + 1, o'.word.next z', by omega, by go_num, HNX.out, HGN.out, HV7.out, KR7.out⟩
      case measure => simp [intOf]; omega
    · obtain rfl : i = q.length := by omega
      have hzy : z = y := by have := HZ.out; rw [List.take_length] at this; have := this.symm.trans HR.out; cases this; rfl
      subst hzy
      go_wp2_with fail
      go_ret2
      exact ⟨_, rfl, HV.out, HK.out.trans HKR.out⟩

set_option maxRecDepth 100000 in
set_option maxHeartbeats 2000000 in
theorem worksR_good (w : World) (vi vg vo vs vp : Value) (t : Tsk) (x y : Nat) (q : List Nat) (h : TaskAt w vi vg vo t) (ok : t.Ok) (hs : Ints w vs (facts x)) (hg : Good t.n x) (hp : Ints w vp (intsP q)) (hr : runOps (wordsOf t.ops) x q = some y) (hl : q.length ≤ 100000) :
    Calls Tryz.prog 81 #[.agg #[.int .i64 t.n, vi, vg, vo], vs, vp] w fun e w' => e = .returned (.bool (goalW t y)) ∧ Keeps (fun _ => False) w w' := by
  obtain ⟨ai, ci, h1, _⟩ := h.init.form
  obtain ⟨ag, cg, h2, _⟩ := h.goal.form
  obtain ⟨ao, co, h3, hmo⟩ := h.ops.form
  subst h1 h2 h3
  have HB := Lib.hid (Four.new w (.int .i64 t.n) (.slice ai t.init.length ci) (.slice ag t.goal.length cg) (.slice ao t.ops.length co) 25)
  have K1 := (Keeps.refl (fun _ => False) w).alloc (.cells #[.int .i64 t.n, .slice ai t.init.length ci, .slice ag t.goal.length cg, .slice ao t.ops.length co] 25)
  have HT := Lib.hid (h.keeps0 K1); have HK := Lib.hid K1; have HS := Lib.hid (hs.keeps0 K1); have HP := Lib.hid (hp.keeps0 K1)
  have OK := Lib.hid ok; have HG := Lib.hid hg; have HR := Lib.hid hr
  clear h K1 hs hp ok hg hr
  go_enter Tryz.func81, Tryz.ntmps81
  go_upto_region 1 with fail
  generalize (w.alloc (.cells #[.int .i64 t.n, .slice ai t.init.length ci, .slice ag t.goal.length cg, .slice ao t.ops.length co] 25)) = w1 at HB HT HK HS HP ⊢
  generalize w.heap.size = bt at HB ⊢
  have hbx := HB.out.lt
  obtain ⟨d0, d1, d2, d3⟩ := HB.out
  go_wp2_with fail
  refine (ends_good _ _ _ _ _ _ t x y q HT.out OK.out HS.out HG.out HP.out HR.out hl).mono ?_; rintro e w2 ⟨v, rfl, hv, hk⟩
  have HB2 := Lib.hid (HB.out.keeps0 hk); have HT2 := Lib.hid (HT.out.keeps0 hk); have K2 := Lib.hid (HK.out.trans hk); have HV := Lib.hid hv
  clear d0 d1 d2 d3 hbx hk hv
  have hbx := HB2.out.lt
  obtain ⟨d0, d1, d2, d3⟩ := HB2.out
  go_wp2_with fail
  refine (subset_goal _ _ _ t y HT2.out.goal HV.out).mono ?_; rintro e w3 ⟨rfl, rfl⟩
  go_wp2_with fail
  go_ret
  exact ⟨rfl, K2.out⟩

set_option maxRecDepth 100000 in
set_option maxHeartbeats 2000000 in
theorem solvesR_good (w : World) (vi vg vo vp : Value) (t : Tsk) (y : Nat) (q : List Nat) (h : TaskAt w vi vg vo t) (ok : t.Ok) (hp : Ints w vp (intsP q)) (hr : runOps (wordsOf t.ops) (wd t.init) q = some y) (hl : q.length ≤ 100000) :
    Calls Tryz.prog 46 #[.agg #[.int .i64 t.n, vi, vg, vo], vp] w fun e w' => e = .returned (.bool (goalW t y)) ∧ Keeps (fun _ => False) w w' := by
  obtain ⟨ai, ci, h1, _⟩ := h.init.form
  obtain ⟨ag, cg, h2, _⟩ := h.goal.form
  obtain ⟨ao, co, h3, hmo⟩ := h.ops.form
  subst h1 h2 h3
  have HB := Lib.hid (Four.new w (.int .i64 t.n) (.slice ai t.init.length ci) (.slice ag t.goal.length cg) (.slice ao t.ops.length co) 25)
  have K1 := (Keeps.refl (fun _ => False) w).alloc (.cells #[.int .i64 t.n, .slice ai t.init.length ci, .slice ag t.goal.length cg, .slice ao t.ops.length co] 25)
  have HT := Lib.hid (h.keeps0 K1); have HK := Lib.hid K1; have HP := Lib.hid (hp.keeps0 K1)
  have OK := Lib.hid ok; have HR := Lib.hid hr
  have HG := Lib.hid (good_wd (by have := ok.n1; omega : t.n ≤ 32) ok.init)
  have hfi : facts (wd t.init) = t.init := facts_wd (isSet_mono ok.init (by have := ok.n1; omega))
  have HFI := Lib.hid hfi
  clear h K1 hp ok hr hfi
  go_enter Tryz.func46, Tryz.ntmps46
  go_upto_region 1 with fail
  generalize (w.alloc (.cells #[.int .i64 t.n, .slice ai t.init.length ci, .slice ag t.goal.length cg, .slice ao t.ops.length co] 25)) = w1 at HB HT HK HP ⊢
  generalize w.heap.size = bt at HB ⊢
  have hbx := HB.out.lt
  obtain ⟨d0, d1, d2, d3⟩ := HB.out
  go_wp2_with fail
  refine (worksR_good _ _ _ _ _ _ t (wd t.init) y q HT.out OK.out (by rw [HFI.out]; exact HT.out.init) HG.out HP.out HR.out hl).mono ?_; rintro e w2 ⟨rfl, hk⟩
  go_wp2_with fail
  go_ret
  exact ⟨rfl, HK.out.trans hk⟩

set_option maxRecDepth 100000 in
set_option maxHeartbeats 2000000 in
theorem planFaultR_good (w : World) (vi vg vo vp : Value) (t : Tsk) (p : List Int) (h : TaskAt w vi vg vo t) (ok : t.Ok) (hp : Ints w vp p) (hl : p.length ≤ 60) (hin : PlanIn t p) :
    Calls Tryz.prog 45 #[.agg #[.int .i64 t.n, vi, vg, vo], vp] w fun e w' => e = .returned (.agg #[.int .i64 0, .int .i64 0]) ∧ Keeps (fun _ => False) w w' := by
  obtain ⟨ai, ci, h1, _⟩ := h.init.form
  obtain ⟨ag, cg, h2, _⟩ := h.goal.form
  obtain ⟨ao, co, h3, hmo⟩ := h.ops.form
  subst h1 h2 h3
  have K1 := (Keeps.refl (fun _ => False) w).alloc (.cells #[.int .i64 t.n, .slice ai t.init.length ci, .slice ag t.goal.length cg, .slice ao t.ops.length co] 25)
  have KA := K1.alloc (.cells #[.int .i64 0, .int .i64 0] 29)
  have HT := Lib.hid (h.keeps0 KA); have HP := Lib.hid (hp.keeps0 KA)
  have HB := Lib.hid ((Four.new w (.int .i64 t.n) (.slice ai t.init.length ci) (.slice ag t.goal.length cg) (.slice ao t.ops.length co) 25).keeps0 ((Keeps.refl _ _).alloc (.cells #[.int .i64 0, .int .i64 0] 29)))
  have HF := Lib.hid (show Flt w ((w.alloc (.cells #[.int .i64 t.n, .slice ai t.init.length ci, .slice ag t.goal.length cg, .slice ao t.ops.length co] 25)).alloc (.cells #[.int .i64 0, .int .i64 0] 29)) (w.heap.size + 1) 29 from
    ⟨by have := heap_alloc_new (w.alloc (.cells #[.int .i64 t.n, .slice ai t.init.length ci, .slice ag t.goal.length cg, .slice ao t.ops.length co] 25)) (.cells #[.int .i64 0, .int .i64 0] 29); rwa [World.size_alloc] at this, by omega, KA⟩)
  have OK := Lib.hid ok; have HIN := Lib.hid hin
  have hfew := ok.few
  clear h K1 KA hp ok hin
  go_enter Tryz.func45, Tryz.ntmps45
  go_upto_region 1 with fail
  generalize ((w.alloc (.cells #[.int .i64 t.n, .slice ai t.init.length ci, .slice ag t.goal.length cg, .slice ao t.ops.length co] 25)).alloc (.cells #[.int .i64 0, .int .i64 0] 29)) = w1 at HB HT HF HP ⊢
  have hbx := HB.out.lt
  obtain ⟨d0, d1, d2, d3⟩ := HB.out
  go_wp2_with fail
  refine (taskFault_any _ _ _ _ t HT.out).mono ?_; rintro e w2 ⟨rfl, hk⟩
  rw [taskFault_ok OK.out]
  have KB := (Keeps.refl (fun _ => False) w2).alloc (.cells #[.int .i64 0, .int .i64 0] 29)
  have HB3 := Lib.hid (HB.out.keeps0 (hk.trans KB)); have HP3 := Lib.hid (HP.out.keeps0 (hk.trans KB)); have HF3 := Lib.hid (HF.out.keeps0 (hk.trans KB))
  have F0 := Lib.hid (heap_alloc_new w2 (.cells #[.int .i64 0, .int .i64 0] 29))
  have hlt2 : w.heap.size + 1 < w2.heap.size := Nat.lt_of_lt_of_le HF.out.cells.2.2.2.2 hk.size
  clear d0 d1 d2 d3 hbx hk KB HB HT HF HP
  go_upto_region 2 with fail
  generalize w2.alloc (.cells #[.int .i64 0, .int .i64 0] 29) = w3 at HB3 HF3 HP3 F0 ⊢
  generalize w2.heap.size = b3 at F0 hlt2 ⊢
  obtain ⟨p0, p1, y0, y1, pl⟩ := pair_cells F0.out
  have hbx := HB3.out.lt
  obtain ⟨d0, d1, d2, d3⟩ := HB3.out
  go_wp2_with fail
  refine (stepsFault_good _ _ p (t.ops.length : Int) HP3.out hl HIN.out (by omega)).mono ?_; rintro e w4 ⟨rfl, hk⟩
  have HF4 := Lib.hid (HF3.out.keeps0 hk)
  have F4 := hk.heap F0.out (fun h => h)
  clear p0 p1 y0 y1 pl d0 d1 d2 d3 hbx hk
  obtain ⟨p0, p1, y0, y1, pl⟩ := pair_cells F4
  obtain ⟨e0, e1, z0, z1, hF⟩ := HF4.out.cells
  have hne : b3 ≠ w.heap.size + 1 := by omega
  have i0 := setCell_id p0
  have i1 := setCell_id p1
  go_wp2_with fail
  refine bodyPost_ret (results_cell_row rfl _ _ (w.heap.size + 1) 29 _ (0, 0) _ rfl (HF4.out.set (.int .i64 0) (.int .i64 0)).1 Tryz.underlying29 rfl (by kernel_rfl)) rfl ?_
  exact ⟨rfl, (HF4.out.set _ _).2⟩

end Go.Proofs.YtjcgkmodmjckjaaGreat

namespace Go.Proofs.YtjcgkmodmjckjaaGreat
open Go.RowKit

theorem costL_is (t : Tsk) : ∀ q : List Nat, costL t (intsP q) = costN (wordsOf t.ops) q
  | [] => rfl
  | a :: r => by
    have h := costL_is t r
    unfold intsP at h ⊢
    rw [List.map_cons, costL, costN, h]
    congr 1
    unfold costAt wordsOf
    rw [List.getElem?_map, Int.toNat_natCast, Option.map_map]
    rfl

theorem goal_reached {t : Tsk} (ok : t.Ok) {q : List Nat} {y : Nat} (hr : runOps (wordsOf t.ops) (wd t.init) q = some y) (ha : goalB (wd t.goal) y = true) : goalW t y = true := by
  rw [goalW_goalB ok (good_reach ok (good_wd (by have := ok.n1; omega) ok.init) (reach_run q .refl hr))]
  exact ha

theorem fld_fault (x y : Value) (W : World) : (Instr.field 29 (.agg #[x, y]) 0).run Tryz.prog W = .ok x W := by kernel_rfl

set_option maxRecDepth 100000 in
set_option maxHeartbeats 4000000 in
theorem isBest_any (w : World) (vi vg vo vp : Value) (t : Tsk) (l : List Nat) (b : Int) (fnd : Bool) (lp : List Int) (c n : Int) {n0 : Int} (h : TaskAt w vi vg vo t) (ok : t.Ok) (hx : explored t = some l) (hb : BestT t b) (hs : stepsB b ≤ 60) (hp : Ints w vp lp) (hg : BPlanG t l b fnd lp c n0) :
    Calls Tryz.prog 17 #[.agg #[.int .i64 t.n, vi, vg, vo], resV fnd vp c n] w fun e w' => e = .returned (.bool true) ∧ Keeps (fun _ => False) w w' := by
  obtain ⟨ai, ci, h1, _⟩ := h.init.form
  obtain ⟨ag, cg, h2, _⟩ := h.goal.form
  obtain ⟨ao, co, h3, hmo⟩ := h.ops.form
  obtain ⟨ap, cp, h4, hml⟩ := hp.form
  subst h1 h2 h3 h4
  have K1 := (Keeps.refl (fun _ => False) w).alloc (.cells #[.int .i64 t.n, .slice ai t.init.length ci, .slice ag t.goal.length cg, .slice ao t.ops.length co] 25)
  have K2 := (Keeps.refl (fun _ => False) (w.alloc (.cells #[.int .i64 t.n, .slice ai t.init.length ci, .slice ag t.goal.length cg, .slice ao t.ops.length co] 25))).alloc (.cells #[.bool fnd, .slice ap lp.length cp, .int .i64 c, .int .i64 n] 41)
  have HB := Lib.hid ((Four.new w (.int .i64 t.n) (.slice ai t.init.length ci) (.slice ag t.goal.length cg) (.slice ao t.ops.length co) 25).keeps0 K2)
  have hr := Four.new (w.alloc (.cells #[.int .i64 t.n, .slice ai t.init.length ci, .slice ag t.goal.length cg, .slice ao t.ops.length co] 25)) (.bool fnd) (.slice ap lp.length cp) (.int .i64 c) (.int .i64 n) 41
  rw [World.size_alloc] at hr
  have HR := Lib.hid hr
  have HT := Lib.hid (h.keeps0 (K1.trans K2)); have HP := Lib.hid (hp.keeps0 (K1.trans K2)); have HK := Lib.hid (K1.trans K2)
  have OK := Lib.hid ok; have HX := Lib.hid hx; have HBT := Lib.hid hb; have HG := Lib.hid hg
  clear h K1 K2 hr hp ok hx hb hg
  have hfld := fld_fault (.int .i64 0) (.int .i64 0)
  simp only [resV]
  go_enter Tryz.func17, Tryz.ntmps17
  go_upto_region 1 with fail
  generalize ((w.alloc (.cells #[.int .i64 t.n, .slice ai t.init.length ci, .slice ag t.goal.length cg, .slice ao t.ops.length co] 25)).alloc (.cells #[.bool fnd, .slice ap lp.length cp, .int .i64 c, .int .i64 n] 41)) = w1 at HB HR HT HP HK ⊢
  generalize w.heap.size = bt at HB HR ⊢
  have hbx := HB.out.lt
  obtain ⟨d0, d1, d2, d3⟩ := HB.out
  go_wp2_with fail
  refine (bestPlans_any _ _ _ _ t HT.out OK.out HX.out).mono ?_; rintro e w2 ⟨b', rfl, hb', hk⟩
  obtain rfl : b' = b := LeastOf.unique hb' HBT.out
  have HB2 := Lib.hid (HB.out.keeps0 hk); have HR2 := Lib.hid (HR.out.keeps0 hk); have HT2 := Lib.hid (HT.out.keeps0 hk); have HP2 := Lib.hid (HP.out.keeps0 hk); have HK2 := Lib.hid (HK.out.trans hk)
  clear d0 d1 d2 d3 hbx hk hb' HB HR HT HP HK
  obtain ⟨r0, r1, r2, r3⟩ := HR2.out
  have hlr := HR2.out.lt
  have hbx := HB2.out.lt
  obtain ⟨d0, d1, d2, d3⟩ := HB2.out
  by_cases h0 : b' < 0
  · have ev : bestV b' = .tuple #[.int .i64 0, .int .i64 0, .bool false] := by unfold bestV; rw [if_pos h0]
    obtain ⟨rfl, rfl, rfl⟩ := HG.out.none_ h0
    rw [ev]
    clear ev h0 hs
    go_wp2_with fail
    go_ret
    exact ⟨rfl, HK2.out⟩
  · have hge : 0 ≤ b' := by omega
    have ev : bestV b' = .tuple #[.int .i64 (b' / 4096), .int .i64 (b' % 4096), .bool true] := by unfold bestV; rw [if_neg h0]
    obtain ⟨rfl, q, y, rfl, hrun, hacc, hlen, hcost, hc⟩ := HG.out.some_ hge
    have hgw := goal_reached OK.out hrun hacc
    have hcl : costL t (intsP q) = b' / 4096 := by rw [costL_is]; exact hcost
    rw [hcl] at hc
    subst hc
    have hs2 : b' % 4096 ≤ 60 := by unfold stepsB at hs; rw [if_neg h0] at hs; exact hs
    have hl2 : ((intsP q).length : Int) = b' % 4096 := by unfold intsP; rw [List.length_map]; exact hlen
    have hl60 : (intsP q).length ≤ 60 := by omega
    have hq : q.length ≤ 60 := by omega
    have HRUN := Lib.hid hrun; have HIN := Lib.hid (planIn_run hrun)
    rw [ev]
    clear ev h0 hs hrun hacc hlen hcost hs2
    generalize b' / 4096 = cc at hcl HR2 HG r2 ⊢
    generalize b' % 4096 = ss at hl2 HR2 HG ⊢
    go_wp2_with fail
    refine (planFaultR_good _ _ _ _ _ t (intsP q) HT2.out OK.out HP2.out hl60 HIN.out).mono ?_; rintro e w3 ⟨rfl, hk⟩
    have HB3 := Lib.hid (HB2.out.keeps0 hk); have HR3 := Lib.hid (HR2.out.keeps0 hk); have HT3 := Lib.hid (HT2.out.keeps0 hk); have HP3 := Lib.hid (HP2.out.keeps0 hk); have HK3 := Lib.hid (HK2.out.trans hk)
    clear d0 d1 d2 d3 r0 r1 r2 r3 hlr hbx hk HB2 HR2 HT2 HP2 HK2
    obtain ⟨r0, r1, r2, r3⟩ := HR3.out
    have hlr := HR3.out.lt
    have hbx := HB3.out.lt
    obtain ⟨d0, d1, d2, d3⟩ := HB3.out
    go_wp2_with fail
    refine (solvesR_good _ _ _ _ _ t y q HT3.out OK.out HP3.out HRUN.out (by omega)).mono ?_; rintro e w4 ⟨rfl, hk⟩
    rw [hgw]
    have HB4 := Lib.hid (HB3.out.keeps0 hk); have HR4 := Lib.hid (HR3.out.keeps0 hk); have HT4 := Lib.hid (HT3.out.keeps0 hk); have HP4 := Lib.hid (HP3.out.keeps0 hk); have HK4 := Lib.hid (HK3.out.trans hk)
    clear d0 d1 d2 d3 r0 r1 r2 r3 hlr hbx hk HB3 HR3 HT3 HP3 HK3
    obtain ⟨r0, r1, r2, r3⟩ := HR4.out
    have hlr := HR4.out.lt
    have hbx := HB4.out.lt
    obtain ⟨d0, d1, d2, d3⟩ := HB4.out
    go_wp2_with fail
    refine (costOf_any _ _ _ _ _ t (intsP q) HT4.out OK.out HP4.out HIN.out (by omega)).mono ?_; rintro e w5 ⟨rfl, hk⟩
    rw [hcl]
    have HK5 := Lib.hid (HK4.out.trans hk)
    clear hk
    go_wp2_with fail
    go_ret
    exact ⟨rfl, HK5.out⟩

theorem match_cases {t : Tsk} {fnd : Bool} {lp : List Int} {c n fc fi c' i' : Int} (h : BPlanIs t fnd lp c n fc fi) (g : BestFl t c' i') :
    (c' ≠ 0 ∧ fc = c' ∧ fi = i' ∧ fnd = false ∧ lp = [] ∧ c = 0 ∧ n = 0) ∨ (c' = 0 ∧ fc = 0 ∧ fi = 0 ∧ t.Ok ∧ ∃ l b, explored t = some l ∧ BestT t b ∧ stepsB b ≤ 60 ∧ BPlanG t l b fnd lp c n) := by
  rcases h with ⟨h1, h2, h3⟩ | ⟨h1, h2, l, b, h3, h4, h5⟩
  · rcases g with ⟨g1, g2⟩ | ⟨_, g2, _⟩
    · rw [h2] at g2; cases g2; exact .inl ⟨h1, rfl, rfl, h3⟩
    · rw [h2] at g2; cases g2; exact absurd rfl h1
  · rcases g with ⟨g1, g2⟩ | ⟨_, _, l', b', g3, g4, g5⟩
    · rw [h1] at g2; cases g2; exact absurd rfl g1
    · obtain rfl := LeastOf.unique g4 h4
      rcases h5 with ⟨a1, a2, a3, a4⟩ | ⟨a1, a2, a3, a4⟩
      · rcases g5 with ⟨_, e2, e3⟩ | ⟨e1, _⟩
        · exact .inl ⟨by rw [e2]; decide, by rw [a2, e2], by rw [a3, e3], a4⟩
        · omega
      · rcases g5 with ⟨e1, _⟩ | ⟨_, e2, e3⟩
        · omega
        · exact .inr ⟨e2, a2, a3, h2, l, _, h3, h4, a1, a4⟩

end Go.Proofs.YtjcgkmodmjckjaaGreat

namespace Go.Proofs.YtjcgkmodmjckjaaGreat
open Go.RowKit

set_option maxRecDepth 100000 in
set_option maxHeartbeats 1000000 in
theorem symPlanLaw_any (w : World) (vi vg vo : Value) (t : Tsk) (h : TaskAt w vi vg vo t) :
    Calls Tryz.prog 4 #[.agg #[.int .i64 t.n, vi, vg, vo]] w fun e w' => e = .returned (.bool true) ∧ Keeps (fun _ => False) w w' := by
  obtain ⟨ai, ci, h1, _⟩ := h.init.form
  obtain ⟨ag, cg, h2, _⟩ := h.goal.form
  obtain ⟨ao, co, h3, hmo⟩ := h.ops.form
  subst h1 h2 h3
  have HB := Lib.hid (Four.new w (.int .i64 t.n) (.slice ai t.init.length ci) (.slice ag t.goal.length cg) (.slice ao t.ops.length co) 25)
  have K1 := (Keeps.refl (fun _ => False) w).alloc (.cells #[.int .i64 t.n, .slice ai t.init.length ci, .slice ag t.goal.length cg, .slice ao t.ops.length co] 25)
  have HT := Lib.hid (h.keeps0 K1); have HK := Lib.hid K1
  clear h K1
  go_enter Tryz.func4, Tryz.ntmps4
  go_upto_region 1 with fail
  generalize (w.alloc (.cells #[.int .i64 t.n, .slice ai t.init.length ci, .slice ag t.goal.length cg, .slice ao t.ops.length co] 25)) = w1 at HB HT HK ⊢
  generalize w.heap.size = bt at HB ⊢
  go_wp2_with fail
  refine (symExample_any _).mono ?_; rintro e w2 ⟨rfl, hk⟩
  have HB1 := Lib.hid (HB.out.keeps0 hk); have HT1 := Lib.hid (HT.out.keeps0 hk); have HK1 := Lib.hid (HK.out.trans hk)
  clear HB HT HK
  clear hk
  have hbxd := HB1.out.lt
  obtain ⟨d0, d1, d2, d3⟩ := HB1.out
  go_wp2_with fail
  refine (wide_any _ _ _ _ t HT1.out).mono ?_; rintro e w3 ⟨rfl, hk⟩
  clear hbxd d0 d1 d2 d3
  have HB2 := Lib.hid (HB1.out.keeps0 hk); have HT2 := Lib.hid (HT1.out.keeps0 hk); have HK2 := Lib.hid (HK1.out.trans hk)
  clear HB1 HT1 HK1
  clear hk
  cases hwd : wideB t with
  | true =>
    go_wp2_with fail
    go_ret
    exact ⟨rfl, HK2.out⟩
  | false =>
    clear hwd
    have hbxd := HB2.out.lt
    obtain ⟨d0, d1, d2, d3⟩ := HB2.out
    go_wp2_with fail
    refine (splan_any _ _ _ _ t HT2.out).mono ?_; rintro e w4 ⟨hk, fnd, vp, lp, c, n, fc, fi, rfl, hi, hr⟩
    obtain ⟨ap, cp, hvp, _⟩ := hi.form
    subst hvp
    have HIS := Lib.hid hr
    clear hr
    clear hbxd d0 d1 d2 d3
    simp only [resV, fltV]
    have KA := (Keeps.refl (fun _ => False) w4).alloc (.cells #[.bool fnd, .slice ap lp.length cp, .int .i64 c, .int .i64 n] 41)
    have KB := (Keeps.refl (fun _ => False) (w4.alloc (.cells #[.bool fnd, .slice ap lp.length cp, .int .i64 c, .int .i64 n] 41))).alloc (.cells #[.int .i64 fc, .int .i64 fi] 29)
    have KC := hk.trans (KA.trans KB)
    have HB3 := Lib.hid (HB2.out.keeps0 KC); have HT3 := Lib.hid (HT2.out.keeps0 KC); have HK3 := Lib.hid (HK2.out.trans KC)
    clear HB2 HT2 HK2
    have HR := Lib.hid (KB.heap (heap_alloc_new w4 (.cells #[.bool fnd, .slice ap lp.length cp, .int .i64 c, .int .i64 n] 41)) (fun h => h))
    have hf := heap_alloc_new (w4.alloc (.cells #[.bool fnd, .slice ap lp.length cp, .int .i64 c, .int .i64 n] 41)) (.cells #[.int .i64 fc, .int .i64 fi] 29)
    rw [World.size_alloc] at hf
    have HF := Lib.hid (hf)
    have HI := Lib.hid (hi.keeps0 (KA.trans KB))
    clear hk KA KB KC hf hi
    go_upto_region 6 with fail
    generalize (w4.alloc (.cells #[.bool fnd, .slice ap lp.length cp, .int .i64 c, .int .i64 n] 41)).alloc (.cells #[.int .i64 fc, .int .i64 fi] 29) = w5 at HB3 HT3 HK3 HR HF HI ⊢
    generalize w4.heap.size = b4 at HR HF ⊢
    have hbxd := HB3.out.lt
    obtain ⟨d0, d1, d2, d3⟩ := HB3.out
    go_wp2_with fail
    refine (bestFault_any _ _ _ _ t HT3.out).mono ?_; rintro e w6 ⟨c', i', rfl, hfl, hk⟩
    clear hbxd d0 d1 d2 d3
    have HM := Lib.hid (match_cases HIS.out.1 hfl)
    have KA := (Keeps.refl (fun _ => False) w6).alloc (.cells #[.int .i64 c', .int .i64 i'] 29)
    have KB := hk.trans KA
    have HB4 := Lib.hid (HB3.out.keeps0 KB); have HT4 := Lib.hid (HT3.out.keeps0 KB); have HK4 := Lib.hid (HK3.out.trans KB); have HR1 := Lib.hid (KB.heap HR.out (fun h => h)); have HF1 := Lib.hid (KB.heap HF.out (fun h => h)); have HI1 := Lib.hid (show Ints _ (.slice ap lp.length cp) lp from HI.out.keeps0 KB)
    clear HB3 HT3 HK3 HR HF HI
    have HG := Lib.hid (heap_alloc_new w6 (.cells #[.int .i64 c', .int .i64 i'] 29))
    clear hk KA KB hfl
    go_upto_region 7 with fail
    generalize w6.alloc (.cells #[.int .i64 c', .int .i64 i'] 29) = w7 at HB4 HT4 HK4 HR1 HF1 HI1 HG ⊢
    generalize w6.heap.size = b6 at HG ⊢
    obtain ⟨r0, r1, r2, r3, rl⟩ := quad_cells HR1.out
    obtain ⟨f0, f1, _, _, fl⟩ := pair_cells HF1.out
    obtain ⟨g0, g1, _, _, gl⟩ := pair_cells HG.out
    rcases HM.out with ⟨hc, rfl, rfl, rfl, rfl, rfl, rfl⟩ | ⟨rfl, rfl, rfl, hok, l, b, hx, hb, hs, hpg⟩
    ·
      have hcb : (fc != 0) = true := by simpa using hc
      clear hc HM
      go_wp2_with fail
      refine (noResult_any _ false _ 0 _ 0 0 (by omega)).mono ?_; rintro e w8 ⟨rfl, hk⟩
      have HK8 := Lib.hid (HK4.out.trans hk)
      clear hk
      go_wp2_with fail
      go_ret
      exact ⟨rfl, HK8.out⟩
    ·
      have OK := Lib.hid hok; have HX := Lib.hid hx; have HBT := Lib.hid hb; have HPG := Lib.hid hpg; have HSB := Lib.hid hs
      clear hok hx hb hpg HM hs
      go_upto_region 9 with fail
      clear r0 r1 r2 r3 rl f0 f1 fl g0 g1 gl
      have KD := (Keeps.refl (fun _ => False) w7).drew
      have HB5 := Lib.hid (HB4.out.keeps0 KD); have HT5 := Lib.hid (HT4.out.keeps0 KD); have HK5 := Lib.hid (HK4.out.trans KD); have HR2 := Lib.hid (KD.heap HR1.out (fun h => h)); have HF2 := Lib.hid (KD.heap HF1.out (fun h => h)); have HI2 := Lib.hid (show Ints _ (.slice ap lp.length cp) lp from HI1.out.keeps0 KD); have HG1 := Lib.hid (KD.heap HG.out (fun h => h))
      clear HB4 HT4 HK4 HR1 HF1 HI1 HG
      obtain ⟨r0, r1, r2, r3, rl⟩ := quad_cells HR2.out
      obtain ⟨f0, f1, _, _, fl⟩ := pair_cells HF2.out
      have hbxd := HB5.out.lt
      obtain ⟨d0, d1, d2, d3⟩ := HB5.out
      clear KD
      go_region_held3 (fun w' => w'.cell? ⟨bt, 0, none⟩ = some (.int .i64 t.n) ∧ w'.cell? ⟨bt, 1, none⟩ = some (.slice ai t.init.length ci) ∧ w'.cell? ⟨bt, 2, none⟩ = some (.slice ag t.goal.length cg) ∧ w'.cell? ⟨bt, 3, none⟩ = some (.slice ao t.ops.length co) ∧ w'.cell? ⟨b4, 0, none⟩ = some (.bool fnd) ∧ w'.cell? ⟨b4, 1, none⟩ = some (.slice ap lp.length cp) ∧ w'.cell? ⟨b4, 2, none⟩ = some (.int .i64 c) ∧ w'.cell? ⟨b4, 3, none⟩ = some (.int .i64 n) ∧ w'.cell? ⟨b4 + 1, 0, none⟩ = some (.int .i64 0))
        (go_keep)
        (first
          | (go_at_call 17; refine (isBest_any _ _ _ _ _ t l b fnd lp c n HT5.out OK.out HX.out HBT.out HSB.out HI2.out HPG.out).mono ?_; rintro en w8 ⟨rfl, hk8⟩; have HT8 := Lib.hid (HT5.out.keeps0 hk8); have K8 := Lib.hid (HK5.out.trans hk8); have a0 := hk8.cell d0 (fun h => h); have a1 := hk8.cell d1 (fun h => h); have a2 := hk8.cell d2 (fun h => h); have a3 := hk8.cell d3 (fun h => h); have e0 := hk8.cell r0 (fun h => h); have e1 := hk8.cell r1 (fun h => h); have e2 := hk8.cell r2 (fun h => h); have e3 := hk8.cell r3 (fun h => h); have e4 := hk8.cell f0 (fun h => h); clear hk8)
          | (go_at_call 18; refine (cheaper_any _ _ _ _ t HT8.out OK.out HX.out).mono ?_; rintro en w9 ⟨b2, k2, rfl, hb2, hc2, hk9⟩; have HNK := Lib.hid (show n = (k2 : Int) from by obtain ⟨kn, h1, h2⟩ := HIS.out.2 rfl b2 hb2; rw [h1, h2.unique hc2]); have hqn : (n == (k2 : Int)) = true := (by rw [HNK.out]; simp); have K9 := Lib.hid (K8.out.trans hk9); have i0 := hk9.cell a0 (fun h => h); have i1 := hk9.cell a1 (fun h => h); have i2 := hk9.cell a2 (fun h => h); have i3 := hk9.cell a3 (fun h => h); have j0 := hk9.cell e0 (fun h => h); have j1 := hk9.cell e1 (fun h => h); have j2 := hk9.cell e2 (fun h => h); have j3 := hk9.cell e3 (fun h => h); have j4 := hk9.cell e4 (fun h => h); clear hk9 hb2 hc2))
      all_goals
        go_wp2_with fail
        go_ret
        exact ⟨rfl, K9.out⟩

end Go.Proofs.YtjcgkmodmjckjaaGreat
