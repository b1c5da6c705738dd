/- The reference's StepsFault, Ends, Works, Solves and PlanFault, for a plan that can be followed. noResult, isOne, StateFault of the reference. The reference's IsBest, at a best plan; the law's bestMatches. bothends: the example of the laws. bothends: BothendsPlanMatchesSpec walked. bothends: what the reference's costs and prices say of a middle state, in plain Lean. bothends: BothendsMiddleMatchesSpec walked. bothends: BothendsPartsAreCheapest walked. No condition beyond what each theorem says. -/
import Derived.Test.YtdonadeodioplaaB9
import Derived.Test.YtdonadeodioplaaB11
import Derived.Test.YtdonadeodioplaaB2
import Derived.Test.YtdonadeodioplaaB3
import Derived.Test.YtdonadeodioplaaB4
import Derived.Test.YtdonadeodioplaaB7

namespace Go.Proofs.Ytdonadeodioplaa
open Go.RowKit

set_option maxRecDepth 100000 in
set_option maxHeartbeats 2000000 in
theorem stepsFault_good (w : World) (vp : Value) (p : List Int) (n : Int) (hp : Ints w vp p) (hl : p.length ≤ 60) (hin : ∀ x ∈ p, 0 ≤ x ∧ x < n) (hn : 0 ≤ n ∧ n ≤ 1000000) :
    Calls Try.prog 114 #[.int .i64 n, vp] w fun e w' => e = .returned (.agg #[.int .i64 0, .int .i64 0]) ∧ Keeps (fun _ => False) w w' := by
  obtain ⟨ap, cp, h1, hpl⟩ := hp.form
  subst h1
  have K1 := (Keeps.refl (fun _ => False) w).alloc (.cells #[.int .i64 0, .int .i64 0] 30)
  have HF := Lib.hid (show Flt w (w.alloc (.cells #[.int .i64 0, .int .i64 0] 30)) w.heap.size 30 from ⟨heap_alloc_new w _, Nat.le_refl _, K1⟩)
  have HC := Lib.hid ((hp.keeps0 K1).cell rfl)
  have HIN := Lib.hid hin
  clear hp K1 hin
  have hgt : decide (60 < (p.length : Int)) = false := by simp; omega
  go_enter Try.func114, Try.ntmps114
  go_upto_region 1 with fail
  generalize (w.alloc (.cells #[.int .i64 0, .int .i64 0] 30)) = w1 at HF HC ⊢
  go_wp2_with fail
  go_loopw [5] (fun v5 wr => ∃ i : Nat, i ≤ p.length ∧ v5 = .int .i64 (i : Int) ∧ Keeps (fun _ => False) w1 wr) (fun v5 _ => p.length - (intOf v5).toNat)
  case atStart => exact ⟨0, Nat.zero_le _, rfl, Keeps.refl _ _⟩
  case round =>
    obtain ⟨i, hi, rfl, hkr⟩ := hrel
    have HKR := Lib.hid hkr
    clear hkr
    by_cases hlt : i < p.length
    · obtain ⟨x, hx⟩ : ∃ x, p[i]? = some x := ⟨_, List.getElem?_eq_getElem hlt⟩
      obtain ⟨bp, op, rfl, hpc⟩ := HC.out (by omega)
      have q1 := HKR.out.cell (hpc i x hx) (fun h => h)
      have hxn := HIN.out x (List.mem_of_getElem? hx)
      clear hpc hx
      have hilt : (i : Int) < (p.length : Int) := by omega
      go_wp2_with fail
      refine (in_true _ x 0 (n - 1) (by unfold inB; simp; omega)).mono ?_; rintro e w2 ⟨rfl, hw⟩
      subst hw
      go_wp2_with fail
      go_roundw
      case rel => exact ⟨i + 1, by omega, by go_num, HKR.out⟩
      case measure => simp [intOf]; omega
    · obtain rfl : i = p.length := by omega
      have HF2 := Lib.hid (HF.out.keeps0 HKR.out)
      obtain ⟨e0, e1, z0, z1, hF⟩ := HF2.out.cells
      go_wp2_with fail
      refine bodyPost_ret (results_cell_row rfl _ _ w.heap.size 30 _ (0, 0) _ rfl (HF2.out.set (.int .i64 0) (.int .i64 0)).1 Try.underlying30 rfl (by kernel_rfl)) rfl ?_
      exact ⟨rfl, (HF2.out.set (.int .i64 0) (.int .i64 0)).2⟩

theorem run_take {ops : List Wop} : ∀ {q : List Nat} {x y : Nat}, runOps ops x q = some y → ∀ i, i < q.length → ∃ z a o, runOps ops x (q.take i) = some z ∧ q[i]? = some a ∧ ops[a]? = some o ∧ o.can z = true ∧ runOps ops x (q.take (i + 1)) = some (o.next z) := fun {q x y} hr i hi => by
  obtain ⟨z, hz, hd⟩ := run_cut hr i
  obtain ⟨a, ha⟩ : ∃ a, q[i]? = some a := ⟨_, List.getElem?_eq_getElem hi⟩
  rw [drop_getS ha, runOps] at hd
  cases ho : ops[a]? with
  | none => rw [ho] at hd; cases hd
  | some o =>
    rw [ho] at hd; simp only at hd
    by_cases hc : o.can z = true
    · exact ⟨z, a, o, hz, ha, ho, hc, by rw [take_getS ha, runOps_append, hz]; simp [runOps, ho, hc]⟩
    · rw [if_neg hc] at hd; cases hd

set_option maxRecDepth 100000 in
set_option maxHeartbeats 4000000 in
theorem ends_good (w : World) (vi vg vo vs vp : Value) (t : Tsk) (x y : Nat) (q : List Nat) (h : TaskAt w vi vg vo t) (ok : t.Ok) (hs : Ints w vs (facts x)) (hg : Good t.n x) (hp : Ints w vp (intsP q)) (hr : runOps (wordsOf t.ops) x q = some y) (hl : q.length ≤ 100000) :
    Calls Try.prog 133 #[.agg #[.int .i64 t.n, vi, vg, vo], vs, vp] w fun e w' => ∃ v, e = .returned (.tuple #[v, .bool true]) ∧ Ints w' v (facts y) ∧ Keeps (fun _ => False) w w' := by
  obtain ⟨ai, ci, h1, _⟩ := h.init.form
  obtain ⟨ag, cg, h2, _⟩ := h.goal.form
  obtain ⟨ao, co, h3, hmo⟩ := h.ops.form
  obtain ⟨ap, cp, h4, hpl⟩ := hp.form
  have hil : (intsP q).length = q.length := by simp [intsP]
  rw [hil] at h4
  subst h1 h2 h3 h4
  have HB := Lib.hid (Four.new w (.int .i64 t.n) (.slice ai t.init.length ci) (.slice ag t.goal.length cg) (.slice ao t.ops.length co) 25)
  have K1 := (Keeps.refl (fun _ => False) w).alloc (.cells #[.int .i64 t.n, .slice ai t.init.length ci, .slice ag t.goal.length cg, .slice ao t.ops.length co] 25)
  have HT := Lib.hid (h.keeps0 K1); have HK := Lib.hid K1; have HS := Lib.hid (hs.keeps0 K1); have HCP := Lib.hid ((hp.keeps0 K1).cell rfl)
  have OK := Lib.hid ok; have HG := Lib.hid hg; have HR := Lib.hid hr; have HIL := Lib.hid hil
  clear h K1 hs hp ok hg hr hil
  go_enter Try.func133, Try.ntmps133
  go_upto_region 1 with fail
  generalize (w.alloc (.cells #[.int .i64 t.n, .slice ai t.init.length ci, .slice ag t.goal.length cg, .slice ao t.ops.length co] 25)) = w1 at HB HT HK HS HCP ⊢
  generalize w.heap.size = bt at HB ⊢
  go_wp2_with fail
  go_loopw [1, 8] (fun v1 v8 wr => ∃ (i z : Nat), i ≤ q.length ∧ v8 = .int .i64 (i : Int) ∧ runOps (wordsOf t.ops) x (q.take i) = some z ∧ Good t.n z ∧ Ints wr v1 (facts z) ∧ Keeps (fun _ => False) w1 wr) (fun _ v8 _ => q.length - (intOf v8).toNat)
  case atStart => exact ⟨0, x, Nat.zero_le _, rfl, rfl, HG.out, HS.out, Keeps.refl _ _⟩
  case round =>
    obtain ⟨i, z, hi, rfl, hz, hgz, hv, hkr⟩ := hrel
    obtain ⟨av, cv, hvf, _⟩ := hv.form
    subst hvf
    have HV := Lib.hid hv; have HKR := Lib.hid hkr; have HGZ := Lib.hid hgz; have HZ := Lib.hid hz
    clear hv hkr hgz hz
    by_cases hlt : i < q.length
    · obtain ⟨z', a, o, g1, g2, g3, g4, g5⟩ := run_take HR.out i hlt
      obtain rfl : z' = z := by have := g1.symm.trans HZ.out; cases this; rfl
      obtain ⟨o', ho', rfl⟩ : ∃ o', t.ops[a]? = some o' ∧ o'.word = o := by
        unfold wordsOf at g3
        rw [List.getElem?_map] at g3
        obtain ⟨o', h1, h2⟩ := Option.map_eq_some_iff.1 g3
        exact ⟨o', h1, h2⟩
      obtain ⟨hap, haf, hgn⟩ := good_next (by have := OK.out.n1; omega) (OK.out.ops o' (List.mem_of_getElem? ho')) HGZ.out
      rw [g4] at hap
      obtain ⟨bp, op, rfl, hpc⟩ := HCP.out (by rw [HIL.out]; omega)
      have q1 := HKR.out.cell (hpc i (a : Int) (by unfold intsP; rw [List.getElem?_map, g2]; rfl)) (fun h => h)
      have HAP := Lib.hid hap; have HAF := Lib.hid haf; have HGN := Lib.hid hgn; have HOO := Lib.hid ho'; have HNX := Lib.hid g5
      have HBq := Lib.hid (HB.out.keeps0 HKR.out); have HTq := Lib.hid (HT.out.keeps0 HKR.out)
      have hbx := HBq.out.lt
      obtain ⟨d0, d1, d2, d3⟩ := HBq.out
      have hilt : (i : Int) < (q.length : Int) := by omega
      have hi0 : (0 : Int) ≤ (i : Int) := by omega
      clear g1 g2 g3 g4 g5 hpc hap haf hgn ho'
      go_upto_region 4 with fail
      go_still_tail 6, (by kernel_rfl)
      change wpList _ _ _ _ _ wr.drew
      have KD := (Keeps.refl (fun _ => False) wr).drew
      have HTD := Lib.hid (HTq.out.keeps0 KD); have HVD := Lib.hid (show Ints wr.drew (.slice av (facts z').length cv) (facts z') from HV.out.keeps0 KD); have HBD := Lib.hid (HBq.out.keeps0 KD); have KRD := Lib.hid (HKR.out.trans KD)
      have q1 := KD.cell q1 (fun h => h)
      clear KD d0 d1 d2 d3 hbx HBq HTq HV HKR
      generalize wr.drew = w4 at HTD HVD HBD KRD q1 ⊢
      go_wp2_with fail
      refine (applies_any _ _ _ _ _ t (facts z') a o' HTD.out HVD.out HOO.out).mono ?_; rintro en w5 ⟨rfl, hk⟩
      rw [HAP.out]
      have HT5 := Lib.hid (HTD.out.keeps0 hk); have HV5 := Lib.hid (show Ints w5 (.slice av (facts z').length cv) (facts z') from HVD.out.keeps0 hk); have HB5 := Lib.hid (HBD.out.keeps0 hk); have KR5 := Lib.hid (KRD.out.trans hk)
      have q1 := hk.cell q1 (fun h => h)
      clear hk HTD HVD HBD KRD
      have hbx := HB5.out.lt
      obtain ⟨d0, d1, d2, d3⟩ := HB5.out
      go_upto_region 6 with fail
      go_still_tail 6, (by kernel_rfl)
      change wpList _ _ _ _ _ w5.drew
      have KD := (Keeps.refl (fun _ => False) w5).drew
      have HTD := Lib.hid (HT5.out.keeps0 KD); have HVD := Lib.hid (show Ints w5.drew (.slice av (facts z').length cv) (facts z') from HV5.out.keeps0 KD); have KRD := Lib.hid (KR5.out.trans KD)
      clear KD d0 d1 d2 d3 hbx HB5 HT5 HV5 KR5 q1
      generalize w5.drew = w6 at HTD HVD KRD ⊢
      go_wp2_with fail
      refine (after_any _ _ _ _ _ t (facts z') a o' HTD.out HVD.out HOO.out OK.out.n0 (by have := OK.out.n1; omega)).mono ?_; rintro en w7 ⟨v, rfl, hown, hk⟩
      have HV7 := Lib.hid (show Ints w7 v (facts (o'.word.next z')) by have := Ints.of_own hown; rwa [HAF.out] at this)
      have KR7 := Lib.hid (KRD.out.trans hk)
      clear hown hk
      go_wp2_with fail
      go_roundw
      case rel => exact ⟨i + 1, o'.word.next z', by omega, by go_num, HNX.out, HGN.out, HV7.out, KR7.out⟩
      case measure => simp [intOf]; omega
    · obtain rfl : i = q.length := by omega
      have hzy : z = y := by have := HZ.out; rw [List.take_length] at this; have := this.symm.trans HR.out; cases this; rfl
      subst hzy
      go_wp2_with fail
      go_ret2
      exact ⟨_, rfl, HV.out, HK.out.trans HKR.out⟩

set_option maxRecDepth 100000 in
set_option maxHeartbeats 2000000 in
theorem worksR_good (w : World) (vi vg vo vs vp : Value) (t : Tsk) (x y : Nat) (q : List Nat) (h : TaskAt w vi vg vo t) (ok : t.Ok) (hs : Ints w vs (facts x)) (hg : Good t.n x) (hp : Ints w vp (intsP q)) (hr : runOps (wordsOf t.ops) x q = some y) (hl : q.length ≤ 100000) :
    Calls Try.prog 115 #[.agg #[.int .i64 t.n, vi, vg, vo], vs, vp] w fun e w' => e = .returned (.bool (goalW t y)) ∧ Keeps (fun _ => False) w w' := by
  obtain ⟨ai, ci, h1, _⟩ := h.init.form
  obtain ⟨ag, cg, h2, _⟩ := h.goal.form
  obtain ⟨ao, co, h3, hmo⟩ := h.ops.form
  subst h1 h2 h3
  have HB := Lib.hid (Four.new w (.int .i64 t.n) (.slice ai t.init.length ci) (.slice ag t.goal.length cg) (.slice ao t.ops.length co) 25)
  have K1 := (Keeps.refl (fun _ => False) w).alloc (.cells #[.int .i64 t.n, .slice ai t.init.length ci, .slice ag t.goal.length cg, .slice ao t.ops.length co] 25)
  have HT := Lib.hid (h.keeps0 K1); have HK := Lib.hid K1; have HS := Lib.hid (hs.keeps0 K1); have HP := Lib.hid (hp.keeps0 K1)
  have OK := Lib.hid ok; have HG := Lib.hid hg; have HR := Lib.hid hr
  clear h K1 hs hp ok hg hr
  go_enter Try.func115, Try.ntmps115
  go_upto_region 1 with fail
  generalize (w.alloc (.cells #[.int .i64 t.n, .slice ai t.init.length ci, .slice ag t.goal.length cg, .slice ao t.ops.length co] 25)) = w1 at HB HT HK HS HP ⊢
  generalize w.heap.size = bt at HB ⊢
  have hbx := HB.out.lt
  obtain ⟨d0, d1, d2, d3⟩ := HB.out
  go_wp2_with fail
  refine (ends_good _ _ _ _ _ _ t x y q HT.out OK.out HS.out HG.out HP.out HR.out hl).mono ?_; rintro e w2 ⟨v, rfl, hv, hk⟩
  have HB2 := Lib.hid (HB.out.keeps0 hk); have HT2 := Lib.hid (HT.out.keeps0 hk); have K2 := Lib.hid (HK.out.trans hk); have HV := Lib.hid hv
  clear d0 d1 d2 d3 hbx hk hv
  have hbx := HB2.out.lt
  obtain ⟨d0, d1, d2, d3⟩ := HB2.out
  go_wp2_with fail
  refine (subset_goal _ _ _ t y HT2.out.goal HV.out).mono ?_; rintro e w3 ⟨rfl, rfl⟩
  go_wp2_with fail
  go_ret
  exact ⟨rfl, K2.out⟩

set_option maxRecDepth 100000 in
set_option maxHeartbeats 2000000 in
theorem solvesR_good (w : World) (vi vg vo vp : Value) (t : Tsk) (y : Nat) (q : List Nat) (h : TaskAt w vi vg vo t) (ok : t.Ok) (hp : Ints w vp (intsP q)) (hr : runOps (wordsOf t.ops) (wd t.init) q = some y) (hl : q.length ≤ 100000) :
    Calls Try.prog 99 #[.agg #[.int .i64 t.n, vi, vg, vo], vp] w fun e w' => e = .returned (.bool (goalW t y)) ∧ Keeps (fun _ => False) w w' := by
  obtain ⟨ai, ci, h1, _⟩ := h.init.form
  obtain ⟨ag, cg, h2, _⟩ := h.goal.form
  obtain ⟨ao, co, h3, hmo⟩ := h.ops.form
  subst h1 h2 h3
  have HB := Lib.hid (Four.new w (.int .i64 t.n) (.slice ai t.init.length ci) (.slice ag t.goal.length cg) (.slice ao t.ops.length co) 25)
  have K1 := (Keeps.refl (fun _ => False) w).alloc (.cells #[.int .i64 t.n, .slice ai t.init.length ci, .slice ag t.goal.length cg, .slice ao t.ops.length co] 25)
  have HT := Lib.hid (h.keeps0 K1); have HK := Lib.hid K1; have HP := Lib.hid (hp.keeps0 K1)
  have OK := Lib.hid ok; have HR := Lib.hid hr
  have HG := Lib.hid (good_wd (by have := ok.n1; omega : t.n ≤ 32) ok.init)
  have hfi : facts (wd t.init) = t.init := facts_wd (isSet_mono ok.init (by have := ok.n1; omega))
  have HFI := Lib.hid hfi
  clear h K1 hp ok hr hfi
  go_enter Try.func99, Try.ntmps99
  go_upto_region 1 with fail
  generalize (w.alloc (.cells #[.int .i64 t.n, .slice ai t.init.length ci, .slice ag t.goal.length cg, .slice ao t.ops.length co] 25)) = w1 at HB HT HK HP ⊢
  generalize w.heap.size = bt at HB ⊢
  have hbx := HB.out.lt
  obtain ⟨d0, d1, d2, d3⟩ := HB.out
  go_wp2_with fail
  refine (worksR_good _ _ _ _ _ _ t (wd t.init) y q HT.out OK.out (by rw [HFI.out]; exact HT.out.init) HG.out HP.out HR.out hl).mono ?_; rintro e w2 ⟨rfl, hk⟩
  go_wp2_with fail
  go_ret
  exact ⟨rfl, HK.out.trans hk⟩

set_option maxRecDepth 100000 in
set_option maxHeartbeats 2000000 in
theorem planFaultR_good (w : World) (vi vg vo vp : Value) (t : Tsk) (p : List Int) (h : TaskAt w vi vg vo t) (ok : t.Ok) (hp : Ints w vp p) (hl : p.length ≤ 60) (hin : PlanIn t p) :
    Calls Try.prog 98 #[.agg #[.int .i64 t.n, vi, vg, vo], vp] w fun e w' => e = .returned (.agg #[.int .i64 0, .int .i64 0]) ∧ Keeps (fun _ => False) w w' := by
  obtain ⟨ai, ci, h1, _⟩ := h.init.form
  obtain ⟨ag, cg, h2, _⟩ := h.goal.form
  obtain ⟨ao, co, h3, hmo⟩ := h.ops.form
  subst h1 h2 h3
  have K1 := (Keeps.refl (fun _ => False) w).alloc (.cells #[.int .i64 t.n, .slice ai t.init.length ci, .slice ag t.goal.length cg, .slice ao t.ops.length co] 25)
  have KA := K1.alloc (.cells #[.int .i64 0, .int .i64 0] 30)
  have HT := Lib.hid (h.keeps0 KA); have HP := Lib.hid (hp.keeps0 KA)
  have HB := Lib.hid ((Four.new w (.int .i64 t.n) (.slice ai t.init.length ci) (.slice ag t.goal.length cg) (.slice ao t.ops.length co) 25).keeps0 ((Keeps.refl _ _).alloc (.cells #[.int .i64 0, .int .i64 0] 30)))
  have HF := Lib.hid (show Flt w ((w.alloc (.cells #[.int .i64 t.n, .slice ai t.init.length ci, .slice ag t.goal.length cg, .slice ao t.ops.length co] 25)).alloc (.cells #[.int .i64 0, .int .i64 0] 30)) (w.heap.size + 1) 30 from
    ⟨by have := heap_alloc_new (w.alloc (.cells #[.int .i64 t.n, .slice ai t.init.length ci, .slice ag t.goal.length cg, .slice ao t.ops.length co] 25)) (.cells #[.int .i64 0, .int .i64 0] 30); rwa [World.size_alloc] at this, by omega, KA⟩)
  have OK := Lib.hid ok; have HIN := Lib.hid hin
  have hfew := ok.few
  clear h K1 KA hp ok hin
  go_enter Try.func98, Try.ntmps98
  go_upto_region 1 with fail
  generalize ((w.alloc (.cells #[.int .i64 t.n, .slice ai t.init.length ci, .slice ag t.goal.length cg, .slice ao t.ops.length co] 25)).alloc (.cells #[.int .i64 0, .int .i64 0] 30)) = w1 at HB HT HF HP ⊢
  have hbx := HB.out.lt
  obtain ⟨d0, d1, d2, d3⟩ := HB.out
  go_wp2_with fail
  refine (taskFault_any _ _ _ _ t HT.out).mono ?_; rintro e w2 ⟨rfl, hk⟩
  rw [taskFault_ok OK.out]
  have KB := (Keeps.refl (fun _ => False) w2).alloc (.cells #[.int .i64 0, .int .i64 0] 30)
  have HB3 := Lib.hid (HB.out.keeps0 (hk.trans KB)); have HP3 := Lib.hid (HP.out.keeps0 (hk.trans KB)); have HF3 := Lib.hid (HF.out.keeps0 (hk.trans KB))
  have F0 := Lib.hid (heap_alloc_new w2 (.cells #[.int .i64 0, .int .i64 0] 30))
  have hlt2 : w.heap.size + 1 < w2.heap.size := Nat.lt_of_lt_of_le HF.out.cells.2.2.2.2 hk.size
  clear d0 d1 d2 d3 hbx hk KB HB HT HF HP
  go_upto_region 2 with fail
  generalize w2.alloc (.cells #[.int .i64 0, .int .i64 0] 30) = w3 at HB3 HF3 HP3 F0 ⊢
  generalize w2.heap.size = b3 at F0 hlt2 ⊢
  obtain ⟨p0, p1, y0, y1, pl⟩ := pair_cells F0.out
  have hbx := HB3.out.lt
  obtain ⟨d0, d1, d2, d3⟩ := HB3.out
  go_wp2_with fail
  refine (stepsFault_good _ _ p (t.ops.length : Int) HP3.out hl HIN.out (by omega)).mono ?_; rintro e w4 ⟨rfl, hk⟩
  have HF4 := Lib.hid (HF3.out.keeps0 hk)
  have F4 := hk.heap F0.out (fun h => h)
  clear p0 p1 y0 y1 pl d0 d1 d2 d3 hbx hk
  obtain ⟨p0, p1, y0, y1, pl⟩ := pair_cells F4
  obtain ⟨e0, e1, z0, z1, hF⟩ := HF4.out.cells
  have hne : b3 ≠ w.heap.size + 1 := by omega
  have i0 := setCell_id p0
  have i1 := setCell_id p1
  go_wp2_with fail
  refine bodyPost_ret (results_cell_row rfl _ _ (w.heap.size + 1) 30 _ (0, 0) _ rfl (HF4.out.set (.int .i64 0) (.int .i64 0)).1 Try.underlying30 rfl (by kernel_rfl)) rfl ?_
  exact ⟨rfl, (HF4.out.set _ _).2⟩

end Go.Proofs.Ytdonadeodioplaa

namespace Go.Proofs.Ytdonadeodioplaa
open Go.RowKit

def noResB (f : Bool) (m : Nat) (c n : Int) : Bool := !f && (m == 0) && (c == 0) && (n == 0)

set_option maxRecDepth 100000 in
set_option maxHeartbeats 1000000 in
theorem noResult_any (w : World) (f : Bool) (ao : Option Addr) (m cap : Nat) (c n : Int) (hm : m ≤ 9223372036854775807) :
    Calls Try.prog 58 #[resV f (.slice ao m cap) c n] w fun e w' => e = .returned (.bool (noResB f m c n)) ∧ Keeps (fun _ => False) w w' := by
  have HK := Lib.hid ((Keeps.refl (fun _ => False) w).alloc (.cells #[.bool f, .slice ao m cap, .int .i64 c, .int .i64 n] 48))
  have HX := heap_alloc_new w (.cells #[.bool f, .slice ao m cap, .int .i64 c, .int .i64 n] 48)
  have HE : Hid (noResB f m c n = (!f && (m == 0) && (c == 0) && (n == 0))) := rfl
  unfold resV
  go_enter Try.func58, Try.ntmps58
  go_upto_region 1 with fail
  generalize w.alloc (.cells #[.bool f, .slice ao m cap, .int .i64 c, .int .i64 n] 48) = w1 at HX HK ⊢
  have s0 : w1.cell? ⟨w.heap.size, 0, none⟩ = some (.bool f) := by rw [cell_of_blk HX]; rfl
  have s1 : w1.cell? ⟨w.heap.size, 1, none⟩ = some (.slice ao m cap) := by rw [cell_of_blk HX]; rfl
  have s2 : w1.cell? ⟨w.heap.size, 2, none⟩ = some (.int .i64 c) := by rw [cell_of_blk HX]; rfl
  have s3 : w1.cell? ⟨w.heap.size, 3, none⟩ = some (.int .i64 n) := by rw [cell_of_blk HX]; rfl
  have hl := lt_of_heap HX
  clear HX
  cases f with
  | true =>
    go_wp2_with fail
    go_ret
    exact ⟨congrArg (fun b => Ending.returned (Value.bool b)) (show false = noResB true m c n by rw [HE.out]; rfl), HK.out⟩
  | false =>
    by_cases h1 : m = 0
    · subst h1
      cases h2 : (c == 0) with
      | true =>
        go_wp2_with fail
        go_ret
        exact ⟨congrArg (fun b => Ending.returned (Value.bool b)) (show (n == 0) = noResB false 0 c n by rw [HE.out, h2]; rfl), HK.out⟩
      | false =>
        go_wp2_with fail
        go_ret
        exact ⟨congrArg (fun b => Ending.returned (Value.bool b)) (show false = noResB false 0 c n by rw [HE.out, h2]; rfl), HK.out⟩
    · have h2 : ((m : Int) == 0) = false := by simp; omega
      go_wp2_with fail
      go_ret
      exact ⟨congrArg (fun b => Ending.returned (Value.bool b)) (show false = noResB false m c n by rw [HE.out]; simp [h1]), HK.out⟩

/-! ### StateFault of the reference -/
end Go.Proofs.Ytdonadeodioplaa

/- isOne at the task step. -/
namespace Go.Proofs.Ytdonadeodioplaa
open Go.RowKit

set_option maxRecDepth 100000 in
set_option maxHeartbeats 1000000 in
theorem isOne_any (w : World) (vp : Value) (n : Int) (h : Ints w vp [0]) :
    Calls Try.prog 52 #[resV true vp 3 n, fltV 0 0] w fun e w' => e = .returned (.bool true) ∧ Keeps (fun _ => False) w w' := by
  obtain ⟨ap, cp, h4, _⟩ := h.form
  subst h4
  have KA := (Keeps.refl (fun _ => False) w).alloc (.cells #[.bool true, .slice ap 1 cp, .int .i64 3, .int .i64 n] 48)
  have KB := (Keeps.refl (fun _ => False) (w.alloc (.cells #[.bool true, .slice ap 1 cp, .int .i64 3, .int .i64 n] 48))).alloc (.cells #[.int .i64 0, .int .i64 0] 30)
  have HK := Lib.hid (KA.trans KB)
  have HX := KB.heap (heap_alloc_new w (.cells #[.bool true, .slice ap 1 cp, .int .i64 3, .int .i64 n] 48)) (fun h => h)
  have HF := heap_alloc_new (w.alloc (.cells #[.bool true, .slice ap 1 cp, .int .i64 3, .int .i64 n] 48)) (.cells #[.int .i64 0, .int .i64 0] 30)
  rw [World.size_alloc] at HF
  have HP := Lib.hid (show Ints _ (.slice ap 1 cp) [0] from h.keeps0 (KA.trans KB))
  clear KA KB h
  unfold resV fltV
  go_enter Try.func52, Try.ntmps52
  go_upto_region 1 with fail
  generalize (w.alloc (.cells #[.bool true, .slice ap 1 cp, .int .i64 3, .int .i64 n] 48)).alloc (.cells #[.int .i64 0, .int .i64 0] 30) = w1 at HX HF HK HP ⊢
  have s0 : w1.cell? ⟨w.heap.size, 0, none⟩ = some (.bool true) := by rw [cell_of_blk HX]; rfl
  have s1 : w1.cell? ⟨w.heap.size, 1, none⟩ = some (.slice ap 1 cp) := by rw [cell_of_blk HX]; rfl
  have s2 : w1.cell? ⟨w.heap.size, 2, none⟩ = some (.int .i64 3) := by rw [cell_of_blk HX]; rfl
  have f0 : w1.cell? ⟨w.heap.size + 1, 0, none⟩ = some (.int .i64 0) := by rw [cell_of_blk HF]; rfl
  have hl := lt_of_heap HX
  have hlF := lt_of_heap HF
  have kc := (Keeps.refl (fun _ => False) w1).alloc (.cells #[.int .i64 0] 3)
  have HQ := Lib.hid (Ints.one (x := 0) (heap_alloc_new w1 (.cells #[.int .i64 0] 3)))
  have HP2 := Lib.hid (show Ints _ (.slice ap 1 cp) [0] from HP.out.keeps0 kc)
  have HK2 := Lib.hid (HK.out.trans kc)
  have HX2 := Lib.hid (kc.heap HX (fun h => h))
  clear kc HX HF
  go_wp2_with fail
  refine (ints_any _ _ _ _ _ HP2.out HQ.out).mono ?_; rintro e w3 ⟨rfl, hk⟩
  have hx := hk.heap HX2.out (fun h => h)
  clear s0 s1 s2 hl
  have s2 : w3.cell? ⟨w.heap.size, 2, none⟩ = some (.int .i64 3) := by rw [cell_of_blk hx]; rfl
  have hl := lt_of_heap hx
  have HKE := Lib.hid (HK2.out.trans hk)
  clear hx hk
  go_wp2_with fail
  go_ret
  exact ⟨rfl, HKE.out⟩

end Go.Proofs.Ytdonadeodioplaa

namespace Go.Proofs.Ytdonadeodioplaa
open Go.RowKit

theorem costL_is (t : Tsk) : ∀ q : List Nat, costL t (intsP q) = costN (wordsOf t.ops) q
  | [] => rfl
  | a :: r => by
    have h := costL_is t r
    unfold intsP at h ⊢
    rw [List.map_cons, costL, costN, h]
    congr 1
    unfold costAt wordsOf
    rw [List.getElem?_map, Int.toNat_natCast, Option.map_map]
    rfl

theorem goal_reached {t : Tsk} (ok : t.Ok) {q : List Nat} {y : Nat} (hr : runOps (wordsOf t.ops) (wd t.init) q = some y) (ha : goalB (wd t.goal) y = true) : goalW t y = true := by
  rw [goalW_goalB ok (good_reach ok (good_wd (by have := ok.n1; omega) ok.init) (reach_run q .refl hr))]
  exact ha

theorem fld_fault (x y : Value) (W : World) : (Instr.field 30 (.agg #[x, y]) 0).run Try.prog W = .ok x W := by kernel_rfl

set_option maxRecDepth 100000 in
set_option maxHeartbeats 4000000 in
theorem isBest_any (w : World) (vi vg vo vp : Value) (t : Tsk) (l : List Nat) (b : Int) (fnd : Bool) (lp : List Int) (c n : Int) (h : TaskAt w vi vg vo t) (ok : t.Ok) (hx : explored t = some l) (hb : BestT t b) (hs : stepsB b ≤ 60) (hp : Ints w vp lp) (hg : BPlanG t l b fnd lp c n) :
    Calls Try.prog 59 #[.agg #[.int .i64 t.n, vi, vg, vo], resV fnd vp c n] w fun e w' => e = .returned (.bool true) ∧ Keeps (fun _ => False) w w' := by
  obtain ⟨ai, ci, h1, _⟩ := h.init.form
  obtain ⟨ag, cg, h2, _⟩ := h.goal.form
  obtain ⟨ao, co, h3, hmo⟩ := h.ops.form
  obtain ⟨ap, cp, h4, hml⟩ := hp.form
  subst h1 h2 h3 h4
  have K1 := (Keeps.refl (fun _ => False) w).alloc (.cells #[.int .i64 t.n, .slice ai t.init.length ci, .slice ag t.goal.length cg, .slice ao t.ops.length co] 25)
  have K2 := (Keeps.refl (fun _ => False) (w.alloc (.cells #[.int .i64 t.n, .slice ai t.init.length ci, .slice ag t.goal.length cg, .slice ao t.ops.length co] 25))).alloc (.cells #[.bool fnd, .slice ap lp.length cp, .int .i64 c, .int .i64 n] 48)
  have HB := Lib.hid ((Four.new w (.int .i64 t.n) (.slice ai t.init.length ci) (.slice ag t.goal.length cg) (.slice ao t.ops.length co) 25).keeps0 K2)
  have hr := Four.new (w.alloc (.cells #[.int .i64 t.n, .slice ai t.init.length ci, .slice ag t.goal.length cg, .slice ao t.ops.length co] 25)) (.bool fnd) (.slice ap lp.length cp) (.int .i64 c) (.int .i64 n) 48
  rw [World.size_alloc] at hr
  have HR := Lib.hid hr
  have HT := Lib.hid (h.keeps0 (K1.trans K2)); have HP := Lib.hid (hp.keeps0 (K1.trans K2)); have HK := Lib.hid (K1.trans K2)
  have OK := Lib.hid ok; have HX := Lib.hid hx; have HBT := Lib.hid hb; have HG := Lib.hid hg
  clear h K1 K2 hr hp ok hx hb hg
  have hfld := fld_fault (.int .i64 0) (.int .i64 0)
  simp only [resV]
  go_enter Try.func59, Try.ntmps59
  go_upto_region 1 with fail
  generalize ((w.alloc (.cells #[.int .i64 t.n, .slice ai t.init.length ci, .slice ag t.goal.length cg, .slice ao t.ops.length co] 25)).alloc (.cells #[.bool fnd, .slice ap lp.length cp, .int .i64 c, .int .i64 n] 48)) = w1 at HB HR HT HP HK ⊢
  generalize w.heap.size = bt at HB HR ⊢
  have hbx := HB.out.lt
  obtain ⟨d0, d1, d2, d3⟩ := HB.out
  go_wp2_with fail
  refine (bestPlans_any _ _ _ _ t HT.out OK.out HX.out).mono ?_; rintro e w2 ⟨b', rfl, hb', hk⟩
  obtain rfl : b' = b := LeastOf.unique hb' HBT.out
  have HB2 := Lib.hid (HB.out.keeps0 hk); have HR2 := Lib.hid (HR.out.keeps0 hk); have HT2 := Lib.hid (HT.out.keeps0 hk); have HP2 := Lib.hid (HP.out.keeps0 hk); have HK2 := Lib.hid (HK.out.trans hk)
  clear d0 d1 d2 d3 hbx hk hb' HB HR HT HP HK
  obtain ⟨r0, r1, r2, r3⟩ := HR2.out
  have hlr := HR2.out.lt
  have hbx := HB2.out.lt
  obtain ⟨d0, d1, d2, d3⟩ := HB2.out
  by_cases h0 : b' < 0
  · have ev : bestV b' = .tuple #[.int .i64 0, .int .i64 0, .bool false] := by unfold bestV; rw [if_pos h0]
    obtain ⟨rfl, rfl, rfl⟩ := HG.out.none_ h0
    rw [ev]
    clear ev h0 hs
    go_wp2_with fail
    go_ret
    exact ⟨rfl, HK2.out⟩
  · have hge : 0 ≤ b' := by omega
    have ev : bestV b' = .tuple #[.int .i64 (b' / 4096), .int .i64 (b' % 4096), .bool true] := by unfold bestV; rw [if_neg h0]
    obtain ⟨rfl, q, y, rfl, hrun, hacc, hlen, hcost, hc⟩ := HG.out.some_ hge
    have hgw := goal_reached OK.out hrun hacc
    have hcl : costL t (intsP q) = b' / 4096 := by rw [costL_is]; exact hcost
    rw [hcl] at hc
    subst hc
    have hs2 : b' % 4096 ≤ 60 := by unfold stepsB at hs; rw [if_neg h0] at hs; exact hs
    have hl2 : ((intsP q).length : Int) = b' % 4096 := by unfold intsP; rw [List.length_map]; exact hlen
    have hl60 : (intsP q).length ≤ 60 := by omega
    have hq : q.length ≤ 60 := by omega
    have HRUN := Lib.hid hrun; have HIN := Lib.hid (planIn_run hrun)
    rw [ev]
    clear ev h0 hs hrun hacc hlen hcost hs2
    generalize b' / 4096 = cc at hcl HR2 HG r2 ⊢
    generalize b' % 4096 = ss at hl2 HR2 HG ⊢
    go_wp2_with fail
    refine (planFaultR_good _ _ _ _ _ t (intsP q) HT2.out OK.out HP2.out hl60 HIN.out).mono ?_; rintro e w3 ⟨rfl, hk⟩
    have HB3 := Lib.hid (HB2.out.keeps0 hk); have HR3 := Lib.hid (HR2.out.keeps0 hk); have HT3 := Lib.hid (HT2.out.keeps0 hk); have HP3 := Lib.hid (HP2.out.keeps0 hk); have HK3 := Lib.hid (HK2.out.trans hk)
    clear d0 d1 d2 d3 r0 r1 r2 r3 hlr hbx hk HB2 HR2 HT2 HP2 HK2
    obtain ⟨r0, r1, r2, r3⟩ := HR3.out
    have hlr := HR3.out.lt
    have hbx := HB3.out.lt
    obtain ⟨d0, d1, d2, d3⟩ := HB3.out
    go_wp2_with fail
    refine (solvesR_good _ _ _ _ _ t y q HT3.out OK.out HP3.out HRUN.out (by omega)).mono ?_; rintro e w4 ⟨rfl, hk⟩
    rw [hgw]
    have HB4 := Lib.hid (HB3.out.keeps0 hk); have HR4 := Lib.hid (HR3.out.keeps0 hk); have HT4 := Lib.hid (HT3.out.keeps0 hk); have HP4 := Lib.hid (HP3.out.keeps0 hk); have HK4 := Lib.hid (HK3.out.trans hk)
    clear d0 d1 d2 d3 r0 r1 r2 r3 hlr hbx hk HB3 HR3 HT3 HP3 HK3
    obtain ⟨r0, r1, r2, r3⟩ := HR4.out
    have hlr := HR4.out.lt
    have hbx := HB4.out.lt
    obtain ⟨d0, d1, d2, d3⟩ := HB4.out
    go_wp2_with fail
    refine (costOf_any _ _ _ _ _ t (intsP q) HT4.out OK.out HP4.out HIN.out (by omega)).mono ?_; rintro e w5 ⟨rfl, hk⟩
    rw [hcl]
    have HK5 := Lib.hid (HK4.out.trans hk)
    clear hk
    go_wp2_with fail
    go_ret
    exact ⟨rfl, HK5.out⟩

theorem match_cases {t : Tsk} {fnd : Bool} {lp : List Int} {c n fc fi c' i' : Int} (h : BPlanIs t fnd lp c n fc fi) (g : BestFl t c' i') :
    (c' ≠ 0 ∧ fc = c' ∧ fi = i' ∧ fnd = false ∧ lp = [] ∧ c = 0 ∧ n = 0) ∨ (c' = 0 ∧ fc = 0 ∧ fi = 0 ∧ t.Ok ∧ ∃ l b, explored t = some l ∧ BestT t b ∧ stepsB b ≤ 60 ∧ BPlanG t l b fnd lp c n) := by
  rcases h with ⟨h1, h2, h3⟩ | ⟨h1, h2, l, b, h3, h4, h5⟩
  · rcases g with ⟨g1, g2⟩ | ⟨_, g2, _⟩
    · rw [h2] at g2; cases g2; exact .inl ⟨h1, rfl, rfl, h3⟩
    · rw [h2] at g2; cases g2; exact absurd rfl h1
  · rcases g with ⟨g1, g2⟩ | ⟨_, _, l', b', g3, g4, g5⟩
    · rw [h1] at g2; cases g2; exact absurd rfl g1
    · obtain rfl := LeastOf.unique g4 h4
      rcases h5 with ⟨a1, a2, a3, a4⟩ | ⟨a1, a2, a3, a4⟩
      · rcases g5 with ⟨_, e2, e3⟩ | ⟨e1, _⟩
        · exact .inl ⟨by rw [e2]; decide, by rw [a2, e2], by rw [a3, e3], a4⟩
        · omega
      · rcases g5 with ⟨e1, _⟩ | ⟨_, e2, e3⟩
        · omega
        · exact .inr ⟨e2, a2, a3, h2, l, _, h3, h4, a1, a4⟩

set_option maxRecDepth 100000 in
set_option maxHeartbeats 4000000 in
theorem bestMatches_any (w : World) (vi vg vo vp : Value) (t : Tsk) (fnd : Bool) (lp : List Int) (c n fc fi : Int) (h : TaskAt w vi vg vo t) (hp : Ints w vp lp) (hg : BPlanIs t fnd lp c n fc fi) :
    Calls Try.prog 27 #[.agg #[.int .i64 t.n, vi, vg, vo], resV fnd vp c n, fltV fc fi, fltV 0 0] w fun e w' => e = .returned (.bool true) ∧ Keeps (fun _ => False) w w' := by
  obtain ⟨ai, ci, h1, _⟩ := h.init.form
  obtain ⟨ag, cg, h2, _⟩ := h.goal.form
  obtain ⟨ao, co, h3, hmo⟩ := h.ops.form
  obtain ⟨ap, cp, h4, hml⟩ := hp.form
  subst h1 h2 h3 h4
  have K1 := (Keeps.refl (fun _ => False) w).alloc (.cells #[.int .i64 t.n, .slice ai t.init.length ci, .slice ag t.goal.length cg, .slice ao t.ops.length co] 25)
  have K2 := (Keeps.refl (fun _ => False) (w.alloc (.cells #[.int .i64 t.n, .slice ai t.init.length ci, .slice ag t.goal.length cg, .slice ao t.ops.length co] 25))).alloc (.cells #[.bool fnd, .slice ap lp.length cp, .int .i64 c, .int .i64 n] 48)
  have K3 := (Keeps.refl (fun _ => False) ((w.alloc (.cells #[.int .i64 t.n, .slice ai t.init.length ci, .slice ag t.goal.length cg, .slice ao t.ops.length co] 25)).alloc (.cells #[.bool fnd, .slice ap lp.length cp, .int .i64 c, .int .i64 n] 48))).alloc (.cells #[.int .i64 fc, .int .i64 fi] 30)
  have K4 := (Keeps.refl (fun _ => False) (((w.alloc (.cells #[.int .i64 t.n, .slice ai t.init.length ci, .slice ag t.goal.length cg, .slice ao t.ops.length co] 25)).alloc (.cells #[.bool fnd, .slice ap lp.length cp, .int .i64 c, .int .i64 n] 48)).alloc (.cells #[.int .i64 fc, .int .i64 fi] 30))).alloc (.cells #[.int .i64 0, .int .i64 0] 30)
  have hr := heap_alloc_new (w.alloc (.cells #[.int .i64 t.n, .slice ai t.init.length ci, .slice ag t.goal.length cg, .slice ao t.ops.length co] 25)) (.cells #[.bool fnd, .slice ap lp.length cp, .int .i64 c, .int .i64 n] 48)
  have hf := heap_alloc_new ((w.alloc (.cells #[.int .i64 t.n, .slice ai t.init.length ci, .slice ag t.goal.length cg, .slice ao t.ops.length co] 25)).alloc (.cells #[.bool fnd, .slice ap lp.length cp, .int .i64 c, .int .i64 n] 48)) (.cells #[.int .i64 fc, .int .i64 fi] 30)
  have hgb := heap_alloc_new (((w.alloc (.cells #[.int .i64 t.n, .slice ai t.init.length ci, .slice ag t.goal.length cg, .slice ao t.ops.length co] 25)).alloc (.cells #[.bool fnd, .slice ap lp.length cp, .int .i64 c, .int .i64 n] 48)).alloc (.cells #[.int .i64 fc, .int .i64 fi] 30)) (.cells #[.int .i64 0, .int .i64 0] 30)
  rw [World.size_alloc] at hr
  rw [World.size_alloc, World.size_alloc] at hf
  rw [World.size_alloc, World.size_alloc, World.size_alloc] at hgb
  have HB := Lib.hid ((Four.new w (.int .i64 t.n) (.slice ai t.init.length ci) (.slice ag t.goal.length cg) (.slice ao t.ops.length co) 25).keeps0 (K2.trans (K3.trans K4)))
  have HR := Lib.hid ((K3.trans K4).heap hr (fun h => h)); have HF := Lib.hid (K4.heap hf (fun h => h)); have HGB := Lib.hid hgb
  have KK := K1.trans (K2.trans (K3.trans K4))
  have HT := Lib.hid (h.keeps0 KK); have HP := Lib.hid (hp.keeps0 KK); have HK := Lib.hid KK
  have HG := Lib.hid hg; have HT0 := Lib.hid h; have HP0 := Lib.hid hp
  clear h K1 K2 K3 K4 KK hr hf hgb hp hg
  simp only [resV, fltV]
  go_enter Try.func27, Try.ntmps27
  go_upto_region 1 with fail
  generalize hw1 : ((((w.alloc (.cells #[.int .i64 t.n, .slice ai t.init.length ci, .slice ag t.goal.length cg, .slice ao t.ops.length co] 25)).alloc (.cells #[.bool fnd, .slice ap lp.length cp, .int .i64 c, .int .i64 n] 48)).alloc (.cells #[.int .i64 fc, .int .i64 fi] 30)).alloc (.cells #[.int .i64 0, .int .i64 0] 30)) = w1 at HB HR HF HGB HT HP HK ⊢
  clear hw1
  have hbs : w.heap.size ≤ w.heap.size + 1 + 1 + 1 := by omega
  obtain ⟨g0, g1, _, _, gl⟩ := pair_cells HGB.out
  have hbx := HB.out.lt
  obtain ⟨d0, d1, d2, d3⟩ := HB.out
  go_wp2_with fail
  refine (bestFault_any _ _ _ _ t HT.out).mono ?_; rintro e w2 ⟨c', i', rfl, hfl, hk⟩
  have HM := Lib.hid (match_cases HG.out hfl)
  have HB2 := Lib.hid (HB.out.keeps0 hk); have HR2 := Lib.hid (hk.heap HR.out (fun h => h)); have HF2 := Lib.hid (hk.heap HF.out (fun h => h)); have HG2 := Lib.hid (hk.heap HGB.out (fun h => h)); have HT2 := Lib.hid (HT.out.keeps0 hk); have HP2 := Lib.hid (HP.out.keeps0 hk); have HK2 := Lib.hid (HK.out.trans hk)
  clear d0 d1 d2 d3 hbx hk HB HR HF HGB HT HP HK g0 g1 gl hfl HG
  obtain ⟨g0, g1, gz0, gz1, gl⟩ := pair_cells HG2.out
  have kp := keeps_pair (w := w2) (w.heap.size + 1 + 1 + 1) (.int .i64 c') (.int .i64 i')
  have HG3 := Lib.hid (pair_set HG2.out (.int .i64 c') (.int .i64 i'))
  have HK3 := Lib.hid (HK2.out.trans' kp (fun i hi => .inr (by omega)))
  have HR3 := Lib.hid (kp.heap HR2.out (show ¬ (w.heap.size + 1 = w.heap.size + 1 + 1 + 1) by omega)); have HF3 := Lib.hid (kp.heap HF2.out (show ¬ (w.heap.size + 1 + 1 = w.heap.size + 1 + 1 + 1) by omega))
  have e0 := kp.cell HB2.out.c0 (show ¬ (w.heap.size = w.heap.size + 1 + 1 + 1) by omega); have e1 := kp.cell HB2.out.c1 (show ¬ (w.heap.size = w.heap.size + 1 + 1 + 1) by omega); have e2 := kp.cell HB2.out.c2 (show ¬ (w.heap.size = w.heap.size + 1 + 1 + 1) by omega); have e3 := kp.cell HB2.out.c3 (show ¬ (w.heap.size = w.heap.size + 1 + 1 + 1) by omega)
  have HB3 := Lib.hid (Four.mk e0 e1 e2 e3)
  have HT3 := Lib.hid (HT0.out.keeps0 HK3.out); have HP3 := Lib.hid (HP0.out.keeps0 HK3.out)
  clear e0 e1 e2 e3 hbs kp HT0 HP0
  go_upto_region 3 with fail
  generalize (w2.setCell ⟨w.heap.size + 1 + 1 + 1, 0, none⟩ (.int .i64 c')).setCell ⟨w.heap.size + 1 + 1 + 1, 1, none⟩ (.int .i64 i') = w3 at HG3 HK3 HR3 HF3 HB3 HT3 HP3 ⊢
  clear g0 g1 gz0 gz1 gl HB2 HR2 HF2 HG2 HT2 HP2 HK2
  obtain ⟨g0, g1, _, _, gl⟩ := pair_cells HG3.out
  obtain ⟨f0, f1, _, _, fl⟩ := pair_cells HF3.out
  obtain ⟨r0, r1, r2, r3, rl⟩ := quad_cells HR3.out
  have hbx := HB3.out.lt
  obtain ⟨d0, d1, d2, d3⟩ := HB3.out
  rcases HM.out with ⟨hc, rfl, rfl, rfl, rfl, rfl, rfl⟩ | ⟨rfl, rfl, rfl, hok, l, b, hx, hb, hs, hpg⟩
  · have hcb : (fc != 0) = true := by simpa using hc
    clear hc HM
    go_wp2_with fail
    refine (noResult_any _ false _ 0 _ 0 0 (by omega)).mono ?_; rintro e w4 ⟨rfl, hk⟩
    have HK4 := Lib.hid (HK3.out.trans hk)
    clear hk
    go_wp2_with fail
    go_ret
    exact ⟨rfl, HK4.out⟩
  · have OK := Lib.hid hok; have HX := Lib.hid hx; have HBT := Lib.hid hb; have HPG := Lib.hid hpg
    clear hok hx hb hpg HM
    go_wp2_with fail
    refine (reached_any _ _ _ _ t HT3.out OK.out).mono ?_; rintro e w4 ⟨hk, hr⟩
    rcases hr with ⟨hn, _⟩ | ⟨l', hl', v, vw, vs, rfl, hrows⟩
    · exact absurd (hn.symm.trans HX.out) (by simp)
    obtain rfl : l' = l := by have := hl'.symm.trans HX.out; cases this; rfl
    obtain ⟨al, cl, hal⟩ := ownsRow_form1 hrows.out
    subst hal
    have hn0 := HPG.out.n.1; have hn1 := HPG.out.n.2
    have HB4 := Lib.hid (HB3.out.keeps0 hk); have HR4 := Lib.hid (hk.heap HR3.out (fun h => h)); have HF4 := Lib.hid (hk.heap HF3.out (fun h => h)); have HT4 := Lib.hid (HT3.out.keeps0 hk); have HP4 := Lib.hid (HP3.out.keeps0 hk); have HK4 := Lib.hid (HK3.out.trans hk)
    clear hk hl' hrows g0 g1 gl f0 f1 fl r0 r1 r2 r3 rl hbx d0 d1 d2 d3 HB3 HR3 HF3 HT3 HP3 HK3 HG3
    obtain ⟨f0, f1, _, _, fl⟩ := pair_cells HF4.out
    obtain ⟨r0, r1, r2, r3, rl⟩ := quad_cells HR4.out
    have hbx := HB4.out.lt
    obtain ⟨d0, d1, d2, d3⟩ := HB4.out
    go_wp2_with fail
    refine (isBest_any _ _ _ _ _ t l' b fnd lp c n HT4.out OK.out HX.out HBT.out hs HP4.out HPG.out).mono ?_; rintro e w5 ⟨rfl, hk⟩
    have HK5 := Lib.hid (HK4.out.trans hk)
    have HR5 := Lib.hid (hk.heap HR4.out (fun h => h))
    clear hk f0 f1 fl r0 r1 r2 r3 rl hbx d0 d1 d2 d3
    obtain ⟨r0, r1, r2, r3, rl⟩ := quad_cells HR5.out
    go_wp2_with fail
    go_ret
    exact ⟨rfl, HK5.out⟩

end Go.Proofs.Ytdonadeodioplaa

namespace Go.Proofs.Ytdonadeodioplaa
open Go.RowKit

theorem MidQ.sum {t : Tsk} {m : Nat} {a b : Int} (h : MidQ t m a b) : ∃ best, BestT t best ∧ 0 ≤ best ∧ a + b = best / 4096 := by
  obtain ⟨p, q, e, best, hb, h0, r1, r2, hacc, c1, c2, l1, l2, q1, q2, q3⟩ := h.ex
  have hall : runOps (wordsOf t.ops) (wd t.init) (p ++ q) = some e := by rw [runOps_append, r1]; exact r2
  rcases hb with ⟨hb1, _⟩ | ⟨_, ⟨r, y, hr, hy, hw⟩, hleast⟩
  · omega
  · refine ⟨best, .inr ⟨h0, ⟨r, y, hr, hy, hw⟩, hleast⟩, h0, ?_⟩
    have e1 := hleast _ _ hall hacc
    have e2 := q3 r y hr hy
    rw [wayN_append, wayN_split, wayN_split, c1, c2] at e1
    rw [wayN_split] at hw
    omega

theorem stepT_run {q : List Nat} {x y : Nat} (h : runOps (wordsOf stepT.ops) x q = some y) : costN (wordsOf stepT.ops) q = 3 * (q.length : Int) ∧ ∀ k ∈ q, k = 0 := by
  have hl := runOps_lt h
  have hz : ∀ k ∈ q, k = 0 := fun k hk => by
    have h1 := hl k hk
    have h2 : (wordsOf stepT.ops).length = 1 := rfl
    omega
  refine ⟨?_, hz⟩
  clear h hl
  induction q with
  | nil => rfl
  | cons a r ih =>
    obtain rfl := hz a (by simp)
    have h1 := ih (fun k hk => hz k (by simp [hk]))
    rw [costN, h1, List.length_cons]
    have : ((wordsOf stepT.ops)[0]?.map Wop.cost).getD 0 = 3 := rfl
    rw [this]
    omega

theorem stepT_least : BestT stepT 12289 := by
  refine .inr ⟨by decide, ⟨[0], 1, by decide, by decide, by decide⟩, fun p y hr hy => ?_⟩
  have h1 := (stepT_run hr).1
  rw [wayN_split, h1]
  cases p with
  | nil =>
    simp [runOps] at hr; subst hr
    exact absurd hy (by decide)
  | cons a q => rw [List.length_cons]; omega

theorem stepT_expF : expF stepT = (0, 0) := by unfold expF; rw [if_pos (by rw [stepT_ok]), stepT_reached]

theorem bplanStep_any (w : World) (vi vg vo : Value) (h : TaskAt w vi vg vo stepT) :
    Calls Try.prog 26 #[.agg #[.int .i64 1, vi, vg, vo]] w fun e w' => ∃ v n, e = .returned (.tuple #[resV true v 3 n, fltV 0 0]) ∧ Ints w' v [0] ∧ Keeps (fun _ => False) w w' := by
  refine (bplan_any w vi vg vo stepT h).mono ?_
  rintro e w' ⟨hk, fnd, vp, lp, c, n, fc, fi, rfl, hi, hr⟩
  rcases hr with ⟨h1, h2, _⟩ | ⟨_, _, l, b, hx, hb, hr⟩
  · rw [stepT_expF] at h2; cases h2; exact absurd rfl h1
  · obtain rfl := LeastOf.unique hb stepT_least
    rcases hr with ⟨h1, _⟩ | ⟨_, rfl, rfl, hg⟩
    · exact absurd h1 (by decide)
    · obtain ⟨rfl, q, y, rfl, hrun, hacc, hlen, hcost, rfl⟩ := hg.some_ (by decide)
      have hz := (stepT_run hrun).2
      have hl : q.length = 1 := by omega
      obtain ⟨a, rfl⟩ := List.length_eq_one_iff.1 hl
      obtain rfl := hz a (by simp)
      exact ⟨vp, n, rfl, hi, hk⟩

theorem midStep_any (w : World) (vi vg vo : Value) (h : TaskAt w vi vg vo stepT) :
    Calls Try.prog 28 #[.agg #[.int .i64 1, vi, vg, vo]] w fun e w' => ∃ v a b, e = .returned (.tuple #[v, .int .i64 a, .int .i64 b, .bool true, fltV 0 0]) ∧ a + b = 3 ∧ Keeps (fun _ => False) w w' := by
  refine (middle_any w vi vg vo stepT h).mono ?_
  rintro e w' ⟨hk, vs, xs, a, b, ok, fc, fi, rfl, hi, hr⟩
  rcases hr with ⟨h1, h2, _⟩ | ⟨_, rfl, rfl, hok, l, hx, hr⟩
  · rw [stepT_expF] at h2; cases h2; exact absurd rfl h1
  · rcases hr with ⟨hb, _⟩ | ⟨m, rfl, _, _, hq⟩
    · have := LeastOf.unique hb stepT_least
      exact absurd this (by decide)
    · obtain ⟨best, hb, _, hs⟩ := hq.sum
      obtain rfl := LeastOf.unique hb stepT_least
      exact ⟨vs, a, b, rfl, by rw [hs]; rfl, hk⟩

set_option maxRecDepth 100000 in
set_option maxHeartbeats 2000000 in
theorem bothExample_any (w : World) : Calls Try.prog 25 #[] w fun e w' => e = .returned (.bool true) ∧ Keeps (fun _ => False) w w' := by
  go_enter Try.func25, Try.ntmps25
  go_wp2_with fail
  refine (step_any _).mono ?_; rintro e w1 ⟨vi, vg, vo, rfl, ht, hk⟩
  have HT := Lib.hid ht; have K1 := Lib.hid hk
  clear ht hk
  go_wp2_with fail
  refine (bplanStep_any _ _ _ _ HT.out).mono ?_; rintro e w2 ⟨vp, n, rfl, hp, hk⟩
  obtain ⟨ap, cp, hvp, _⟩ := hp.form
  subst hvp
  have HP := Lib.hid hp; have K2 := Lib.hid (K1.out.trans hk)
  clear hp hk HT
  simp only [resV, fltV]
  have KA := (Keeps.refl (fun _ => False) w2).alloc (.cells #[.bool true, .slice ap 1 cp, .int .i64 3, .int .i64 n] 48)
  have KB := (Keeps.refl (fun _ => False) (w2.alloc (.cells #[.bool true, .slice ap 1 cp, .int .i64 3, .int .i64 n] 48))).alloc (.cells #[.int .i64 0, .int .i64 0] 30)
  have H3 := Lib.hid (KB.heap (heap_alloc_new w2 (.cells #[.bool true, .slice ap 1 cp, .int .i64 3, .int .i64 n] 48)) (fun h => h))
  have hf := heap_alloc_new (w2.alloc (.cells #[.bool true, .slice ap 1 cp, .int .i64 3, .int .i64 n] 48)) (.cells #[.int .i64 0, .int .i64 0] 30)
  rw [World.size_alloc] at hf
  have F3 := Lib.hid hf
  have K3 := Lib.hid (K2.out.trans (KA.trans KB)); have HP3 := Lib.hid (HP.out.keeps0 (KA.trans KB))
  clear KA KB hf
  go_upto_region 2 with fail
  generalize (w2.alloc (.cells #[.bool true, .slice ap 1 cp, .int .i64 3, .int .i64 n] 48)).alloc (.cells #[.int .i64 0, .int .i64 0] 30) = w3 at H3 F3 K3 HP3 ⊢
  generalize w2.heap.size = b3 at H3 F3 ⊢
  go_wp2_with fail
  refine (step_any _).mono ?_; rintro e w4 ⟨vi2, vg2, vo2, rfl, ht, hk⟩
  have HT := Lib.hid ht; have K4 := Lib.hid (K3.out.trans hk); have HP4 := Lib.hid (HP3.out.keeps0 hk); have H4 := Lib.hid (hk.heap H3.out (fun h => h)); have F4 := Lib.hid (hk.heap F3.out (fun h => h))
  clear ht hk
  go_wp2_with fail
  refine (midStep_any _ _ _ _ HT.out).mono ?_; rintro e w5 ⟨vs, a, b, rfl, hab, hk⟩
  simp only [fltV]
  have KA := (Keeps.refl (fun _ => False) w5).alloc (.cells #[.int .i64 0, .int .i64 0] 30)
  have KB := hk.trans KA
  have G6 := Lib.hid (heap_alloc_new w5 (.cells #[.int .i64 0, .int .i64 0] 30))
  have K6 := Lib.hid (K4.out.trans KB); have HP6 := Lib.hid (HP4.out.keeps0 KB); have H6 := Lib.hid (KB.heap H4.out (fun h => h)); have F6 := Lib.hid (KB.heap F4.out (fun h => h))
  clear hk KA KB
  go_upto_region 3 with fail
  generalize w5.alloc (.cells #[.int .i64 0, .int .i64 0] 30) = w6 at G6 K6 HP6 H6 F6 ⊢
  generalize w5.heap.size = b6 at G6 ⊢
  obtain ⟨g0, g1, _, _, gl⟩ := pair_cells G6.out
  obtain ⟨f0, f1, _, _, fl⟩ := pair_cells F6.out
  obtain ⟨r0, r1, r2, r3, rl⟩ := quad_cells H6.out
  go_wp2_with fail
  refine (isOne_any _ _ _ HP6.out).mono ?_; rintro e w7 ⟨rfl, hk⟩
  have K7 := Lib.hid (K6.out.trans hk)
  have G7 := Lib.hid (hk.heap G6.out (fun h => h))
  clear hk g0 g1 gl f0 f1 fl r0 r1 r2 r3 rl
  obtain ⟨g0, g1, _, _, gl⟩ := pair_cells G7.out
  go_wp2_with fail
  go_ret
  exact ⟨rfl, K7.out⟩

end Go.Proofs.Ytdonadeodioplaa

namespace Go.Proofs.Ytdonadeodioplaa
open Go.RowKit

set_option maxRecDepth 100000 in
set_option maxHeartbeats 1000000 in
theorem bothPlanLaw_any (w : World) (vi vg vo : Value) (t : Tsk) (h : TaskAt w vi vg vo t) :
    Calls Try.prog 5 #[.agg #[.int .i64 t.n, vi, vg, vo]] w fun e w' => e = .returned (.bool true) ∧ Keeps (fun _ => False) w w' := by
  obtain ⟨ai, ci, h1, _⟩ := h.init.form
  obtain ⟨ag, cg, h2, _⟩ := h.goal.form
  obtain ⟨ao, co, h3, hmo⟩ := h.ops.form
  subst h1 h2 h3
  have HB := Lib.hid (Four.new w (.int .i64 t.n) (.slice ai t.init.length ci) (.slice ag t.goal.length cg) (.slice ao t.ops.length co) 25)
  have K1 := (Keeps.refl (fun _ => False) w).alloc (.cells #[.int .i64 t.n, .slice ai t.init.length ci, .slice ag t.goal.length cg, .slice ao t.ops.length co] 25)
  have HT := Lib.hid (h.keeps0 K1); have HK := Lib.hid K1
  clear h K1
  go_enter Try.func5, Try.ntmps5
  go_upto_region 1 with fail
  generalize (w.alloc (.cells #[.int .i64 t.n, .slice ai t.init.length ci, .slice ag t.goal.length cg, .slice ao t.ops.length co] 25)) = w1 at HB HT HK ⊢
  generalize w.heap.size = bt at HB ⊢
  go_wp2_with fail
  refine (bothExample_any _).mono ?_; rintro e w2 ⟨rfl, hk⟩
  have HB1 := Lib.hid (HB.out.keeps0 hk); have HT1 := Lib.hid (HT.out.keeps0 hk); have HK1 := Lib.hid (HK.out.trans hk)
  clear HB HT HK
  clear hk
  have hbxd := HB1.out.lt
  obtain ⟨d0, d1, d2, d3⟩ := HB1.out
  go_wp2_with fail
  refine (wide_any _ _ _ _ t HT1.out).mono ?_; rintro e w3 ⟨rfl, hk⟩
  clear hbxd d0 d1 d2 d3
  have HB2 := Lib.hid (HB1.out.keeps0 hk); have HT2 := Lib.hid (HT1.out.keeps0 hk); have HK2 := Lib.hid (HK1.out.trans hk)
  clear HB1 HT1 HK1
  clear hk
  cases hwd : wideB t with
  | true =>
    go_wp2_with fail
    go_ret
    exact ⟨rfl, HK2.out⟩
  | false =>
    clear hwd
    have hbxd := HB2.out.lt
    obtain ⟨d0, d1, d2, d3⟩ := HB2.out
    go_wp2_with fail
    refine (bplan_any _ _ _ _ t HT2.out).mono ?_; rintro e w4 ⟨hk, fnd, vp, lp, c, n, fc, fi, rfl, hi, hr⟩
    obtain ⟨ap, cp, hvp, _⟩ := hi.form
    subst hvp
    have HIS := Lib.hid hr
    clear hr
    clear hbxd d0 d1 d2 d3
    simp only [resV, fltV]
    have KA := (Keeps.refl (fun _ => False) w4).alloc (.cells #[.bool fnd, .slice ap lp.length cp, .int .i64 c, .int .i64 n] 48)
    have KB := (Keeps.refl (fun _ => False) (w4.alloc (.cells #[.bool fnd, .slice ap lp.length cp, .int .i64 c, .int .i64 n] 48))).alloc (.cells #[.int .i64 fc, .int .i64 fi] 30)
    have KC := hk.trans (KA.trans KB)
    have HB3 := Lib.hid (HB2.out.keeps0 KC); have HT3 := Lib.hid (HT2.out.keeps0 KC); have HK3 := Lib.hid (HK2.out.trans KC)
    clear HB2 HT2 HK2
    have HR := Lib.hid (KB.heap (heap_alloc_new w4 (.cells #[.bool fnd, .slice ap lp.length cp, .int .i64 c, .int .i64 n] 48)) (fun h => h))
    have hf := heap_alloc_new (w4.alloc (.cells #[.bool fnd, .slice ap lp.length cp, .int .i64 c, .int .i64 n] 48)) (.cells #[.int .i64 fc, .int .i64 fi] 30)
    rw [World.size_alloc] at hf
    have HF := Lib.hid (hf)
    have HI := Lib.hid (hi.keeps0 (KA.trans KB))
    clear hk KA KB KC hf hi
    go_upto_region 6 with fail
    generalize (w4.alloc (.cells #[.bool fnd, .slice ap lp.length cp, .int .i64 c, .int .i64 n] 48)).alloc (.cells #[.int .i64 fc, .int .i64 fi] 30) = w5 at HB3 HT3 HK3 HR HF HI ⊢
    generalize w4.heap.size = b4 at HR HF ⊢
    obtain ⟨r0, r1, r2, r3, rl⟩ := quad_cells HR.out
    obtain ⟨f0, f1, _, _, fl⟩ := pair_cells HF.out
    have hbxd := HB3.out.lt
    obtain ⟨d0, d1, d2, d3⟩ := HB3.out
    go_wp2_with fail
    refine (bestMatches_any _ _ _ _ _ t fnd lp c n fc fi HT3.out HI.out HIS.out).mono ?_; rintro e w6 ⟨rfl, hk⟩
    have K9 := Lib.hid (HK3.out.trans hk)
    clear hk
    go_wp2_with fail
    go_ret
    exact ⟨rfl, K9.out⟩

end Go.Proofs.Ytdonadeodioplaa

namespace Go.Proofs.Ytdonadeodioplaa
open Go.RowKit

theorem map_of : ∀ {l : List Nat} {d : List Int}, l.Nodup → d.length = l.length → ∃ D : Nat → Int, l.map D = d
  | [], [], _, _ => ⟨fun _ => 0, rfl⟩
  | [], _ :: _, _, h => by simp at h
  | _ :: _, [], _, h => by simp at h
  | x :: l, y :: d, hn, h => by
    obtain ⟨h1, h2⟩ := List.nodup_cons.1 hn
    obtain ⟨D, hD⟩ := map_of (l := l) (d := d) h2 (by simpa using h)
    refine ⟨fun z => if z = x then y else D z, ?_⟩
    rw [List.map_cons, if_pos rfl, ← hD]
    congr 1
    exact List.map_congr_left fun z hz => (if_neg (fun e : z = x => h1 (e ▸ hz)) : (if z = x then y else D z) = D z)

section
variable {t : Tsk} {l : List Nat} {d p : List Int} {m : Nat} {a b : Int}
theorem mid_none (hx : explored t = some l) (hd : CostOk (arcs (wordsOf t.ops) l) (l.map (goalB (wd t.goal))) d) (hb : BestT t (-1)) : d[0]? = some 1000000000 := by
  obtain ⟨hnd, _, h0, _⟩ := reached_some (ops := wordsOf t.ops) (s := wd t.init) (l := l) hx
  obtain ⟨D, rfl⟩ := map_of hnd (show d.length = l.length by rw [hd.len, List.length_map])
  have hin := List.mem_of_getElem? h0
  rw [List.getElem?_map, h0]
  have h1 := opt_low hd hin
  have hbig : bigC = 1000000000 := rfl
  by_cases h : D (wd t.init) < bigC
  · obtain ⟨q, y, hq, hy⟩ := opt_some hd hin h
    rcases hb with ⟨_, h2⟩ | ⟨h2, _⟩
    · rw [h2 q y hq] at hy; cases hy
    · omega
  · have h3 : D (wd t.init) = 1000000000 := by omega
    rw [Option.map_some, h3]

theorem mid_costs (ok : t.Ok) (hx : explored t = some l) (hd : CostOk (arcs (wordsOf t.ops) l) (l.map (goalB (wd t.goal))) d) (hm : m ∈ l) (hq : MidQ t m a b) :
    ∃ k : Nat, l[k]? = some m ∧ placeL (l.map facts) (facts m) = (k : Int) ∧ d[k]? = some b ∧ d[0]? = some (a + b) ∧ 0 ≤ a + b ∧ a + b < 1000000000 := by
  obtain ⟨hnd, _, h0, hre⟩ := reached_some (ops := wordsOf t.ops) (s := wd t.init) (l := l) hx
  obtain ⟨_, _, _, hsh, _⟩ := costs_need ok hx (List.Perm.refl l)
  obtain ⟨D, rfl⟩ := map_of hnd (show d.length = l.length by rw [hd.len, List.length_map])
  have hin := List.mem_of_getElem? h0
  obtain ⟨p, q, e, best, hb, hb0, r1, r2, hacc, c1, c2, l1, l2, q1, q2, q3⟩ := hq.ex
  have hall : runOps (wordsOf t.ops) (wd t.init) (p ++ q) = some e := by rw [runOps_append, r1]; exact r2
  have hcall : costN (wordsOf t.ops) (p ++ q) = a + b := by rw [costN_append, c1, c2]
  have e1 := opt_is hsh (ops_cost0 ok) hd hm r2 hacc (by omega) (by rw [c2]; exact q2)
  have e2 := opt_is hsh (ops_cost0 ok) hd hin hall hacc (by rw [List.length_append]; omega) (by rw [hcall]; exact q3)
  have hbd := costN_bound (ops_cost0 ok) (p ++ q)
  rw [hcall, List.length_append] at hbd
  have hg : ∀ x ∈ l, Good t.n x := fun x h => good_reach ok (good_wd (by have := ok.n1; omega) ok.init) ((hre x).1 h)
  have hgm := hg m hm
  rcases place_mem (by have := ok.n1; omega) hg hgm.1 with ⟨k, h1, h2⟩ | ⟨h1, _⟩
  · rw [hgm.2] at h1
    refine ⟨k, h1, h2, ?_, ?_, hbd.1, by omega⟩
    · rw [List.getElem?_map, h1, ← c2, ← e1]; rfl
    · rw [List.getElem?_map, h0, ← hcall, ← e2]; rfl
  · rw [hgm.2] at h1; exact absurd hm h1

theorem mid_prices (ok : t.Ok) (hx : explored t = some l) (hp : PriOk (arcs (wordsOf t.ops) l) (fun a => 1 * a.cost + 0) l.length 0 p) {k : Nat} (hk : l[k]? = some m) (hq : MidQ t m a b) : p[k]? = some a := by
  obtain ⟨_, _, h0, hre⟩ := reached_some (ops := wordsOf t.ops) (s := wd t.init) (l := l) hx
  obtain ⟨_, _, _, hsh, _⟩ := costs_need ok hx (List.Perm.refl l)
  obtain ⟨p1, q, e, best, hb, hb0, r1, r2, hacc, c1, c2, l1, l2, q1, q2, q3⟩ := hq.ex
  have := pri_least hsh h0 hk (fun a ha => by
    obtain ⟨x, o, g1, g2, g3, g4, g5⟩ := mem_arcs.1 ha
    have := (ops_cost0 ok o (List.mem_of_getElem? g2)).1
    rw [g4]; omega) hp r1 (by rw [c1]; exact q1)
  rw [this, c1]
end

end Go.Proofs.Ytdonadeodioplaa

namespace Go.Proofs.Ytdonadeodioplaa
open Go.RowKit

set_option maxRecDepth 100000 in
set_option maxHeartbeats 1000000 in
theorem bothMiddleLaw_any (w : World) (vi vg vo : Value) (t : Tsk) (h : TaskAt w vi vg vo t) :
    Calls Try.prog 6 #[.agg #[.int .i64 t.n, vi, vg, vo]] w fun e w' => e = .returned (.bool true) ∧ Keeps (fun _ => False) w w' := by
  obtain ⟨ai, ci, h1, _⟩ := h.init.form
  obtain ⟨ag, cg, h2, _⟩ := h.goal.form
  obtain ⟨ao, co, h3, hmo⟩ := h.ops.form
  subst h1 h2 h3
  have HB := Lib.hid (Four.new w (.int .i64 t.n) (.slice ai t.init.length ci) (.slice ag t.goal.length cg) (.slice ao t.ops.length co) 25)
  have K1 := (Keeps.refl (fun _ => False) w).alloc (.cells #[.int .i64 t.n, .slice ai t.init.length ci, .slice ag t.goal.length cg, .slice ao t.ops.length co] 25)
  have HT := Lib.hid (h.keeps0 K1); have HK := Lib.hid K1
  clear h K1
  go_enter Try.func6, Try.ntmps6
  go_upto_region 1 with fail
  generalize (w.alloc (.cells #[.int .i64 t.n, .slice ai t.init.length ci, .slice ag t.goal.length cg, .slice ao t.ops.length co] 25)) = w1 at HB HT HK ⊢
  generalize w.heap.size = bt at HB ⊢
  go_wp2_with fail
  refine (bothExample_any _).mono ?_; rintro e w2 ⟨rfl, hk⟩
  have HB1 := Lib.hid (HB.out.keeps0 hk); have HT1 := Lib.hid (HT.out.keeps0 hk); have HK1 := Lib.hid (HK.out.trans hk)
  clear HB HT HK
  clear hk
  have hbxd := HB1.out.lt
  obtain ⟨d0, d1, d2, d3⟩ := HB1.out
  go_wp2_with fail
  refine (wide_any _ _ _ _ t HT1.out).mono ?_; rintro e w3 ⟨rfl, hk⟩
  clear hbxd d0 d1 d2 d3
  have HB2 := Lib.hid (HB1.out.keeps0 hk); have HT2 := Lib.hid (HT1.out.keeps0 hk); have HK2 := Lib.hid (HK1.out.trans hk)
  clear HB1 HT1 HK1
  clear hk
  cases hwd : wideB t with
  | true =>
    go_wp2_with fail
    go_ret
    exact ⟨rfl, HK2.out⟩
  | false =>
    clear hwd
    have hbxd := HB2.out.lt
    obtain ⟨d0, d1, d2, d3⟩ := HB2.out
    go_wp2_with fail
    refine (middle_any _ _ _ _ t HT2.out).mono ?_; rintro e w4 ⟨hk, vx, xs, a, b, ok, fc, fi, rfl, hi, hr⟩
    obtain ⟨ax, cx, hvx, hml⟩ := hi.form
    subst hvx
    have HIS := Lib.hid hr
    clear hr
    clear hbxd d0 d1 d2 d3
    simp only [fltV]
    have KA := (Keeps.refl (fun _ => False) w4).alloc (.cells #[.int .i64 fc, .int .i64 fi] 30)
    have KB := hk.trans KA
    have HB3 := Lib.hid (HB2.out.keeps0 KB); have HT3 := Lib.hid (HT2.out.keeps0 KB); have HK3 := Lib.hid (HK2.out.trans KB)
    clear HB2 HT2 HK2
    have F7 := Lib.hid (heap_alloc_new w4 (.cells #[.int .i64 fc, .int .i64 fi] 30))
    have HX := Lib.hid (hi.keeps0 KA)
    clear hk KA KB
    go_upto_region 6 with fail
    generalize w4.alloc (.cells #[.int .i64 fc, .int .i64 fi] 30) = w5 at HB3 HT3 HK3 F7 HX ⊢
    generalize w4.heap.size = b5 at F7 ⊢
    clear hi
    have hbxd := HB3.out.lt
    obtain ⟨d0, d1, d2, d3⟩ := HB3.out
    go_wp2_with fail
    refine (explored_any _ _ _ _ t HT3.out).mono ?_; rintro e w6 ⟨rfl, hk⟩
    generalize hfe : expF t = f
    have HFE := Lib.hid hfe
    clear hfe
    clear hbxd d0 d1 d2 d3
    have hd := trivial
    have KA := (Keeps.refl (fun _ => False) w6).alloc (.cells #[.int .i64 f.1, .int .i64 f.2] 30)
    have KB := hk.trans KA
    have HB4 := Lib.hid (HB3.out.keeps0 KB); have HT4 := Lib.hid (HT3.out.keeps0 KB); have HK4 := Lib.hid (HK3.out.trans KB); have F71 := Lib.hid (KB.heap F7.out (fun h => h)); have HX1 := Lib.hid (show Ints _ (.slice ax xs.length cx) xs from HX.out.keeps0 KB)
    clear HB3 HT3 HK3 F7 HX
    have F8 := Lib.hid (heap_alloc_new w6 (.cells #[.int .i64 f.1, .int .i64 f.2] 30))
    clear hk KA KB hd
    go_upto_region 7 with fail
    generalize w6.alloc (.cells #[.int .i64 f.1, .int .i64 f.2] 30) = w7 at HB4 HT4 HK4 F71 HX1 F8 ⊢
    generalize w6.heap.size = b7 at F8 ⊢
    obtain ⟨p7, q7, r7, s7, l7⟩ := pair_cells F71.out
    clear r7 s7
    obtain ⟨p8, q8, r8, s8, l8⟩ := pair_cells F8.out
    clear r8 s8
    rcases HIS.out with ⟨h1, h2, rfl, rfl, rfl, rfl⟩ | ⟨h1, rfl, rfl, hok, l, hx, hrest⟩
    ·
      have hf := HFE.out.symm.trans h2
      subst hf
      have hcb : (fc != 0) = true := by simpa using h1
      clear h1 h2 HFE HIS
      go_wp2_with fail
      go_ret
      exact ⟨rfl, HK4.out⟩
    ·
      have hf := HFE.out.symm.trans h1
      subst hf
      have OK := Lib.hid hok; have HXP := Lib.hid hx; have HRS := Lib.hid hrest
      clear h1 hok hx hrest HFE HIS
      have hrs := reached_some (ops := wordsOf t.ops) (s := wd t.init) (l := l) HXP.out
      have HGD := Lib.hid (show ∀ x ∈ l, Good t.n x from fun x h => good_reach OK.out (good_wd (by have := OK.out.n1; omega) OK.out.init) ((hrs.2.2.2 x).1 h))
      have HAR := Lib.hid (show ∀ a ∈ arcs (wordsOf t.ops) l, a.frm < l.length ∧ a.to < l.length ∧ 0 ≤ a.cost ∧ a.cost ≤ 100 from fun a ha => by
        obtain ⟨x, o, g1, g2, g3, g4, g5⟩ := mem_arcs.1 ha
        have := ops_cost0 OK.out o (List.mem_of_getElem? g2)
        rw [g4]
        exact ⟨(List.getElem?_eq_some_iff.1 g1).1, (List.getElem?_eq_some_iff.1 g5).1, this⟩)
      have hfew := hrs.2.1
      have hl0 : 0 < l.length := by have := (List.getElem?_eq_some_iff.1 hrs.2.2.1).1; omega
      clear hrs
      have hbxd := HB4.out.lt
      obtain ⟨d0, d1, d2, d3⟩ := HB4.out
      go_wp2_with fail
      refine (reached_any _ _ _ _ t HT4.out OK.out).mono ?_; rintro e w8 ⟨hk, hr⟩
      rcases hr with ⟨hn, _⟩ | ⟨l', hl', v, vw, vs, rfl, hrows⟩
      · exact absurd (hn.symm.trans HXP.out) (by simp)
      obtain rfl : l = l' := by have := hl'.symm.trans HXP.out; cases this; rfl
      have hli := hrows.lists
      obtain ⟨a5, c5, hv5, _⟩ := hli.form
      rw [List.length_map] at hv5
      subst hv5
      clear p7 q7 l7 p8 q8 l8 hl' hrows
      clear hbxd d0 d1 d2 d3
      have HB5 := Lib.hid (HB4.out.keeps0 hk); have HT5 := Lib.hid (HT4.out.keeps0 hk); have HK5 := Lib.hid (HK4.out.trans hk); have F72 := Lib.hid (hk.heap F71.out (fun h => h)); have HX2 := Lib.hid (show Ints _ (.slice ax xs.length cx) xs from HX1.out.keeps0 hk); have F81 := Lib.hid (hk.heap F8.out (fun h => h))
      clear HB4 HT4 HK4 F71 HX1 F8
      have HL := Lib.hid (hli)
      clear hk hli
      have hbxd := HB5.out.lt
      obtain ⟨d0, d1, d2, d3⟩ := HB5.out
      go_wp2_with fail
      refine (rcosts_any _ _ _ _ _ t l HT5.out OK.out HL.out HGD.out hfew hl0).mono ?_; rintro e w9 ⟨vc, d, rfl, hco, hown, hk⟩
      rw [goals_eq OK.out HGD.out] at hco
      have hlen : d.length = l.length := by rw [hco.len, List.length_map]
      rw [List.length_map, ← hlen] at hown
      have hiD := Ints.of_own hown
      obtain ⟨ac, cc, hv⟩ := ownsRow_form1 hown
      rw [hlen] at hv
      subst hv
      have HCO := Lib.hid hco
      clear hown hco
      clear hbxd d0 d1 d2 d3
      have HB6 := Lib.hid (HB5.out.keeps0 hk); have HT6 := Lib.hid (HT5.out.keeps0 hk); have HK6 := Lib.hid (HK5.out.trans hk); have F73 := Lib.hid (hk.heap F72.out (fun h => h)); have HX3 := Lib.hid (show Ints _ (.slice ax xs.length cx) xs from HX2.out.keeps0 hk); have F82 := Lib.hid (hk.heap F81.out (fun h => h)); have HL1 := Lib.hid (show Lists _ (.slice a5 l.length c5) (l.map facts) from HL.out.keeps0 hk)
      clear HB5 HT5 HK5 F72 HX2 F81 HL
      have HD := Lib.hid (hiD)
      clear hk hiD
      rcases HRS.out with ⟨hbt, rfl, rfl, rfl, rfl⟩ | ⟨m, rfl, rfl, hml2, hq⟩
      ·
        have h0 := mid_none HXP.out HCO.out hbt
        obtain ⟨bd, od, rfl, hcd⟩ := Sl.cellN HD.out (show Value.slice ac l.length cc = .slice ac l.length cc from rfl) (by omega)
        have e0 : w9.cell? ⟨bd, od, none⟩ = some (.int .i64 1000000000) := hcd 0 (.int .i64 1000000000) (by rw [List.getElem?_map, h0]; rfl)
        clear hcd h0 hbt HRS
        obtain ⟨p7, q7, r7, s7, l7⟩ := pair_cells F73.out
        clear r7 s7
        go_wp2_with fail
        go_ret
        exact ⟨rfl, HK6.out⟩
      ·
        obtain ⟨k, hkm, hpl, hdk, hd0, hab0, hab⟩ := mid_costs OK.out HXP.out HCO.out hml2 hq
        have HKM := Lib.hid hkm; have HPL := Lib.hid hpl; have HDK := Lib.hid hdk; have HQ := Lib.hid hq
        have hkl := (List.getElem?_eq_some_iff.1 hkm).1
        have hlo := hq.lo
        obtain ⟨bd, od, rfl, hcd⟩ := Sl.cellN HD.out (show Value.slice ac l.length cc = .slice ac l.length cc from rfl) (by omega)
        have e0 : w9.cell? ⟨bd, od, none⟩ = some (.int .i64 (a + b)) := hcd 0 (.int .i64 (a + b)) (by rw [List.getElem?_map, hd0]; rfl)
        have HD0 := Lib.hid hd0
        have hW : IntKind.i64.wrap (a + b) = a + b := IntWalk.i64_in _ (by omega)
        clear hcd hd0 hkm hpl hdk hml2 hq HRS
        go_wp2_with fail
        refine (place_any _ _ _ _ (facts m) HL1.out HX3.out).mono ?_; rintro e u1 ⟨rfl, hk⟩
        rw [HPL.out]
        clear e0
        have HB7 := Lib.hid (HB6.out.keeps0 hk); have HT7 := Lib.hid (HT6.out.keeps0 hk); have HK7 := Lib.hid (HK6.out.trans hk); have F74 := Lib.hid (hk.heap F73.out (fun h => h)); have HX4 := Lib.hid (show Ints _ (.slice ax (facts m).length cx) (facts m) from HX3.out.keeps0 hk); have F83 := Lib.hid (hk.heap F82.out (fun h => h)); have HL2 := Lib.hid (show Lists _ (.slice a5 l.length c5) (l.map facts) from HL1.out.keeps0 hk); have HD1 := Lib.hid (show Ints _ (.slice (some ⟨bd, od, none⟩) l.length cc) d from HD.out.keeps0 hk)
        clear HB6 HT6 HK6 F73 HX3 F82 HL1 HD
        clear hk
        obtain ⟨p7, q7, r7, s7, l7⟩ := pair_cells F74.out
        clear r7 s7
        have hbxd := HB7.out.lt
        obtain ⟨d0, d1, d2, d3⟩ := HB7.out
        go_wp2_with fail
        refine (arcs_any _ _ _ _ _ t l HT7.out OK.out HL2.out HGD.out hfew).mono ?_; rintro e u2 ⟨va, rfl, hoa, hk⟩
        obtain ⟨aa, ca, haa⟩ := ownsRow_formS hoa
        subst haa
        have HA3 := Lib.hid hoa.at
        clear hoa p7 q7 l7
        clear hbxd d0 d1 d2 d3
        have HB8 := Lib.hid (HB7.out.keeps0 hk); have HT8 := Lib.hid (HT7.out.keeps0 hk); have HK8 := Lib.hid (HK7.out.trans hk); have F75 := Lib.hid (hk.heap F74.out (fun h => h)); have HX5 := Lib.hid (show Ints _ (.slice ax (facts m).length cx) (facts m) from HX4.out.keeps0 hk); have F84 := Lib.hid (hk.heap F83.out (fun h => h)); have HL3 := Lib.hid (show Lists _ (.slice a5 l.length c5) (l.map facts) from HL2.out.keeps0 hk); have HD2 := Lib.hid (show Ints _ (.slice (some ⟨bd, od, none⟩) l.length cc) d from HD1.out.keeps0 hk)
        clear HB7 HT7 HK7 F74 HX4 F83 HL2 HD1
        clear hk
        go_wp2_with fail
        refine (prices_any _ _ _ (l.map facts) (arcs (wordsOf t.ops) l) 0 1 0 HL3.out HA3.out (by rw [List.length_map]; omega) (by rw [List.length_map]; exact hl0) (by rw [List.length_map]; exact HAR.out) (by decide) (by decide) (by decide) (by decide)).mono ?_; rintro e u3 ⟨vp, p, rfl, hpo, hown, hk⟩
        rw [List.length_map] at hpo hown
        have hpk := mid_prices OK.out HXP.out hpo HKM.out HQ.out
        have hpl : p.length = l.length := hpo.len
        rw [← hpl] at hown
        obtain ⟨ap, cp, hv⟩ := ownsRow_form1 hown
        have hip := Ints.of_own hown
        rw [hpl] at hv
        subst hv
        clear hown hpo
        have HB9 := Lib.hid (HB8.out.keeps0 hk); have HT9 := Lib.hid (HT8.out.keeps0 hk); have HK9 := Lib.hid (HK8.out.trans hk); have F76 := Lib.hid (hk.heap F75.out (fun h => h)); have HX6 := Lib.hid (show Ints _ (.slice ax (facts m).length cx) (facts m) from HX5.out.keeps0 hk); have F85 := Lib.hid (hk.heap F84.out (fun h => h)); have HL4 := Lib.hid (show Lists _ (.slice a5 l.length c5) (l.map facts) from HL3.out.keeps0 hk); have HD3 := Lib.hid (show Ints _ (.slice (some ⟨bd, od, none⟩) l.length cc) d from HD2.out.keeps0 hk)
        clear HB8 HT8 HK8 F75 HX5 F84 HL3 HD2
        clear hk
        obtain ⟨bp, op, rfl, hcp⟩ := Sl.cellN hip (show Value.slice ap l.length cp = .slice ap p.length cp by rw [hpl]) (by omega)
        obtain ⟨bd2, od2, hbd2, hcd⟩ := Sl.cellN HD3.out (show Value.slice (some ⟨bd, od, none⟩) l.length cc = .slice (some ⟨bd, od, none⟩) l.length cc from rfl) (by omega)
        cases hbd2
        have e0 : u3.cell? ⟨bd, od, none⟩ = some (.int .i64 (a + b)) := hcd 0 (.int .i64 (a + b)) (by rw [List.getElem?_map, HD0.out]; rfl)
        have e1 := hcd k (.int .i64 b) (by rw [List.getElem?_map, HDK.out]; rfl)
        have e2 := hcp k (.int .i64 a) (by rw [List.getElem?_map, hpk]; rfl)
        have hkli : (k : Int) < (l.length : Int) := by omega
        clear hcd hcp hpk hip
        go_wp2_with fail
        go_ret
        exact ⟨rfl, HK9.out⟩

end Go.Proofs.Ytdonadeodioplaa

namespace Go.Proofs.Ytdonadeodioplaa
open Go.RowKit

/-- The task that starts in the state m. -/
def Tsk.rest (t : Tsk) (m : Nat) : Tsk := ⟨t.n, facts m, t.goal, t.ops⟩
theorem rest_ok {t : Tsk} (ok : t.Ok) {m : Nat} (hg : Good t.n m) : (t.rest m).Ok := ⟨ok.n0, ok.n1, hg.1, ok.goal, ok.few, ok.ops⟩
theorem rest_expl {t : Tsk} {l : List Nat} (hx : explored t = some l) {m : Nat} (hm : m ∈ l) (hg : Good t.n m) : ∃ l', explored (t.rest m) = some l' := by
  obtain ⟨_, hfew, _, hre⟩ := reached_some (ops := wordsOf t.ops) (s := wd t.init) (l := l) hx
  have e : explored (t.rest m) = reached (wordsOf t.ops) m := by
    show reached (wordsOf t.ops) (wd (facts m)) = _
    rw [hg.2]
  rw [e]
  cases h : reached (wordsOf t.ops) m with
  | some l' => exact ⟨l', rfl⟩
  | none =>
    have := reached_none h (l := l) (fun x hr => by
      obtain ⟨q, hq⟩ := reach_path hr
      exact (hre x).2 (reach_run q ((hre m).1 hm) hq))
    omega
theorem opt_init {t : Tsk} (ok : t.Ok) {l ws : List Nat} (hx : explored t = some l) (hp : ws.Perm l) {D : Nat → Int} (hd : CostOk (arcs (wordsOf t.ops) ws) (ws.map (goalB (wd t.goal))) (ws.map D)) {m : Nat} {a b : Int} (hq : MidQ t m a b) : D (wd t.init) = a + b := by
  obtain ⟨_, _, _, hsh, _, _, _, hin⟩ := costs_need ok hx hp
  obtain ⟨p, q, e, best, hb, hb0, r1, r2, hacc, c1, c2, l1, l2, q1, q2, q3⟩ := hq.ex
  have hall : runOps (wordsOf t.ops) (wd t.init) (p ++ q) = some e := by rw [runOps_append, r1]; exact r2
  have hcall : costN (wordsOf t.ops) (p ++ q) = a + b := by rw [costN_append, c1, c2]
  rw [← hcall]
  exact opt_is hsh (ops_cost0 ok) hd hin hall hacc (by rw [List.length_append]; omega) (by rw [hcall]; exact q3)
theorem opt_rest {t : Tsk} (ok : t.Ok) {m : Nat} (hg : Good t.n m) {l ws : List Nat} (hx : explored (t.rest m) = some l) (hp : ws.Perm l) {D : Nat → Int} (hd : CostOk (arcs (wordsOf t.ops) ws) (ws.map (goalB (wd t.goal))) (ws.map D)) {a b : Int} (hq : MidQ t m a b) : D (wd (facts m)) = b := by
  obtain ⟨_, _, _, hsh, _, _, _, hin⟩ := costs_need (rest_ok ok hg) hx hp
  have hin' : m ∈ ws := by
    have h : wd (facts m) ∈ ws := hin
    rw [hg.2] at h; exact h
  obtain ⟨p, q, e, best, hb, hb0, r1, r2, hacc, c1, c2, l1, l2, q1, q2, q3⟩ := hq.ex
  rw [hg.2, ← c2]
  exact opt_is (ops := wordsOf t.ops) hsh (ops_cost0 ok) hd hin' r2 hacc (by omega) (by rw [c2]; exact q2)
theorem opt_noplan {t : Tsk} (ok : t.Ok) {l ws : List Nat} (hx : explored t = some l) (hp : ws.Perm l) {D : Nat → Int} (hd : CostOk (arcs (wordsOf t.ops) ws) (ws.map (goalB (wd t.goal))) (ws.map D)) (hb : BestT t (-1)) : D (wd t.init) = 1000000000 := by
  obtain ⟨_, _, _, hsh, _, _, _, hin⟩ := costs_need ok hx hp
  have h1 := opt_low hd hin
  have hbig : bigC = 1000000000 := rfl
  by_cases h : D (wd t.init) < bigC
  · obtain ⟨q, y, hq, hy⟩ := opt_some hd hin h
    rcases hb with ⟨_, h2⟩ | ⟨h2, _⟩
    · rw [h2 q y hq] at hy; cases hy
    · omega
  · omega

set_option maxRecDepth 100000 in
set_option maxHeartbeats 1000000 in
theorem bothPartsLaw_any (w : World) (vi vg vo : Value) (t : Tsk) (h : TaskAt w vi vg vo t) :
    Calls Try.prog 7 #[.agg #[.int .i64 t.n, vi, vg, vo]] w fun e w' => e = .returned (.bool true) ∧ Keeps (fun _ => False) w w' := by
  obtain ⟨ai, ci, h1, _⟩ := h.init.form
  obtain ⟨ag, cg, h2, _⟩ := h.goal.form
  obtain ⟨ao, co, h3, hmo⟩ := h.ops.form
  subst h1 h2 h3
  have HB := Lib.hid (Four.new w (.int .i64 t.n) (.slice ai t.init.length ci) (.slice ag t.goal.length cg) (.slice ao t.ops.length co) 25)
  have K1 := (Keeps.refl (fun _ => False) w).alloc (.cells #[.int .i64 t.n, .slice ai t.init.length ci, .slice ag t.goal.length cg, .slice ao t.ops.length co] 25)
  have HT := Lib.hid (h.keeps0 K1); have HK := Lib.hid K1
  clear h K1
  go_enter Try.func7, Try.ntmps7
  go_upto_region 1 with fail
  generalize (w.alloc (.cells #[.int .i64 t.n, .slice ai t.init.length ci, .slice ag t.goal.length cg, .slice ao t.ops.length co] 25)) = w1 at HB HT HK ⊢
  generalize w.heap.size = bt at HB ⊢
  go_wp2_with fail
  refine (bothExample_any _).mono ?_; rintro e w2 ⟨rfl, hk⟩
  have HB1 := Lib.hid (HB.out.keeps0 hk); have HT1 := Lib.hid (HT.out.keeps0 hk); have HK1 := Lib.hid (HK.out.trans hk)
  clear HB HT HK
  clear hk
  have hbxd := HB1.out.lt
  obtain ⟨d0, d1, d2, d3⟩ := HB1.out
  go_wp2_with fail
  refine (middle_any _ _ _ _ t HT1.out).mono ?_; rintro e w4 ⟨hk, vx, xs, a, b, ok, fc, fi, rfl, hi, hr⟩
  obtain ⟨ax, cx, hvx, hml⟩ := hi.form
  subst hvx
  have HIS := Lib.hid hr
  clear hr
  clear hbxd d0 d1 d2 d3
  simp only [fltV]
  have KA := (Keeps.refl (fun _ => False) w4).alloc (.cells #[.int .i64 fc, .int .i64 fi] 30)
  have KB := hk.trans KA
  have HB2 := Lib.hid (HB1.out.keeps0 KB); have HT2 := Lib.hid (HT1.out.keeps0 KB); have HK2 := Lib.hid (HK1.out.trans KB)
  clear HB1 HT1 HK1
  have F7 := Lib.hid (heap_alloc_new w4 (.cells #[.int .i64 fc, .int .i64 fi] 30))
  have HX := Lib.hid (hi.keeps0 KA)
  clear hk KA KB
  go_upto_region 4 with fail
  generalize w4.alloc (.cells #[.int .i64 fc, .int .i64 fi] 30) = w5 at HB2 HT2 HK2 F7 HX ⊢
  generalize w4.heap.size = b5 at F7 ⊢
  clear hi
  have hbxd := HB2.out.lt
  obtain ⟨d0, d1, d2, d3⟩ := HB2.out
  go_wp2_with fail
  refine (optimal_any _ _ _ _ t HT2.out).mono ?_; rintro e w6 ⟨hk, hr⟩
  clear hbxd d0 d1 d2 d3
  rcases HIS.out with ⟨h1, h2, rfl, rfl, rfl, rfl⟩ | ⟨h1, rfl, rfl, hok, l, hx, hrest⟩
  ·
    rcases hr with ⟨c, i, hc, he, rfl⟩ | ⟨hok, l, ws, D, hx, hperm, _, hd, rfl⟩
    case inr => rw [expF_ok hok hx] at h2; cases h2; exact absurd rfl h1
    rw [h2] at he
    cases he
    have hcb : (fc != 0) = true := by simpa using h1
    clear h1 h2 hc HIS
    simp only [fltV]
    have KA := (Keeps.refl (fun _ => False) w6).alloc (.cells #[.int .i64 fc, .int .i64 fi] 30)
    have KB := hk.trans KA
    have HB3 := Lib.hid (HB2.out.keeps0 KB); have HT3 := Lib.hid (HT2.out.keeps0 KB); have HK3 := Lib.hid (HK2.out.trans KB); have F71 := Lib.hid (KB.heap F7.out (fun h => h)); have HX1 := Lib.hid (show Ints _ (.slice ax ([] : List Int).length cx) [] from HX.out.keeps0 KB)
    clear HB2 HT2 HK2 F7 HX
    have F9 := Lib.hid (heap_alloc_new w6 (.cells #[.int .i64 fc, .int .i64 fi] 30))
    clear hk KA KB
    go_upto_region 5 with fail
    generalize w6.alloc (.cells #[.int .i64 fc, .int .i64 fi] 30) = w7 at HB3 HT3 HK3 F71 HX1 F9 ⊢
    generalize w6.heap.size = b7 at F9 ⊢
    obtain ⟨p7, q7, r7, s7, l7⟩ := pair_cells F71.out
    clear r7 s7
    obtain ⟨p9, q9, r9, s9, l9⟩ := pair_cells F9.out
    clear r9 s9
    go_wp2_with fail
    go_ret
    exact ⟨rfl, HK3.out⟩
  ·
    rcases hr with ⟨c, i, hc, he, rfl⟩ | ⟨_, l', ws, D, hx', hperm, _, hd, rfl⟩
    · rw [h1] at he; cases he; exact absurd rfl hc
    obtain rfl : l = l' := by have := hx'.symm.trans hx; cases this; rfl
    have OK := Lib.hid hok; have HXP := Lib.hid hx; have HRS := Lib.hid hrest; have HPM := Lib.hid hperm; have HD := Lib.hid hd
    clear h1 hok hx hx' hrest hperm hd HIS
    simp only [fltV]
    have KA := (Keeps.refl (fun _ => False) w6).alloc (.cells #[.int .i64 0, .int .i64 0] 30)
    have KB := hk.trans KA
    have HB3 := Lib.hid (HB2.out.keeps0 KB); have HT3 := Lib.hid (HT2.out.keeps0 KB); have HK3 := Lib.hid (HK2.out.trans KB); have F71 := Lib.hid (KB.heap F7.out (fun h => h)); have HX1 := Lib.hid (show Ints _ (.slice ax xs.length cx) xs from HX.out.keeps0 KB)
    clear HB2 HT2 HK2 F7 HX
    have F9 := Lib.hid (heap_alloc_new w6 (.cells #[.int .i64 0, .int .i64 0] 30))
    clear hk KA KB
    go_upto_region 5 with fail
    generalize w6.alloc (.cells #[.int .i64 0, .int .i64 0] 30) = w7 at HB3 HT3 HK3 F71 HX1 F9 ⊢
    generalize w6.heap.size = b7 at F9 ⊢
    obtain ⟨p7, q7, r7, s7, l7⟩ := pair_cells F71.out
    clear r7 s7
    obtain ⟨p9, q9, r9, s9, l9⟩ := pair_cells F9.out
    clear r9 s9
    rcases HRS.out with ⟨hbt, rfl, rfl, rfl, rfl⟩ | ⟨m, rfl, rfl, hml2, hq⟩
    ·
      rw [opt_noplan OK.out HXP.out HPM.out HD.out hbt]
      clear hbt HRS HD
      go_wp2_with fail
      go_ret
      exact ⟨rfl, HK3.out⟩
    ·
      rw [opt_init OK.out HXP.out HPM.out HD.out hq]
      have hrs := reached_some (ops := wordsOf t.ops) (s := wd t.init) (l := l) HXP.out
      have hgd : Good t.n m := good_reach OK.out (good_wd (by have := OK.out.n1; omega) OK.out.init) ((hrs.2.2.2 m).1 hml2)
      obtain ⟨l2, hx2⟩ := rest_expl HXP.out hml2 hgd
      have HGD := Lib.hid hgd; have HXQ := Lib.hid hx2; have HQ := Lib.hid hq
      have hlo := hq.lo
      have OKQ := Lib.hid (rest_ok OK.out hgd)
      have hW : IntKind.i64.wrap (a + b) = a + b := IntWalk.i64_in _ (by omega)
      clear hrs hgd hx2 hml2 hq HRS HD
      have hbxd := HB3.out.lt
      obtain ⟨d0, d1, d2, d3⟩ := HB3.out
      have KA := (Keeps.refl (fun _ => False) w7).alloc (.cells #[.int .i64 t.n, .slice ax (facts m).length cx, .slice ag t.goal.length cg, .slice ao t.ops.length co] 25)
      have hr2 := Four.new w7 (.int .i64 t.n) (.slice ax (facts m).length cx) (.slice ag t.goal.length cg) (.slice ao t.ops.length co) 25
      go_upto_region 10 with fail
      clear p7 q7 l7 p9 q9 l9
      clear hbxd d0 d1 d2 d3
      have HB4 := Lib.hid (HB3.out.keeps0 KA); have HT4 := Lib.hid (HT3.out.keeps0 KA); have HK4 := Lib.hid (HK3.out.trans KA); have F72 := Lib.hid (KA.heap F71.out (fun h => h)); have HX2 := Lib.hid (show Ints _ (.slice ax (facts m).length cx) (facts m) from HX1.out.keeps0 KA); have F91 := Lib.hid (KA.heap F9.out (fun h => h))
      clear HB3 HT3 HK3 F71 HX1 F9
      have HC := Lib.hid (hr2)
      clear KA hr2
      generalize w7.alloc (.cells #[.int .i64 t.n, .slice ax (facts m).length cx, .slice ag t.goal.length cg, .slice ao t.ops.length co] 25) = w8 at HB4 HT4 HK4 F72 HX2 F91 HC ⊢
      generalize w7.heap.size = b10 at HC ⊢
      have HT2 := Lib.hid (show TaskAt w8 (.slice ax (facts m).length cx) (.slice ag t.goal.length cg) (.slice ao t.ops.length co) (t.rest m) from ⟨HX2.out, HT4.out.goal, HT4.out.ops⟩)
      have hbxc := HC.out.lt
      obtain ⟨c0, c1, c2, c3⟩ := HC.out
      go_wp2_with fail
      refine (optimal_any _ _ _ _ (t.rest m) HT2.out).mono ?_; rintro e y1 ⟨hk, hr⟩
      clear hbxc c0 c1 c2 c3
      rcases hr with ⟨c, i, hc, he, rfl⟩ | ⟨_, l', ws2, D2, hx', hperm2, _, hd2, rfl⟩
      · rw [expF_ok OKQ.out HXQ.out] at he; cases he; exact absurd rfl hc
      obtain rfl : l2 = l' := by have := hx'.symm.trans HXQ.out; cases this; rfl
      have hD2 : D2 (wd (t.rest m).init) = b := opt_rest OK.out HGD.out HXQ.out hperm2 hd2 HQ.out
      rw [hD2]
      clear hx' hperm2 hd2 hD2
      simp only [fltV]
      have KA := (Keeps.refl (fun _ => False) y1).alloc (.cells #[.int .i64 0, .int .i64 0] 30)
      have KB := hk.trans KA
      have HB5 := Lib.hid (HB4.out.keeps0 KB); have HT5 := Lib.hid (HT4.out.keeps0 KB); have HK5 := Lib.hid (HK4.out.trans KB); have F73 := Lib.hid (KB.heap F72.out (fun h => h)); have HX3 := Lib.hid (show Ints _ (.slice ax (facts m).length cx) (facts m) from HX2.out.keeps0 KB); have F92 := Lib.hid (KB.heap F91.out (fun h => h)); have HC1 := Lib.hid (HC.out.keeps0 KB); have HT21 := Lib.hid (HT2.out.keeps0 KB)
      clear HB4 HT4 HK4 F72 HX2 F91 HC HT2
      have F12 := Lib.hid (heap_alloc_new y1 (.cells #[.int .i64 0, .int .i64 0] 30))
      clear hk KA KB
      go_upto_region 11 with fail
      generalize y1.alloc (.cells #[.int .i64 0, .int .i64 0] 30) = z2 at HB5 HT5 HK5 F73 HX3 F92 HC1 HT21 F12 ⊢
      generalize y1.heap.size = b12 at F12 ⊢
      obtain ⟨p12, q12, r12, s12, l12⟩ := pair_cells F12.out
      clear r12 s12
      go_wp2_with fail
      go_ret
      exact ⟨rfl, HK5.out⟩

end Go.Proofs.Ytdonadeodioplaa
