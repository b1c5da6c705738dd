/- The reference's StepsFault, Ends, Works, Solves and PlanFault, for a plan that can be followed. noResult, isOne, StateFault of the reference. The reference's IsBest, at a best plan; the law's bestMatches. astar: kinds that are not permitted; the reference's faults of a call with a kind. astar: Checked and Plan at a kind that is not permitted; KindFault. KindFault; bestMatches of a result with a fault. deepening.Bounds; and what it shares with Plan. No condition beyond what each theorem says. -/
import Derived.Test.YtkjmgafnaddhkaaGreatJ8
import Derived.Test.YtkjmgafnaddhkaaGreatJ11
import Derived.Test.YtkjmgafnaddhkaaGreatJ2
import Derived.Test.YtkjmgafnaddhkaaGreatJ3
import Derived.Test.YtkjmgafnaddhkaaGreatJ4
import Derived.Test.YtkjmgafnaddhkaaGreatJ5
import Derived.Test.YtkjmgafnaddhkaaGreatJ10
import Derived.Sort.CutIn

namespace Go.Proofs.YtkjmgafnaddhkaaGreat
open Go.RowKit

set_option maxRecDepth 100000 in
set_option maxHeartbeats 2000000 in
theorem stepsFault_good (w : World) (vp : Value) (p : List Int) (n : Int) (hp : Ints w vp p) (hl : p.length ≤ 60) (hin : ∀ x ∈ p, 0 ≤ x ∧ x < n) (hn : 0 ≤ n ∧ n ≤ 1000000) :
    Calls Tryz.prog 85 #[.int .i64 n, vp] w fun e w' => e = .returned (.agg #[.int .i64 0, .int .i64 0]) ∧ Keeps (fun _ => False) w w' := by
  obtain ⟨ap, cp, h1, hpl⟩ := hp.form
  subst h1
  have K1 := (Keeps.refl (fun _ => False) w).alloc (.cells #[.int .i64 0, .int .i64 0] 31)
  have HF := Lib.hid (show Flt w (w.alloc (.cells #[.int .i64 0, .int .i64 0] 31)) w.heap.size 31 from ⟨heap_alloc_new w _, Nat.le_refl _, K1⟩)
  have HC := Lib.hid ((hp.keeps0 K1).cell rfl)
  have HIN := Lib.hid hin
  clear hp K1 hin
  have hgt : decide (60 < (p.length : Int)) = false := by simp; omega
  go_enter Tryz.func85, Tryz.ntmps85
  go_upto_region 1 with fail
  generalize (w.alloc (.cells #[.int .i64 0, .int .i64 0] 31)) = w1 at HF HC ⊢
  go_wp2_with fail
  go_loopw [5] (fun v5 wr => ∃ i : Nat, i ≤ p.length ∧ v5 = .int .i64 (i : Int) ∧ Keeps (fun _ => False) w1 wr) (fun v5 _ => p.length - (intOf v5).toNat)
  case atStart => exact ⟨0, Nat.zero_le _, rfl, Keeps.refl _ _⟩
  case round =>
    obtain ⟨i, hi, rfl, hkr⟩ := hrel
    have HKR := Lib.hid hkr
    clear hkr
    by_cases hlt : i < p.length
    · obtain ⟨x, hx⟩ : ∃ x, p[i]? = some x := ⟨_, List.getElem?_eq_getElem hlt⟩
      obtain ⟨bp, op, rfl, hpc⟩ := HC.out (by omega)
      have q1 := HKR.out.cell (hpc i x hx) (fun h => h)
      have hxn := HIN.out x (List.mem_of_getElem? hx)
      clear hpc hx
      have hilt : (i : Int) < (p.length : Int) := by omega
      go_wp2_with fail
      refine (in_true _ x 0 (n - 1) (by unfold inB; simp; omega)).mono ?_; rintro e w2 ⟨rfl, hw⟩
      subst hw
      go_wp2_with fail
      go_roundw
      case rel => exact ⟨i + 1, by omega, by go_num, HKR.out⟩
      case measure => simp [intOf]; omega
    · obtain rfl : i = p.length := by omega
      have HF2 := Lib.hid (HF.out.keeps0 HKR.out)
      obtain ⟨e0, e1, z0, z1, hF⟩ := HF2.out.cells
      go_wp2_with fail
      refine bodyPost_ret (results_cell_row rfl _ _ w.heap.size 31 _ (0, 0) _ rfl (HF2.out.set (.int .i64 0) (.int .i64 0)).1 Tryz.underlying31 rfl (by kernel_rfl)) rfl ?_
      exact ⟨rfl, (HF2.out.set (.int .i64 0) (.int .i64 0)).2⟩

theorem run_take {ops : List Wop} : ∀ {q : List Nat} {x y : Nat}, runOps ops x q = some y → ∀ i, i < q.length → ∃ z a o, runOps ops x (q.take i) = some z ∧ q[i]? = some a ∧ ops[a]? = some o ∧ o.can z = true ∧ runOps ops x (q.take (i + 1)) = some (o.next z) := fun {q x y} hr i hi => by
  obtain ⟨z, hz, hd⟩ := run_cut hr i
  obtain ⟨a, ha⟩ : ∃ a, q[i]? = some a := ⟨_, List.getElem?_eq_getElem hi⟩
  rw [drop_getS ha, runOps] at hd
  cases ho : ops[a]? with
  | none => rw [ho] at hd; cases hd
  | some o =>
    rw [ho] at hd; simp only at hd
    by_cases hc : o.can z = true
    · exact ⟨z, a, o, hz, ha, ho, hc, by rw [take_getS ha, runOps_append, hz]; simp [runOps, ho, hc]⟩
    · rw [if_neg hc] at hd; cases hd

set_option maxRecDepth 100000 in
set_option maxHeartbeats 4000000 in
theorem ends_good (w : World) (vi vg vo vs vp : Value) (t : Tsk) (x y : Nat) (q : List Nat) (h : TaskAt w vi vg vo t) (ok : t.Ok) (hs : Ints w vs (facts x)) (hg : Good t.n x) (hp : Ints w vp (intsP q)) (hr : runOps (wordsOf t.ops) x q = some y) (hl : q.length ≤ 100000) :
    Calls Tryz.prog 112 #[.agg #[.int .i64 t.n, vi, vg, vo], vs, vp] w fun e w' => ∃ v, e = .returned (.tuple #[v, .bool true]) ∧ Ints w' v (facts y) ∧ Keeps (fun _ => False) w w' := by
  obtain ⟨ai, ci, h1, _⟩ := h.init.form
  obtain ⟨ag, cg, h2, _⟩ := h.goal.form
  obtain ⟨ao, co, h3, hmo⟩ := h.ops.form
  obtain ⟨ap, cp, h4, hpl⟩ := hp.form
  have hil : (intsP q).length = q.length := by simp [intsP]
  rw [hil] at h4
  subst h1 h2 h3 h4
  have HB := Lib.hid (Four.new w (.int .i64 t.n) (.slice ai t.init.length ci) (.slice ag t.goal.length cg) (.slice ao t.ops.length co) 25)
  have K1 := (Keeps.refl (fun _ => False) w).alloc (.cells #[.int .i64 t.n, .slice ai t.init.length ci, .slice ag t.goal.length cg, .slice ao t.ops.length co] 25)
  have HT := Lib.hid (h.keeps0 K1); have HK := Lib.hid K1; have HS := Lib.hid (hs.keeps0 K1); have HCP := Lib.hid ((hp.keeps0 K1).cell rfl)
  have OK := Lib.hid ok; have HG := Lib.hid hg; have HR := Lib.hid hr; have HIL := Lib.hid hil
  clear h K1 hs hp ok hg hr hil
  go_enter Tryz.func112, Tryz.ntmps112
  go_upto_region 1 with fail
  generalize (w.alloc (.cells #[.int .i64 t.n, .slice ai t.init.length ci, .slice ag t.goal.length cg, .slice ao t.ops.length co] 25)) = w1 at HB HT HK HS HCP ⊢
  generalize w.heap.size = bt at HB ⊢
  go_wp2_with fail
  go_loopw [1, 8] (fun v1 v8 wr => ∃ (i z : Nat), i ≤ q.length ∧ v8 = .int .i64 (i : Int) ∧ runOps (wordsOf t.ops) x (q.take i) = some z ∧ Good t.n z ∧ Ints wr v1 (facts z) ∧ Keeps (fun _ => False) w1 wr) (fun _ v8 _ => q.length - (intOf v8).toNat)
  case atStart => exact ⟨0, x, Nat.zero_le _, rfl, rfl, HG.out, HS.out, Keeps.refl _ _⟩
  case round =>
    obtain ⟨i, z, hi, rfl, hz, hgz, hv, hkr⟩ := hrel
    obtain ⟨av, cv, hvf, _⟩ := hv.form
    subst hvf
    have HV := Lib.hid hv; have HKR := Lib.hid hkr; have HGZ := Lib.hid hgz; have HZ := Lib.hid hz
    clear hv hkr hgz hz
    by_cases hlt : i < q.length
    · obtain ⟨z', a, o, g1, g2, g3, g4, g5⟩ := run_take HR.out i hlt
      obtain rfl : z' = z := by have := g1.symm.trans HZ.out; cases this; rfl
      obtain ⟨o', ho', rfl⟩ : ∃ o', t.ops[a]? = some o' ∧ o'.word = o := by
        unfold wordsOf at g3
        rw [List.getElem?_map] at g3
        obtain ⟨o', h1, h2⟩ := Option.map_eq_some_iff.1 g3
        exact ⟨o', h1, h2⟩
      obtain ⟨hap, haf, hgn⟩ := good_next (by have := OK.out.n1; omega) (OK.out.ops o' (List.mem_of_getElem? ho')) HGZ.out
      rw [g4] at hap
      obtain ⟨bp, op, rfl, hpc⟩ := HCP.out (by rw [HIL.out]; omega)
      have q1 := HKR.out.cell (hpc i (a : Int) (by unfold intsP; rw [List.getElem?_map, g2]; rfl)) (fun h => h)
      have HAP := Lib.hid hap; have HAF := Lib.hid haf; have HGN := Lib.hid hgn; have HOO := Lib.hid ho'; have HNX := Lib.hid g5
      have HBq := Lib.hid (HB.out.keeps0 HKR.out); have HTq := Lib.hid (HT.out.keeps0 HKR.out)
      have hbx := HBq.out.lt
      obtain ⟨d0, d1, d2, d3⟩ := HBq.out
      have hilt : (i : Int) < (q.length : Int) := by omega
      have hi0 : (0 : Int) ≤ (i : Int) := by omega
      clear g1 g2 g3 g4 g5 hpc hap haf hgn ho'
      go_upto_region 4 with fail
      go_still_tail 6, (by kernel_rfl)
      change wpList _ _ _ _ _ wr.drew
      have KD := (Keeps.refl (fun _ => False) wr).drew
      have HTD := Lib.hid (HTq.out.keeps0 KD); have HVD := Lib.hid (show Ints wr.drew (.slice av (facts z').length cv) (facts z') from HV.out.keeps0 KD); have HBD := Lib.hid (HBq.out.keeps0 KD); have KRD := Lib.hid (HKR.out.trans KD)
      have q1 := KD.cell q1 (fun h => h)
      clear KD d0 d1 d2 d3 hbx HBq HTq HV HKR
      generalize wr.drew = w4 at HTD HVD HBD KRD q1 ⊢
      go_wp2_with fail
      refine (applies_any _ _ _ _ _ t (facts z') a o' HTD.out HVD.out HOO.out).mono ?_; rintro en w5 ⟨rfl, hk⟩
      rw [HAP.out]
      have HT5 := Lib.hid (HTD.out.keeps0 hk); have HV5 := Lib.hid (show Ints w5 (.slice av (facts z').length cv) (facts z') from HVD.out.keeps0 hk); have HB5 := Lib.hid (HBD.out.keeps0 hk); have KR5 := Lib.hid (KRD.out.trans hk)
      have q1 := hk.cell q1 (fun h => h)
      clear hk HTD HVD HBD KRD
      have hbx := HB5.out.lt
      obtain ⟨d0, d1, d2, d3⟩ := HB5.out
      go_upto_region 6 with fail
      go_still_tail 6, (by kernel_rfl)
      change wpList _ _ _ _ _ w5.drew
      have KD := (Keeps.refl (fun _ => False) w5).drew
      have HTD := Lib.hid (HT5.out.keeps0 KD); have HVD := Lib.hid (show Ints w5.drew (.slice av (facts z').length cv) (facts z') from HV5.out.keeps0 KD); have KRD := Lib.hid (KR5.out.trans KD)
      clear KD d0 d1 d2 d3 hbx HB5 HT5 HV5 KR5 q1
      generalize w5.drew = w6 at HTD HVD KRD ⊢
      go_wp2_with fail
      refine (after_any _ _ _ _ _ t (facts z') a o' HTD.out HVD.out HOO.out OK.out.n0 (by have := OK.out.n1; omega)).mono ?_; rintro en w7 ⟨v, rfl, hown, hk⟩
      have HV7 := Lib.hid (show Ints w7 v (facts (o'.word.next z')) by have := Ints.of_own hown; rwa [HAF.out] at this)
      have KR7 := Lib.hid (KRD.out.trans hk)
      clear hown hk
      go_wp2_with fail
      go_roundw
      case rel => exact ⟨i + 1, o'.word.next z', by omega, by go_num, HNX.out, HGN.out, HV7.out, KR7.out⟩
      case measure => simp [intOf]; omega
    · obtain rfl : i = q.length := by omega
      have hzy : z = y := by have := HZ.out; rw [List.take_length] at this; have := this.symm.trans HR.out; cases this; rfl
      subst hzy
      go_wp2_with fail
      go_ret2
      exact ⟨_, rfl, HV.out, HK.out.trans HKR.out⟩

set_option maxRecDepth 100000 in
set_option maxHeartbeats 2000000 in
theorem worksR_good (w : World) (vi vg vo vs vp : Value) (t : Tsk) (x y : Nat) (q : List Nat) (h : TaskAt w vi vg vo t) (ok : t.Ok) (hs : Ints w vs (facts x)) (hg : Good t.n x) (hp : Ints w vp (intsP q)) (hr : runOps (wordsOf t.ops) x q = some y) (hl : q.length ≤ 100000) :
    Calls Tryz.prog 86 #[.agg #[.int .i64 t.n, vi, vg, vo], vs, vp] w fun e w' => e = .returned (.bool (goalW t y)) ∧ Keeps (fun _ => False) w w' := by
  obtain ⟨ai, ci, h1, _⟩ := h.init.form
  obtain ⟨ag, cg, h2, _⟩ := h.goal.form
  obtain ⟨ao, co, h3, hmo⟩ := h.ops.form
  subst h1 h2 h3
  have HB := Lib.hid (Four.new w (.int .i64 t.n) (.slice ai t.init.length ci) (.slice ag t.goal.length cg) (.slice ao t.ops.length co) 25)
  have K1 := (Keeps.refl (fun _ => False) w).alloc (.cells #[.int .i64 t.n, .slice ai t.init.length ci, .slice ag t.goal.length cg, .slice ao t.ops.length co] 25)
  have HT := Lib.hid (h.keeps0 K1); have HK := Lib.hid K1; have HS := Lib.hid (hs.keeps0 K1); have HP := Lib.hid (hp.keeps0 K1)
  have OK := Lib.hid ok; have HG := Lib.hid hg; have HR := Lib.hid hr
  clear h K1 hs hp ok hg hr
  go_enter Tryz.func86, Tryz.ntmps86
  go_upto_region 1 with fail
  generalize (w.alloc (.cells #[.int .i64 t.n, .slice ai t.init.length ci, .slice ag t.goal.length cg, .slice ao t.ops.length co] 25)) = w1 at HB HT HK HS HP ⊢
  generalize w.heap.size = bt at HB ⊢
  have hbx := HB.out.lt
  obtain ⟨d0, d1, d2, d3⟩ := HB.out
  go_wp2_with fail
  refine (ends_good _ _ _ _ _ _ t x y q HT.out OK.out HS.out HG.out HP.out HR.out hl).mono ?_; rintro e w2 ⟨v, rfl, hv, hk⟩
  have HB2 := Lib.hid (HB.out.keeps0 hk); have HT2 := Lib.hid (HT.out.keeps0 hk); have K2 := Lib.hid (HK.out.trans hk); have HV := Lib.hid hv
  clear d0 d1 d2 d3 hbx hk hv
  have hbx := HB2.out.lt
  obtain ⟨d0, d1, d2, d3⟩ := HB2.out
  go_wp2_with fail
  refine (subset_goal _ _ _ t y HT2.out.goal HV.out).mono ?_; rintro e w3 ⟨rfl, rfl⟩
  go_wp2_with fail
  go_ret
  exact ⟨rfl, K2.out⟩

set_option maxRecDepth 100000 in
set_option maxHeartbeats 2000000 in
theorem solvesR_good (w : World) (vi vg vo vp : Value) (t : Tsk) (y : Nat) (q : List Nat) (h : TaskAt w vi vg vo t) (ok : t.Ok) (hp : Ints w vp (intsP q)) (hr : runOps (wordsOf t.ops) (wd t.init) q = some y) (hl : q.length ≤ 100000) :
    Calls Tryz.prog 55 #[.agg #[.int .i64 t.n, vi, vg, vo], vp] w fun e w' => e = .returned (.bool (goalW t y)) ∧ Keeps (fun _ => False) w w' := by
  obtain ⟨ai, ci, h1, _⟩ := h.init.form
  obtain ⟨ag, cg, h2, _⟩ := h.goal.form
  obtain ⟨ao, co, h3, hmo⟩ := h.ops.form
  subst h1 h2 h3
  have HB := Lib.hid (Four.new w (.int .i64 t.n) (.slice ai t.init.length ci) (.slice ag t.goal.length cg) (.slice ao t.ops.length co) 25)
  have K1 := (Keeps.refl (fun _ => False) w).alloc (.cells #[.int .i64 t.n, .slice ai t.init.length ci, .slice ag t.goal.length cg, .slice ao t.ops.length co] 25)
  have HT := Lib.hid (h.keeps0 K1); have HK := Lib.hid K1; have HP := Lib.hid (hp.keeps0 K1)
  have OK := Lib.hid ok; have HR := Lib.hid hr
  have HG := Lib.hid (good_wd (by have := ok.n1; omega : t.n ≤ 32) ok.init)
  have hfi : facts (wd t.init) = t.init := facts_wd (isSet_mono ok.init (by have := ok.n1; omega))
  have HFI := Lib.hid hfi
  clear h K1 hp ok hr hfi
  go_enter Tryz.func55, Tryz.ntmps55
  go_upto_region 1 with fail
  generalize (w.alloc (.cells #[.int .i64 t.n, .slice ai t.init.length ci, .slice ag t.goal.length cg, .slice ao t.ops.length co] 25)) = w1 at HB HT HK HP ⊢
  generalize w.heap.size = bt at HB ⊢
  have hbx := HB.out.lt
  obtain ⟨d0, d1, d2, d3⟩ := HB.out
  go_wp2_with fail
  refine (worksR_good _ _ _ _ _ _ t (wd t.init) y q HT.out OK.out (by rw [HFI.out]; exact HT.out.init) HG.out HP.out HR.out hl).mono ?_; rintro e w2 ⟨rfl, hk⟩
  go_wp2_with fail
  go_ret
  exact ⟨rfl, HK.out.trans hk⟩

set_option maxRecDepth 100000 in
set_option maxHeartbeats 2000000 in
theorem planFaultR_good (w : World) (vi vg vo vp : Value) (t : Tsk) (p : List Int) (h : TaskAt w vi vg vo t) (ok : t.Ok) (hp : Ints w vp p) (hl : p.length ≤ 60) (hin : PlanIn t p) :
    Calls Tryz.prog 54 #[.agg #[.int .i64 t.n, vi, vg, vo], vp] w fun e w' => e = .returned (.agg #[.int .i64 0, .int .i64 0]) ∧ Keeps (fun _ => False) w w' := by
  obtain ⟨ai, ci, h1, _⟩ := h.init.form
  obtain ⟨ag, cg, h2, _⟩ := h.goal.form
  obtain ⟨ao, co, h3, hmo⟩ := h.ops.form
  subst h1 h2 h3
  have K1 := (Keeps.refl (fun _ => False) w).alloc (.cells #[.int .i64 t.n, .slice ai t.init.length ci, .slice ag t.goal.length cg, .slice ao t.ops.length co] 25)
  have KA := K1.alloc (.cells #[.int .i64 0, .int .i64 0] 31)
  have HT := Lib.hid (h.keeps0 KA); have HP := Lib.hid (hp.keeps0 KA)
  have HB := Lib.hid ((Four.new w (.int .i64 t.n) (.slice ai t.init.length ci) (.slice ag t.goal.length cg) (.slice ao t.ops.length co) 25).keeps0 ((Keeps.refl _ _).alloc (.cells #[.int .i64 0, .int .i64 0] 31)))
  have HF := Lib.hid (show Flt w ((w.alloc (.cells #[.int .i64 t.n, .slice ai t.init.length ci, .slice ag t.goal.length cg, .slice ao t.ops.length co] 25)).alloc (.cells #[.int .i64 0, .int .i64 0] 31)) (w.heap.size + 1) 31 from
    ⟨by have := heap_alloc_new (w.alloc (.cells #[.int .i64 t.n, .slice ai t.init.length ci, .slice ag t.goal.length cg, .slice ao t.ops.length co] 25)) (.cells #[.int .i64 0, .int .i64 0] 31); rwa [World.size_alloc] at this, by omega, KA⟩)
  have OK := Lib.hid ok; have HIN := Lib.hid hin
  have hfew := ok.few
  clear h K1 KA hp ok hin
  go_enter Tryz.func54, Tryz.ntmps54
  go_upto_region 1 with fail
  generalize ((w.alloc (.cells #[.int .i64 t.n, .slice ai t.init.length ci, .slice ag t.goal.length cg, .slice ao t.ops.length co] 25)).alloc (.cells #[.int .i64 0, .int .i64 0] 31)) = w1 at HB HT HF HP ⊢
  have hbx := HB.out.lt
  obtain ⟨d0, d1, d2, d3⟩ := HB.out
  go_wp2_with fail
  refine (taskFault_any _ _ _ _ t HT.out).mono ?_; rintro e w2 ⟨rfl, hk⟩
  rw [taskFault_ok OK.out]
  have KB := (Keeps.refl (fun _ => False) w2).alloc (.cells #[.int .i64 0, .int .i64 0] 31)
  have HB3 := Lib.hid (HB.out.keeps0 (hk.trans KB)); have HP3 := Lib.hid (HP.out.keeps0 (hk.trans KB)); have HF3 := Lib.hid (HF.out.keeps0 (hk.trans KB))
  have F0 := Lib.hid (heap_alloc_new w2 (.cells #[.int .i64 0, .int .i64 0] 31))
  have hlt2 : w.heap.size + 1 < w2.heap.size := Nat.lt_of_lt_of_le HF.out.cells.2.2.2.2 hk.size
  clear d0 d1 d2 d3 hbx hk KB HB HT HF HP
  go_upto_region 2 with fail
  generalize w2.alloc (.cells #[.int .i64 0, .int .i64 0] 31) = w3 at HB3 HF3 HP3 F0 ⊢
  generalize w2.heap.size = b3 at F0 hlt2 ⊢
  obtain ⟨p0, p1, y0, y1, pl⟩ := pair_cells F0.out
  have hbx := HB3.out.lt
  obtain ⟨d0, d1, d2, d3⟩ := HB3.out
  go_wp2_with fail
  refine (stepsFault_good _ _ p (t.ops.length : Int) HP3.out hl HIN.out (by omega)).mono ?_; rintro e w4 ⟨rfl, hk⟩
  have HF4 := Lib.hid (HF3.out.keeps0 hk)
  have F4 := hk.heap F0.out (fun h => h)
  clear p0 p1 y0 y1 pl d0 d1 d2 d3 hbx hk
  obtain ⟨p0, p1, y0, y1, pl⟩ := pair_cells F4
  obtain ⟨e0, e1, z0, z1, hF⟩ := HF4.out.cells
  have hne : b3 ≠ w.heap.size + 1 := by omega
  have i0 := setCell_id p0
  have i1 := setCell_id p1
  go_wp2_with fail
  refine bodyPost_ret (results_cell_row rfl _ _ (w.heap.size + 1) 31 _ (0, 0) _ rfl (HF4.out.set (.int .i64 0) (.int .i64 0)).1 Tryz.underlying31 rfl (by kernel_rfl)) rfl ?_
  exact ⟨rfl, (HF4.out.set _ _).2⟩

end Go.Proofs.YtkjmgafnaddhkaaGreat

namespace Go.Proofs.YtkjmgafnaddhkaaGreat
open Go.RowKit

def noResB (f : Bool) (m : Nat) (c n : Int) : Bool := !f && (m == 0) && (c == 0) && (n == 0)

set_option maxRecDepth 100000 in
set_option maxHeartbeats 1000000 in
theorem noResult_any (w : World) (f : Bool) (ao : Option Addr) (m cap : Nat) (c n : Int) (hm : m ≤ 9223372036854775807) :
    Calls Tryz.prog 18 #[resV f (.slice ao m cap) c n] w fun e w' => e = .returned (.bool (noResB f m c n)) ∧ Keeps (fun _ => False) w w' := by
  have HK := Lib.hid ((Keeps.refl (fun _ => False) w).alloc (.cells #[.bool f, .slice ao m cap, .int .i64 c, .int .i64 n] 29))
  have HX := heap_alloc_new w (.cells #[.bool f, .slice ao m cap, .int .i64 c, .int .i64 n] 29)
  have HE : Hid (noResB f m c n = (!f && (m == 0) && (c == 0) && (n == 0))) := rfl
  unfold resV
  go_enter Tryz.func18, Tryz.ntmps18
  go_upto_region 1 with fail
  generalize w.alloc (.cells #[.bool f, .slice ao m cap, .int .i64 c, .int .i64 n] 29) = w1 at HX HK ⊢
  have s0 : w1.cell? ⟨w.heap.size, 0, none⟩ = some (.bool f) := by rw [cell_of_blk HX]; rfl
  have s1 : w1.cell? ⟨w.heap.size, 1, none⟩ = some (.slice ao m cap) := by rw [cell_of_blk HX]; rfl
  have s2 : w1.cell? ⟨w.heap.size, 2, none⟩ = some (.int .i64 c) := by rw [cell_of_blk HX]; rfl
  have s3 : w1.cell? ⟨w.heap.size, 3, none⟩ = some (.int .i64 n) := by rw [cell_of_blk HX]; rfl
  have hl := lt_of_heap HX
  clear HX
  cases f with
  | true =>
    go_wp2_with fail
    go_ret
    exact ⟨congrArg (fun b => Ending.returned (Value.bool b)) (show false = noResB true m c n by rw [HE.out]; rfl), HK.out⟩
  | false =>
    by_cases h1 : m = 0
    · subst h1
      cases h2 : (c == 0) with
      | true =>
        go_wp2_with fail
        go_ret
        exact ⟨congrArg (fun b => Ending.returned (Value.bool b)) (show (n == 0) = noResB false 0 c n by rw [HE.out, h2]; rfl), HK.out⟩
      | false =>
        go_wp2_with fail
        go_ret
        exact ⟨congrArg (fun b => Ending.returned (Value.bool b)) (show false = noResB false 0 c n by rw [HE.out, h2]; rfl), HK.out⟩
    · have h2 : ((m : Int) == 0) = false := by simp; omega
      go_wp2_with fail
      go_ret
      exact ⟨congrArg (fun b => Ending.returned (Value.bool b)) (show false = noResB false m c n by rw [HE.out]; simp [h1]), HK.out⟩

/-! ### StateFault of the reference -/
end Go.Proofs.YtkjmgafnaddhkaaGreat

/- isOne at the task step. -/
namespace Go.Proofs.YtkjmgafnaddhkaaGreat
open Go.RowKit

set_option maxRecDepth 100000 in
set_option maxHeartbeats 1000000 in
theorem isOne_any (w : World) (vp : Value) (n : Int) (h : Ints w vp [0]) :
    Calls Tryz.prog 44 #[resV true vp 3 n, fltV 0 0] w fun e w' => e = .returned (.bool true) ∧ Keeps (fun _ => False) w w' := by
  obtain ⟨ap, cp, h4, _⟩ := h.form
  subst h4
  have KA := (Keeps.refl (fun _ => False) w).alloc (.cells #[.bool true, .slice ap 1 cp, .int .i64 3, .int .i64 n] 29)
  have KB := (Keeps.refl (fun _ => False) (w.alloc (.cells #[.bool true, .slice ap 1 cp, .int .i64 3, .int .i64 n] 29))).alloc (.cells #[.int .i64 0, .int .i64 0] 31)
  have HK := Lib.hid (KA.trans KB)
  have HX := KB.heap (heap_alloc_new w (.cells #[.bool true, .slice ap 1 cp, .int .i64 3, .int .i64 n] 29)) (fun h => h)
  have HF := heap_alloc_new (w.alloc (.cells #[.bool true, .slice ap 1 cp, .int .i64 3, .int .i64 n] 29)) (.cells #[.int .i64 0, .int .i64 0] 31)
  rw [World.size_alloc] at HF
  have HP := Lib.hid (show Ints _ (.slice ap 1 cp) [0] from h.keeps0 (KA.trans KB))
  clear KA KB h
  unfold resV fltV
  go_enter Tryz.func44, Tryz.ntmps44
  go_upto_region 1 with fail
  generalize (w.alloc (.cells #[.bool true, .slice ap 1 cp, .int .i64 3, .int .i64 n] 29)).alloc (.cells #[.int .i64 0, .int .i64 0] 31) = w1 at HX HF HK HP ⊢
  have s0 : w1.cell? ⟨w.heap.size, 0, none⟩ = some (.bool true) := by rw [cell_of_blk HX]; rfl
  have s1 : w1.cell? ⟨w.heap.size, 1, none⟩ = some (.slice ap 1 cp) := by rw [cell_of_blk HX]; rfl
  have s2 : w1.cell? ⟨w.heap.size, 2, none⟩ = some (.int .i64 3) := by rw [cell_of_blk HX]; rfl
  have f0 : w1.cell? ⟨w.heap.size + 1, 0, none⟩ = some (.int .i64 0) := by rw [cell_of_blk HF]; rfl
  have hl := lt_of_heap HX
  have hlF := lt_of_heap HF
  have kc := (Keeps.refl (fun _ => False) w1).alloc (.cells #[.int .i64 0] 3)
  have HQ := Lib.hid (Ints.one (x := 0) (heap_alloc_new w1 (.cells #[.int .i64 0] 3)))
  have HP2 := Lib.hid (show Ints _ (.slice ap 1 cp) [0] from HP.out.keeps0 kc)
  have HK2 := Lib.hid (HK.out.trans kc)
  have HX2 := Lib.hid (kc.heap HX (fun h => h))
  clear kc HX HF
  go_wp2_with fail
  refine (ints_any _ _ _ _ _ HP2.out HQ.out).mono ?_; rintro e w3 ⟨rfl, hk⟩
  have hx := hk.heap HX2.out (fun h => h)
  clear s0 s1 s2 hl
  have s2 : w3.cell? ⟨w.heap.size, 2, none⟩ = some (.int .i64 3) := by rw [cell_of_blk hx]; rfl
  have hl := lt_of_heap hx
  have HKE := Lib.hid (HK2.out.trans hk)
  clear hx hk
  go_wp2_with fail
  go_ret
  exact ⟨rfl, HKE.out⟩

end Go.Proofs.YtkjmgafnaddhkaaGreat

namespace Go.Proofs.YtkjmgafnaddhkaaGreat
open Go.RowKit

theorem costL_is (t : Tsk) : ∀ q : List Nat, costL t (intsP q) = costN (wordsOf t.ops) q
  | [] => rfl
  | a :: r => by
    have h := costL_is t r
    unfold intsP at h ⊢
    rw [List.map_cons, costL, costN, h]
    congr 1
    unfold costAt wordsOf
    rw [List.getElem?_map, Int.toNat_natCast, Option.map_map]
    rfl

theorem goal_reached {t : Tsk} (ok : t.Ok) {q : List Nat} {y : Nat} (hr : runOps (wordsOf t.ops) (wd t.init) q = some y) (ha : goalB (wd t.goal) y = true) : goalW t y = true := by
  rw [goalW_goalB ok (good_reach ok (good_wd (by have := ok.n1; omega) ok.init) (reach_run q .refl hr))]
  exact ha

theorem fld_fault (x y : Value) (W : World) : (Instr.field 31 (.agg #[x, y]) 0).run Tryz.prog W = .ok x W := by kernel_rfl

set_option maxRecDepth 100000 in
set_option maxHeartbeats 4000000 in
theorem isBest_any (w : World) (vi vg vo vp : Value) (t : Tsk) (l : List Nat) (b : Int) (fnd : Bool) (lp : List Int) (c n : Int) {n0 : Int} (h : TaskAt w vi vg vo t) (ok : t.Ok) (hx : explored t = some l) (hb : BestT t b) (hs : stepsB b ≤ 60) (hp : Ints w vp lp) (hg : BPlanG t l b fnd lp c n0) :
    Calls Tryz.prog 21 #[.agg #[.int .i64 t.n, vi, vg, vo], resV fnd vp c n] w fun e w' => e = .returned (.bool true) ∧ Keeps (fun _ => False) w w' := by
  obtain ⟨ai, ci, h1, _⟩ := h.init.form
  obtain ⟨ag, cg, h2, _⟩ := h.goal.form
  obtain ⟨ao, co, h3, hmo⟩ := h.ops.form
  obtain ⟨ap, cp, h4, hml⟩ := hp.form
  subst h1 h2 h3 h4
  have K1 := (Keeps.refl (fun _ => False) w).alloc (.cells #[.int .i64 t.n, .slice ai t.init.length ci, .slice ag t.goal.length cg, .slice ao t.ops.length co] 25)
  have K2 := (Keeps.refl (fun _ => False) (w.alloc (.cells #[.int .i64 t.n, .slice ai t.init.length ci, .slice ag t.goal.length cg, .slice ao t.ops.length co] 25))).alloc (.cells #[.bool fnd, .slice ap lp.length cp, .int .i64 c, .int .i64 n] 29)
  have HB := Lib.hid ((Four.new w (.int .i64 t.n) (.slice ai t.init.length ci) (.slice ag t.goal.length cg) (.slice ao t.ops.length co) 25).keeps0 K2)
  have hr := Four.new (w.alloc (.cells #[.int .i64 t.n, .slice ai t.init.length ci, .slice ag t.goal.length cg, .slice ao t.ops.length co] 25)) (.bool fnd) (.slice ap lp.length cp) (.int .i64 c) (.int .i64 n) 29
  rw [World.size_alloc] at hr
  have HR := Lib.hid hr
  have HT := Lib.hid (h.keeps0 (K1.trans K2)); have HP := Lib.hid (hp.keeps0 (K1.trans K2)); have HK := Lib.hid (K1.trans K2)
  have OK := Lib.hid ok; have HX := Lib.hid hx; have HBT := Lib.hid hb; have HG := Lib.hid hg
  clear h K1 K2 hr hp ok hx hb hg
  have hfld := fld_fault (.int .i64 0) (.int .i64 0)
  simp only [resV]
  go_enter Tryz.func21, Tryz.ntmps21
  go_upto_region 1 with fail
  generalize ((w.alloc (.cells #[.int .i64 t.n, .slice ai t.init.length ci, .slice ag t.goal.length cg, .slice ao t.ops.length co] 25)).alloc (.cells #[.bool fnd, .slice ap lp.length cp, .int .i64 c, .int .i64 n] 29)) = w1 at HB HR HT HP HK ⊢
  generalize w.heap.size = bt at HB HR ⊢
  have hbx := HB.out.lt
  obtain ⟨d0, d1, d2, d3⟩ := HB.out
  go_wp2_with fail
  refine (bestPlans_any _ _ _ _ t HT.out OK.out HX.out).mono ?_; rintro e w2 ⟨b', rfl, hb', hk⟩
  obtain rfl : b' = b := LeastOf.unique hb' HBT.out
  have HB2 := Lib.hid (HB.out.keeps0 hk); have HR2 := Lib.hid (HR.out.keeps0 hk); have HT2 := Lib.hid (HT.out.keeps0 hk); have HP2 := Lib.hid (HP.out.keeps0 hk); have HK2 := Lib.hid (HK.out.trans hk)
  clear d0 d1 d2 d3 hbx hk hb' HB HR HT HP HK
  obtain ⟨r0, r1, r2, r3⟩ := HR2.out
  have hlr := HR2.out.lt
  have hbx := HB2.out.lt
  obtain ⟨d0, d1, d2, d3⟩ := HB2.out
  by_cases h0 : b' < 0
  · have ev : bestV b' = .tuple #[.int .i64 0, .int .i64 0, .bool false] := by unfold bestV; rw [if_pos h0]
    obtain ⟨rfl, rfl, rfl⟩ := HG.out.none_ h0
    rw [ev]
    clear ev h0 hs
    go_wp2_with fail
    go_ret
    exact ⟨rfl, HK2.out⟩
  · have hge : 0 ≤ b' := by omega
    have ev : bestV b' = .tuple #[.int .i64 (b' / 4096), .int .i64 (b' % 4096), .bool true] := by unfold bestV; rw [if_neg h0]
    obtain ⟨rfl, q, y, rfl, hrun, hacc, hlen, hcost, hc⟩ := HG.out.some_ hge
    have hgw := goal_reached OK.out hrun hacc
    have hcl : costL t (intsP q) = b' / 4096 := by rw [costL_is]; exact hcost
    rw [hcl] at hc
    subst hc
    have hs2 : b' % 4096 ≤ 60 := by unfold stepsB at hs; rw [if_neg h0] at hs; exact hs
    have hl2 : ((intsP q).length : Int) = b' % 4096 := by unfold intsP; rw [List.length_map]; exact hlen
    have hl60 : (intsP q).length ≤ 60 := by omega
    have hq : q.length ≤ 60 := by omega
    have HRUN := Lib.hid hrun; have HIN := Lib.hid (planIn_run hrun)
    rw [ev]
    clear ev h0 hs hrun hacc hlen hcost hs2
    generalize b' / 4096 = cc at hcl HR2 HG r2 ⊢
    generalize b' % 4096 = ss at hl2 HR2 HG ⊢
    go_wp2_with fail
    refine (planFaultR_good _ _ _ _ _ t (intsP q) HT2.out OK.out HP2.out hl60 HIN.out).mono ?_; rintro e w3 ⟨rfl, hk⟩
    have HB3 := Lib.hid (HB2.out.keeps0 hk); have HR3 := Lib.hid (HR2.out.keeps0 hk); have HT3 := Lib.hid (HT2.out.keeps0 hk); have HP3 := Lib.hid (HP2.out.keeps0 hk); have HK3 := Lib.hid (HK2.out.trans hk)
    clear d0 d1 d2 d3 r0 r1 r2 r3 hlr hbx hk HB2 HR2 HT2 HP2 HK2
    obtain ⟨r0, r1, r2, r3⟩ := HR3.out
    have hlr := HR3.out.lt
    have hbx := HB3.out.lt
    obtain ⟨d0, d1, d2, d3⟩ := HB3.out
    go_wp2_with fail
    refine (solvesR_good _ _ _ _ _ t y q HT3.out OK.out HP3.out HRUN.out (by omega)).mono ?_; rintro e w4 ⟨rfl, hk⟩
    rw [hgw]
    have HB4 := Lib.hid (HB3.out.keeps0 hk); have HR4 := Lib.hid (HR3.out.keeps0 hk); have HT4 := Lib.hid (HT3.out.keeps0 hk); have HP4 := Lib.hid (HP3.out.keeps0 hk); have HK4 := Lib.hid (HK3.out.trans hk)
    clear d0 d1 d2 d3 r0 r1 r2 r3 hlr hbx hk HB3 HR3 HT3 HP3 HK3
    obtain ⟨r0, r1, r2, r3⟩ := HR4.out
    have hlr := HR4.out.lt
    have hbx := HB4.out.lt
    obtain ⟨d0, d1, d2, d3⟩ := HB4.out
    go_wp2_with fail
    refine (costOf_any _ _ _ _ _ t (intsP q) HT4.out OK.out HP4.out HIN.out (by omega)).mono ?_; rintro e w5 ⟨rfl, hk⟩
    rw [hcl]
    have HK5 := Lib.hid (HK4.out.trans hk)
    clear hk
    go_wp2_with fail
    go_ret
    exact ⟨rfl, HK5.out⟩

end Go.Proofs.YtkjmgafnaddhkaaGreat

namespace Go.Proofs.YtkjmgafnaddhkaaGreat
open Go.RowKit Go.Shelf

def admK (k : Int) : Bool := decide (k = 0 ∨ k = 1 ∨ k = 4 ∨ k = 5)
/-- The faults of a call with a kind. -/
def kindF (t : Tsk) (b : Bool) : Int × Int := if (taskFault t).1 = 0 then (if b = true then expF t else (4, -8)) else taskFault t
theorem kindF_true (t : Tsk) : kindF t true = expF t := by
  unfold kindF expF
  split <;> simp_all

theorem admissible_any (k : Int) (w : World) : Calls Tryz.prog 46 #[.int .i64 k] w fun e w' => e = .returned (.bool (admK k)) ∧ w = w' := by
  by_cases h0 : k = 0
  · subst h0
    go_enter Tryz.func46, Tryz.ntmps46
    go_wp2_with fail
    go_ret
    exact ⟨rfl, rfl⟩
  · by_cases h1 : k = 1
    · subst h1
      go_enter Tryz.func46, Tryz.ntmps46
      go_wp2_with fail
      go_ret
      exact ⟨rfl, rfl⟩
    · by_cases h4 : k = 4
      · subst h4
        go_enter Tryz.func46, Tryz.ntmps46
        go_wp2_with fail
        go_ret
        exact ⟨rfl, rfl⟩
      · by_cases h5 : k = 5
        · subst h5
          go_enter Tryz.func46, Tryz.ntmps46
          go_wp2_with fail
          go_ret
          exact ⟨rfl, rfl⟩
        · have HR := Lib.hid (show admK k = false by unfold admK; simp [h0, h1, h4, h5])
          have b0 : (k == 0) = false := by simpa using h0
          have b1 : (k == 1) = false := by simpa using h1
          have b4 : (k == 4) = false := by simpa using h4
          have b5 : (k == 5) = false := by simpa using h5
          clear h0 h1 h4 h5
          go_enter Tryz.func46, Tryz.ntmps46
          go_wp2_with fail
          go_ret
          exact ⟨congrArg (fun b => Ending.returned (Value.bool b)) HR.out.symm, rfl⟩

theorem refAdm_any (k : Int) (w : World) : Calls Tryz.prog 16 #[.int .i64 k] w fun e w' => e = .returned (.bool (admK k)) ∧ w = w' := by
  by_cases h0 : k = 0
  · subst h0
    go_enter Tryz.func16, Tryz.ntmps16
    go_wp2_with fail
    go_ret
    exact ⟨rfl, rfl⟩
  · by_cases h1 : k = 1
    · subst h1
      go_enter Tryz.func16, Tryz.ntmps16
      go_wp2_with fail
      go_ret
      exact ⟨rfl, rfl⟩
    · by_cases h4 : k = 4
      · subst h4
        go_enter Tryz.func16, Tryz.ntmps16
        go_wp2_with fail
        go_ret
        exact ⟨rfl, rfl⟩
      · have b0 : (k == 0) = false := by simpa using h0
        have b1 : (k == 1) = false := by simpa using h1
        have b4 : (k == 4) = false := by simpa using h4
        cases h5 : (k == 5) with
        | true =>
          have HR := Lib.hid (show admK k = true by unfold admK; simp at h5; simp [h5])
          clear h0 h1 h4
          go_enter Tryz.func16, Tryz.ntmps16
          go_wp2_with fail
          go_ret
          exact ⟨congrArg (fun b => Ending.returned (Value.bool b)) HR.out.symm, rfl⟩
        | false =>
          have HR := Lib.hid (show admK k = false by unfold admK; simp at h5; simp [h0, h1, h4, h5])
          clear h0 h1 h4
          go_enter Tryz.func16, Tryz.ntmps16
          go_wp2_with fail
          go_ret
          exact ⟨congrArg (fun b => Ending.returned (Value.bool b)) HR.out.symm, rfl⟩

set_option maxRecDepth 100000 in
set_option maxHeartbeats 4000000 in
theorem value4_any (t : Tsk) (ok : t.Ok) (L : List Nat) (hL : ∀ x ∈ L, Good t.n x) : ValC t 4 L (cutsH t) := by
  intro w vi vg vo vs x h hx hs
  obtain ⟨ai, ci, h1, _⟩ := h.init.form
  obtain ⟨ag, cg, h2, _⟩ := h.goal.form
  obtain ⟨ao, co, h3, hmo⟩ := h.ops.form
  subst h1 h2 h3
  have K1 := (Keeps.refl (fun _ => False) w).alloc (.cells #[.int .i64 t.n, .slice ai t.init.length ci, .slice ag t.goal.length cg, .slice ao t.ops.length co] 25)
  have HB := Lib.hid (Four.new w (.int .i64 t.n) (.slice ai t.init.length ci) (.slice ag t.goal.length cg) (.slice ao t.ops.length co) 25)
  have HT := Lib.hid (h.keeps0 K1); have HS := Lib.hid (hs.keeps0 K1); have HK1 := Lib.hid K1
  have OK := Lib.hid ok; have HX := Lib.hid (hL x hx)
  clear h hs K1 ok hL hx
  go_enter Tryz.func78, Tryz.ntmps78
  go_upto_region 20 with fail
  generalize (w.alloc (.cells #[.int .i64 t.n, .slice ai t.init.length ci, .slice ag t.goal.length cg, .slice ao t.ops.length co] 25)) = w1 at HT HB HK1 HS ⊢
  obtain ⟨d0, d1, d2, d3⟩ := HB.out
  have hbx := HB.out.lt
  go_wp2_with fail
  refine (cuts_any _ _ _ _ _ t x HT.out OK.out HX.out HS.out).mono ?_
  rintro e w2 ⟨vx, rfl, hk⟩
  have HK2 := Lib.hid (HK1.out.trans hk)
  unfold fltV
  clear hk d0 d1 d2 d3
  go_wp2_with fail
  go_ret
  exact ⟨rfl, HK2.out.trans ((Keeps.refl (fun _ => False) w2).alloc _)⟩

/-- What Value says of a state. -/
def kindH (t : Tsk) (k : Int) : Nat → Int := if k = 1 then maxH t else if k = 2 then addH t else if k = 4 then cutsH t else if k = 5 then pairsH t else fun _ => 0
/-- What is said at the permitted kinds. -/
theorem says_kind {k : Int} (h : admK k = true) (t : Tsk) : SaysH t k (kindH t k) := fun l ok hx => by
  have hg := good_explored ok hx
  unfold admK at h
  rcases of_decide_eq_true h with rfl | rfl | rfl | rfl
  · have e : kindH t 0 = fun _ => 0 := rfl
    rw [e]
    exact ⟨value0_any t l, ⟨fun x _ => ⟨by decide, by decide⟩, fun x _ p y _ _ => ⟨(costN_bound (ops_cost ok) p).1, by decide⟩⟩⟩
  · exact ⟨value1_any t ok l hg, max_adm ok l⟩
  · exact ⟨value4_any t ok l hg, cuts_adm ok l hg⟩
  · exact ⟨value5_any t ok l hg, pairs_adm ok l hg⟩

end Go.Proofs.YtkjmgafnaddhkaaGreat

namespace Go.Proofs.YtkjmgafnaddhkaaGreat
open Go.RowKit Go.Shelf

theorem opsFault_at (n : Int) : ∀ (os : List Opr) (k : Int), 0 ≤ k → (opsFault n k os).1 ≠ 0 → (opsFault n k os).2 ≠ -7
  | [], k, _, h => absurd rfl h
  | o :: r, k, hk, h => by
    unfold opsFault at h ⊢
    split
    · exact opsFault_at n r (k + 1) (by omega) (by rename_i he; rw [if_pos he] at h; exact h)
    · simp only; omega
theorem taskFault_at7 {t : Tsk} (h : (taskFault t).1 ≠ 0) : (taskFault t).2 ≠ -7 := by
  unfold taskFault at h ⊢
  split
  · decide
  · split
    · decide
    · split
      · decide
      · split
        · decide
        · rename_i a b c d
          rw [if_neg a, if_neg b, if_neg c, if_neg d] at h
          exact opsFault_at _ _ _ (Int.le_refl _) h

def NoPost (t : Tsk) (w : World) (e : Ending) (w' : World) : Prop := ∃ pv lv c i, e = .returned (.tuple #[.pointer pv, lv, .agg #[.int .i64 c, .int .i64 i]]) ∧ (c, i) = kindF t false ∧ c ≠ 0 ∧ Keeps (fun _ => False) w w'

set_option maxRecDepth 100000 in
set_option maxHeartbeats 2000000 in
theorem acheckNo_any (w : World) (vi vg vo : Value) (t : Tsk) (h : TaskAt w vi vg vo t) :
    Calls Tryz.prog 45 #[.agg #[.int .i64 t.n, vi, vg, vo], .bool false] w (NoPost t w) := by
  obtain ⟨ai, ci, h1, _⟩ := h.init.form
  obtain ⟨ag, cg, h2, _⟩ := h.goal.form
  obtain ⟨ao, co, h3, hmo⟩ := h.ops.form
  subst h1 h2 h3
  have K1 := (Keeps.refl (fun _ => False) w).alloc (.cells #[.int .i64 t.n, .slice ai t.init.length ci, .slice ag t.goal.length cg, .slice ao t.ops.length co] 25)
  have HT := h.keeps0 (K1.alloc (.cells #[.int .i64 0, .int .i64 0] 31))
  have HB := (Four.new w (.int .i64 t.n) (.slice ai t.init.length ci) (.slice ag t.goal.length cg) (.slice ao t.ops.length co) 25).keeps0 ((Keeps.refl _ _).alloc (.cells #[.int .i64 0, .int .i64 0] 31))
  have HF : Flt w ((w.alloc (.cells #[.int .i64 t.n, .slice ai t.init.length ci, .slice ag t.goal.length cg, .slice ao t.ops.length co] 25)).alloc (.cells #[.int .i64 0, .int .i64 0] 31)) (w.heap.size + 1) 31 :=
    ⟨by have := heap_alloc_new (w.alloc (.cells #[.int .i64 t.n, .slice ai t.init.length ci, .slice ag t.goal.length cg, .slice ao t.ops.length co] 25)) (.cells #[.int .i64 0, .int .i64 0] 31); rwa [World.size_alloc] at this, by omega, K1.alloc _⟩
  replace HT := Lib.hid HT; replace HB := Lib.hid HB; replace HF := Lib.hid HF
  clear h K1
  go_enter Tryz.func45, Tryz.ntmps45
  go_upto_region 1 with fail
  generalize ((w.alloc (.cells #[.int .i64 t.n, .slice ai t.init.length ci, .slice ag t.goal.length cg, .slice ao t.ops.length co] 25)).alloc (.cells #[.int .i64 0, .int .i64 0] 31)) = w1 at HT HB HF ⊢
  have hbx := HB.out.lt
  obtain ⟨d0, d1, d2, d3⟩ := HB.out
  go_wp2_with fail
  refine (checked_any _ _ _ _ t HT.out).mono ?_; rintro e w2 hr
  have hform : (∃ pv lv c i, e = .returned (.tuple #[.pointer pv, lv, .agg #[.int .i64 c, .int .i64 i]]) ∧ ((c ≠ 0 ∧ i ≠ -7 ∧ (c, i) = kindF t false) ∨ (((c = 0 ∧ i = 0) ∨ (c ≠ 0 ∧ i = -7)) ∧ (4, -8) = kindF t false))) := by
    rcases hr.2 with ⟨hc, he⟩ | ⟨hok, hx, he⟩ | ⟨hok, l, hx, b, v, vl, ws, he, _⟩
    · refine ⟨_, _, _, _, he, .inl ⟨hc, taskFault_at7 hc, ?_⟩⟩
      unfold kindF; rw [if_neg hc]
    · refine ⟨_, _, _, _, he, .inr ⟨.inr ⟨by decide, rfl⟩, ?_⟩⟩
      unfold kindF; rw [if_pos (taskFault_zero.2 hok)]; rfl
    · refine ⟨_, _, _, _, he, .inr ⟨.inl ⟨rfl, rfl⟩, ?_⟩⟩
      unfold kindF; rw [if_pos (taskFault_zero.2 hok)]; rfl
  obtain ⟨pv, lv, c, i, rfl, hcase⟩ := hform
  have HC := Lib.hid hcase
  have KA := (Keeps.refl (fun _ => False) w2).alloc (.cells #[.int .i64 c, .int .i64 i] 31)
  have HF3 := Lib.hid (HF.out.keeps0 (hr.1.trans KA))
  have F0 := Lib.hid (heap_alloc_new w2 (.cells #[.int .i64 c, .int .i64 i] 31))
  clear d0 d1 d2 d3 hbx hr KA HT HB HF hcase
  go_upto_region 2 with fail
  generalize w2.alloc (.cells #[.int .i64 c, .int .i64 i] 31) = w3 at HF3 F0 ⊢
  generalize w2.heap.size = b3 at F0 ⊢
  obtain ⟨f0, f1, _, _, fl⟩ := pair_cells F0.out
  obtain ⟨e0, e1, z0, z1, hF⟩ := HF3.out.cells
  rcases HC.out with ⟨hc, hi, hk⟩ | ⟨hci, hk⟩
  · have HK := Lib.hid hk; have HCZ := Lib.hid hc
    have b0 : (c == 0) = false := by simpa using hc
    have b1 : (i == -7) = false := by simpa using hi
    clear hc hi hk
    go_wp2_with fail
    go_region
    all_goals
      go_wp2
      refine bodyPost_ret (results_tmp2_cell _ _ (w.heap.size + 1) 31 #[.int .i64 c, .int .i64 i] (0, 0) _ rfl rfl (((Keeps.refl (fun _ => False) _).drew).heap (HF3.out.set (.int .i64 c) (.int .i64 i)).1 (fun h => h)) Tryz.underlying31 rfl (by kernel_rfl)) rfl ?_
      exact ⟨_, _, c, i, rfl, HK.out, HCZ.out, (HF3.out.set (.int .i64 c) (.int .i64 i)).2.drew⟩
  · have HK := Lib.hid hk
    have HST := Lib.hid (HF3.out.set (.int .i64 4) (.int .i64 (-8)))
    clear hk
    rcases hci with ⟨rfl, rfl⟩ | ⟨hc, rfl⟩
    · go_wp2_with fail
      refine bodyPost_ret (results_tmp2_cell _ _ (w.heap.size + 1) 31 #[.int .i64 4, .int .i64 (-8)] (0, 0) _ rfl rfl HST.out.1 Tryz.underlying31 rfl (by kernel_rfl)) rfl ?_
      exact ⟨_, _, 4, -8, rfl, HK.out, by decide, HST.out.2⟩
    · have b0 : (c == 0) = false := by simpa using hc
      clear hc
      go_wp2_with fail
      refine bodyPost_ret (results_tmp2_cell _ _ (w.heap.size + 1) 31 #[.int .i64 4, .int .i64 (-8)] (0, 0) _ rfl rfl HST.out.1 Tryz.underlying31 rfl (by kernel_rfl)) rfl ?_
      exact ⟨_, _, 4, -8, rfl, HK.out, by decide, HST.out.2⟩

end Go.Proofs.YtkjmgafnaddhkaaGreat

namespace Go.Proofs.YtkjmgafnaddhkaaGreat
open Go.RowKit Go.Shelf

set_option maxRecDepth 100000 in
set_option maxHeartbeats 2000000 in
theorem kindFault_any (w : World) (vi vg vo : Value) (t : Tsk) (b : Bool) (h : TaskAt w vi vg vo t) :
    Calls Tryz.prog 15 #[.agg #[.int .i64 t.n, vi, vg, vo], .bool b] w fun e w' => e = .returned (.agg #[.int .i64 (kindF t b).1, .int .i64 (kindF t b).2]) ∧ Keeps (fun _ => False) w w' := by
  obtain ⟨ai, ci, h1, _⟩ := h.init.form
  obtain ⟨ag, cg, h2, _⟩ := h.goal.form
  obtain ⟨ao, co, h3, hmo⟩ := h.ops.form
  subst h1 h2 h3
  have K1 := (Keeps.refl (fun _ => False) w).alloc (.cells #[.int .i64 t.n, .slice ai t.init.length ci, .slice ag t.goal.length cg, .slice ao t.ops.length co] 25)
  have HT := Lib.hid (h.keeps0 (K1.alloc (.cells #[.int .i64 0, .int .i64 0] 31)))
  have HB := Lib.hid ((Four.new w (.int .i64 t.n) (.slice ai t.init.length ci) (.slice ag t.goal.length cg) (.slice ao t.ops.length co) 25).keeps0 ((Keeps.refl _ _).alloc (.cells #[.int .i64 0, .int .i64 0] 31)))
  have HF : Flt w ((w.alloc (.cells #[.int .i64 t.n, .slice ai t.init.length ci, .slice ag t.goal.length cg, .slice ao t.ops.length co] 25)).alloc (.cells #[.int .i64 0, .int .i64 0] 31)) (w.heap.size + 1) 31 :=
    ⟨by have := heap_alloc_new (w.alloc (.cells #[.int .i64 t.n, .slice ai t.init.length ci, .slice ag t.goal.length cg, .slice ao t.ops.length co] 25)) (.cells #[.int .i64 0, .int .i64 0] 31); rwa [World.size_alloc] at this, by omega, K1.alloc _⟩
  replace HF := Lib.hid HF
  clear h K1
  go_enter Tryz.func15, Tryz.ntmps15
  go_upto_region 1 with fail
  generalize ((w.alloc (.cells #[.int .i64 t.n, .slice ai t.init.length ci, .slice ag t.goal.length cg, .slice ao t.ops.length co] 25)).alloc (.cells #[.int .i64 0, .int .i64 0] 31)) = w1 at HT HB HF ⊢
  have hbx := HB.out.lt
  obtain ⟨d0, d1, d2, d3⟩ := HB.out
  go_wp2_with fail
  refine (taskFault_any _ _ _ _ t HT.out).mono ?_; rintro e w2 ⟨rfl, hk⟩
  obtain ⟨f, hf⟩ : ∃ f, taskFault t = f := ⟨_, rfl⟩
  have HE := Lib.hid hf
  rw [hf]
  have KA := hk.trans ((Keeps.refl (fun _ => False) w2).alloc (.cells #[.int .i64 f.1, .int .i64 f.2] 31))
  have HF3 := Lib.hid (HF.out.keeps0 KA); have HT3 := Lib.hid (HT.out.keeps0 KA); have HB3 := Lib.hid (HB.out.keeps0 KA)
  have F0 := Lib.hid (heap_alloc_new w2 (.cells #[.int .i64 f.1, .int .i64 f.2] 31))
  have hw2 : w1.heap.size ≤ w2.heap.size := hk.size
  have HW1 := Lib.hid (show w.heap.size + 1 < w1.heap.size from HF.out.cells.2.2.2.2)
  clear d0 d1 d2 d3 hbx hk KA HT HB HF hf
  go_upto_region 2 with fail
  obtain ⟨b3, hb3⟩ : ∃ b3, w2.heap.size = b3 := ⟨_, rfl⟩
  generalize w2.alloc (.cells #[.int .i64 f.1, .int .i64 f.2] 31) = w3 at HF3 HT3 HB3 F0 ⊢
  rw [hb3] at F0 hw2
  try rw [hb3]
  clear hb3
  have HNB := Lib.hid (show ¬ b3 = w.heap.size + 1 ∧ w.heap.size + 1 < b3 by have := HW1.out; omega)
  obtain ⟨f0, f1, q0, q1, fl⟩ := pair_cells F0.out
  obtain ⟨e0, e1, z0, z1, hF⟩ := HF3.out.cells
  obtain ⟨c, i⟩ := f
  simp only at F0 f0 f1 HE ⊢
  cases h0 : (c == 0) with
  | false =>
    have HK := Lib.hid (show kindF t b = (c, i) by unfold kindF; rw [HE.out, if_neg (by simpa using h0)])
    have HST := Lib.hid (HF3.out.set (.int .i64 c) (.int .i64 i))
    go_wp2_with fail
    refine bodyPost_ret (results_cell_row rfl _ _ (w.heap.size + 1) 31 _ (0, 0) _ rfl HST.out.1 Tryz.underlying31 rfl (by kernel_rfl)) rfl ?_
    exact ⟨by rw [HK.out], HST.out.2⟩
  | true =>
    have hc : c = 0 := by simpa using h0
    subst hc
    clear h0
    cases b with
    | false =>
      have HK := Lib.hid (show kindF t false = (4, -8) by unfold kindF; rw [HE.out]; rfl)
      go_wp2_with fail
      refine (at_any _ _ _).mono ?_; rintro e w4 ⟨rfl, hk4⟩
      have kp := keeps_pair (w := w4) b3 (.int .i64 4) (.int .i64 (-8))
      have F4 := Lib.hid (hk4.heap F0.out (fun h => h))
      have F5 := Lib.hid (pair_set F4.out (.int .i64 4) (.int .i64 (-8)))
      have HF5 := Lib.hid ((HF3.out.keeps0 hk4).keepsS kp (fun e => HNB.out.1 e.symm) (fun i hi => by have := HNB.out.2; omega))
      clear f0 f1 q0 q1 fl e0 e1 z0 z1 hF
      obtain ⟨f0, f1, q0, q1, fl⟩ := pair_cells F4.out
      clear kp hk4
      go_upto_region 4 with fail
      generalize (w4.setCell ⟨b3, 0, none⟩ (.int .i64 4)).setCell ⟨b3, 1, none⟩ (.int .i64 (-8)) = w5 at F5 HF5 ⊢
      clear f0 f1 q0 q1 fl
      obtain ⟨f0, f1, q0, q1, fl⟩ := pair_cells F5.out
      obtain ⟨e0, e1, z0, z1, hF⟩ := HF5.out.cells
      have HST := Lib.hid (HF5.out.set (.int .i64 4) (.int .i64 (-8)))
      go_wp2_with fail
      refine bodyPost_ret (results_cell_row rfl _ _ (w.heap.size + 1) 31 _ (0, 0) _ rfl HST.out.1 Tryz.underlying31 rfl (by kernel_rfl)) rfl ?_
      exact ⟨by rw [HK.out], HST.out.2⟩
    | true =>
      have HK := Lib.hid (show kindF t true = expF t from kindF_true t)
      have hbx := HB3.out.lt
      obtain ⟨d0, d1, d2, d3⟩ := HB3.out
      go_wp2_with fail
      refine (explored_any _ _ _ _ t HT3.out).mono ?_; rintro e w4 ⟨rfl, hk4⟩
      have kp := keeps_pair (w := w4) b3 (.int .i64 (expF t).1) (.int .i64 (expF t).2)
      have F4 := Lib.hid (hk4.heap F0.out (fun h => h))
      have F5 := Lib.hid (pair_set F4.out (.int .i64 (expF t).1) (.int .i64 (expF t).2))
      have HF5 := Lib.hid ((HF3.out.keeps0 hk4).keepsS kp (fun e => HNB.out.1 e.symm) (fun i hi => by have := HNB.out.2; omega))
      clear f0 f1 q0 q1 fl e0 e1 z0 z1 hF d0 d1 d2 d3 hbx
      obtain ⟨f0, f1, q0, q1, fl⟩ := pair_cells F4.out
      clear kp hk4
      go_upto_region 6 with fail
      generalize (w4.setCell ⟨b3, 0, none⟩ (.int .i64 (expF t).1)).setCell ⟨b3, 1, none⟩ (.int .i64 (expF t).2) = w5 at F5 HF5 ⊢
      clear f0 f1 q0 q1 fl
      obtain ⟨f0, f1, q0, q1, fl⟩ := pair_cells F5.out
      obtain ⟨e0, e1, z0, z1, hF⟩ := HF5.out.cells
      have HST := Lib.hid (HF5.out.set (.int .i64 (expF t).1) (.int .i64 (expF t).2))
      go_wp2_with fail
      refine bodyPost_ret (results_cell_row rfl _ _ (w.heap.size + 1) 31 _ (0, 0) _ rfl HST.out.1 Tryz.underlying31 rfl (by kernel_rfl)) rfl ?_
      exact ⟨by rw [HK.out], HST.out.2⟩

end Go.Proofs.YtkjmgafnaddhkaaGreat

namespace Go.Proofs.YtkjmgafnaddhkaaGreat
open Go.RowKit Go.Shelf
attribute [local go_sem] Oper.semAt_some

/-- What Checked says, at a kind that is permitted or not: the space p, or the fault (c, i). -/
def CkR (t : Tsk) (pb : Bool) (w : World) (p : Value) (c i : Int) (w' : World) : Prop := Keeps (fun _ => False) w w' ∧
  ((c ≠ 0 ∧ (c, i) = kindF t pb) ∨ (c = 0 ∧ i = 0 ∧ pb = true ∧ t.Ok ∧ ∃ l, explored t = some l ∧ ∃ (b : Nat) (v : Value) (ws : List Nat), p = .pointer (some ⟨b, 0, none⟩) ∧ WordsAt w' w.heap.size b (wd t.init) (wd t.goal) v (wordsOf t.ops) ∧ ws.Perm l))
theorem CkR.past {t : Tsk} {pb : Bool} {w w1 w2 w' : World} {p : Value} {c i : Int} {S : Nat → Prop} (h : CkR t pb w1 p c i w2) (hz : w.heap.size ≤ w1.heap.size) (hk : Keeps S w2 w') (hS : ∀ k, S k → k < w1.heap.size) (k0 : Keeps (fun _ => False) w w') : CkR t pb w p c i w' := by
  refine ⟨k0, ?_⟩
  rcases h.2 with h | ⟨h1, h2, h3, ok, l, hx, b, v, ws, he, hw, hp⟩
  · exact .inl h
  · exact .inr ⟨h1, h2, h3, ok, l, hx, b, v, ws, he, (hw.keepsS hk (fun h => by have := hS _ h; have := hw.low; omega) (fun k hk' h => by have := hS _ h; have := (hw.own.lt k hk').1; omega)).mono hz, hp⟩
theorem CkR.past1 {t : Tsk} {pb : Bool} {w w1 w2 : World} {p : Value} {c i : Int} {b : Nat} {x y : Value} (h : CkR t pb w1 p c i w2) (hz : w.heap.size ≤ b) (hb : b < w1.heap.size) (k : Keeps (fun _ => False) w w1) : CkR t pb w p c i ((w2.setCell ⟨b, 0, none⟩ x).setCell ⟨b, 1, none⟩ y) :=
  h.past k.size (keeps_pair (w := w2) b x y) (fun k hk => by rw [hk]; exact hb) ((k.trans h.1).trans' (keeps_pair (w := w2) b x y) (fun k hk => .inr (by omega)))
theorem CkR.past2 {t : Tsk} {pb : Bool} {w w1 w2 : World} {p : Value} {c i : Int} {o : Obj} (h : CkR t pb w1 p c i w2) (k : Keeps (fun _ => False) w w1) : CkR t pb w p c i (w2.alloc o) :=
  h.past k.size ((Keeps.refl (fun _ => False) w2).alloc o) (fun _ h => h.elim) ((k.trans h.1).alloc o)
theorem acheckB_any (w : World) (vi vg vo : Value) (t : Tsk) (pb : Bool) (h : TaskAt w vi vg vo t) :
    Calls Tryz.prog 45 #[.agg #[.int .i64 t.n, vi, vg, vo], .bool pb] w fun e w' => ∃ pv lv c i, e = .returned (.tuple #[.pointer pv, lv, .agg #[.int .i64 c, .int .i64 i]]) ∧ CkR t pb w (.pointer pv) c i w' := by
  cases pb with
  | false =>
    refine (acheckNo_any w vi vg vo t h).mono ?_
    rintro e w' ⟨pv, lv, c, i, h1, h2, h3, h4⟩
    exact ⟨pv, lv, c, i, h1, h4, .inl ⟨h3, h2⟩⟩
  | true =>
    refine (acheck_any w vi vg vo t h).mono ?_
    rintro e w' ⟨hk, hr⟩
    rcases hr with ⟨hc, he⟩ | ⟨hok, hx, he⟩ | ⟨hok, l, hx, b, v, vl, ws, he, hw, hp, _, _⟩
    · exact ⟨_, _, _, _, he, hk, .inl ⟨hc, by rw [kindF_true, expF_bad hc]⟩⟩
    · exact ⟨_, _, _, _, he, hk, .inl ⟨by decide, by rw [kindF_true, expF_many hok hx]⟩⟩
    · exact ⟨_, _, _, _, he, hk, .inr ⟨rfl, rfl, rfl, hok, l, hx, b, v, ws, rfl, hw, hp⟩⟩

set_option maxRecDepth 100000 in
theorem rounds_any (w : World) (p : Addr) (gh : Nat) (pa cb : Array Value) :
    Calls Tryz.prog 47 #[.pointer (some p), .func (.func gh) pa cb] w fun e w' => e = .returned (.func (.func 75) #[] #[.pointer (some ⟨w.heap.size + 1, 0, none⟩), .pointer (some ⟨w.heap.size, 0, none⟩)]) ∧ w' = (w.alloc (.cells #[.pointer (some p)] 71)).alloc (.cells #[.func (.func gh) pa cb] 77) := by
  have hmf : ∀ (fn : Fn) (first cap : Array Value) (w : World), (Instr.makeFunc fn first cap).run Tryz.prog w = .ok (.func fn first cap) w := fun _ _ _ _ => rfl
  go_enter Tryz.func47, Tryz.ntmps47
  go_wp2_with fail
  go_ret
  exact ⟨rfl, rfl⟩

theorem HeurM.rebase {t : Tsk} {kind : Int} {H : Nat → Int} {w0 w1 W : World} {kb tb qb mb : Nat} {vi vg vo : Value} (h : HeurM t kind H w1 kb tb qb mb vi vg vo W) (hk : Keeps (fun _ => False) w0 w1) : HeurM t kind H w0 kb tb qb mb vi vg vo W :=
  ⟨h.kbox, h.tbox, h.qbox, h.known, hk.trans h.task⟩

theorem RunTo.few {ops : List Wop} {st : Nat} {L : List Nat} {acc : Nat → Bool} {H : Nat → Int} (h0 : 0 ≤ H st) {bs : List Int} {n b : Int} (h : RunTo ops st L acc H bs n b) : (bs.length : Int) ≤ b ∧ 0 ≤ n ∧ n ≤ (L.length : Int) * b := by
  induction h with
  | start => exact ⟨h0, Int.le_refl _, Int.mul_nonneg (by omega) h0⟩
  | @step bs n b v C _ hb _ _ hv ih =>
    have h1 := hv.gt hb
    have h2 := nVis_le L C
    have h3 : (L.length : Int) * (b + 1) ≤ (L.length : Int) * v := Int.mul_le_mul_of_nonneg_left (by omega) (by omega)
    rw [Int.mul_add, Int.mul_one] at h3
    rw [List.length_append, List.length_singleton]
    exact ⟨by omega, by omega, by omega⟩

/-- What Bounds hands back. -/
def BdsPost (t : Tsk) (k : Int) (w : World) (e : Ending) (w' : World) : Prop := Keeps (fun _ => False) w w' ∧ ∃ (v : Value) (bs : List Int) (c i : Int), e = .returned (.tuple #[v, fltV c i]) ∧
  ((c ≠ 0 ∧ (c, i) = kindF t (admK k) ∧ bs = [] ∧ v = .slice none 0 0) ∨ (c = 0 ∧ i = 0 ∧ admK k = true ∧ t.Ok ∧ Ints w' v bs ∧ ∃ (l ws : List Nat) (n : Int) (fnd : Bool) (b : Int), explored t = some l ∧ ws.Perm l ∧ RunEnd (wordsOf t.ops) (wd t.init) ws (goalB (wd t.goal)) (kindH t k) bs n fnd b))

set_option maxRecDepth 100000 in
set_option maxHeartbeats 4000000 in
theorem bounds_in (w : World) (vi vg vo : Value) (t : Tsk) (k : Int) (h : TaskAt w vi vg vo t) :
    CallsIn Fence.wide 9 Tryz.prog 22 #[.agg #[.int .i64 t.n, vi, vg, vo], .int .i64 k] w (BdsPost t k w) := by
  obtain ⟨i0, hi0, hz0, hz1, hz2⟩ := info_parts Tryz.info3
  obtain ⟨ai, ci, h1, _⟩ := h.init.form
  obtain ⟨ag, cg, h2, _⟩ := h.goal.form
  obtain ⟨ao, co, h3, hmo⟩ := h.ops.form
  subst h1 h2 h3
  have K1 := (Keeps.refl (fun _ => False) w).alloc (.cells #[.int .i64 t.n, .slice ai t.init.length ci, .slice ag t.goal.length cg, .slice ao t.ops.length co] 25)
  have HT := Lib.hid (h.keeps0 (K1.alloc (.cells #[.int .i64 0, .int .i64 0] 31)))
  have HB := Lib.hid ((Four.new w (.int .i64 t.n) (.slice ai t.init.length ci) (.slice ag t.goal.length cg) (.slice ao t.ops.length co) 25).keeps0 ((Keeps.refl _ _).alloc (.cells #[.int .i64 0, .int .i64 0] 31)))
  have HF : Flt w ((w.alloc (.cells #[.int .i64 t.n, .slice ai t.init.length ci, .slice ag t.goal.length cg, .slice ao t.ops.length co] 25)).alloc (.cells #[.int .i64 0, .int .i64 0] 31)) (w.heap.size + 1) 31 :=
    ⟨by have := heap_alloc_new (w.alloc (.cells #[.int .i64 t.n, .slice ai t.init.length ci, .slice ag t.goal.length cg, .slice ao t.ops.length co] 25)) (.cells #[.int .i64 0, .int .i64 0] 31); rwa [World.size_alloc] at this, by omega, K1.alloc _⟩
  replace HF := Lib.hid HF
  clear h K1
  refine callsIn_of_wp_marks Tryz.func22 rfl trivial ?_ rfl
  simp only [Tryz.ntmps22, List.size_toArray, List.length_cons, List.length_nil, Nat.reduceAdd, Nat.reduceSub, Array.replicate_succ, Array.replicate_zero, List.push_toArray, List.append_toArray, List.nil_append, List.cons_append]
  gi_upto_region 1 with fail
  generalize ((w.alloc (.cells #[.int .i64 t.n, .slice ai t.init.length ci, .slice ag t.goal.length cg, .slice ao t.ops.length co] 25)).alloc (.cells #[.int .i64 0, .int .i64 0] 31)) = w1 at HT HB HF ⊢
  gi_cut [6, 8] from 11 (fun s6 s8 wc => ∃ (b8 : Nat) (c i : Int), s8 = .pointer (some ⟨b8, 0, none⟩) ∧ wc.heap[b8]? = some (.cells #[.int .i64 c, .int .i64 i] 31 (0, 0)) ∧ CkR t (admK k) w1 s6 c i wc)
  case first =>
    have KD : Keeps (fun _ => False) w1 w1.drew := (Keeps.refl (fun _ => False) w1).drew
    have KA : Keeps (fun _ => False) w1.drew (w1.alloc (.cells #[.int .i64 0, .int .i64 0] 31)).drew := by
      have h := (Keeps.refl (fun _ => False) w1.drew).alloc (.cells #[.int .i64 0, .int .i64 0] 31)
      exact h
    have HTD := Lib.hid (HT.out.keeps0 KD); have HKD := Lib.hid KD; have HKA := Lib.hid KA
    have HZ8 := Lib.hid (show (w1.alloc (.cells #[.int .i64 0, .int .i64 0] 31)).drew.heap[w1.heap.size]? = some (.cells #[.int .i64 0, .int .i64 0] 31 (0, 0)) from heap_alloc_new w1 _)
    have HB1 := HB.out.keeps0 KD
    have hbx := HB1.lt
    have HBX := Lib.hid (show w.heap.size < w1.heap.size from HB.out.lt)
    obtain ⟨d0, d1, d2, d3⟩ := HB1
    obtain ⟨d0', d1', d2', d3'⟩ := (HB.out.keeps0 KD).keeps0 KA
    clear KD KA
    refine wpIn_wide.2 ?_
    go_region_held3 (fun w' => w'.cell? ⟨w.heap.size, 0, none⟩ = some (.int .i64 t.n) ∧ w'.cell? ⟨w.heap.size, 1, none⟩ = some (.slice ai t.init.length ci) ∧ w'.cell? ⟨w.heap.size, 2, none⟩ = some (.slice ag t.goal.length cg) ∧ w'.cell? ⟨w.heap.size, 3, none⟩ = some (.slice ao t.ops.length co))
      (first | go_keep | with_reducible exact ⟨(keeps_pair (w := w9) w1.heap.size (.int .i64 fc) (.int .i64 fi)).cell t0 (show ¬ w.heap.size = w1.heap.size by have := HBX.out; omega), (keeps_pair (w := w9) w1.heap.size (.int .i64 fc) (.int .i64 fi)).cell t1 (show ¬ w.heap.size = w1.heap.size by have := HBX.out; omega), (keeps_pair (w := w9) w1.heap.size (.int .i64 fc) (.int .i64 fi)).cell t2 (show ¬ w.heap.size = w1.heap.size by have := HBX.out; omega), (keeps_pair (w := w9) w1.heap.size (.int .i64 fc) (.int .i64 fi)).cell t3 (show ¬ w.heap.size = w1.heap.size by have := HBX.out; omega)⟩)
      (first
        | (go_at_call 46; refine (admissible_any k _).mono ?_; rintro e wq ⟨rfl, rfl⟩)
        | (go_at_call 45; refine (acheckB_any _ _ _ _ t (admK k) HTD.out).mono ?_; rintro e w9 ⟨pv, lv, fc, fi, rfl, hr⟩; have HCP := Lib.hid hr; have hk := hr.1; have t0 := hk.cell d0 (fun h => h); have t1 := hk.cell d1 (fun h => h); have t2 := hk.cell d2 (fun h => h); have t3 := hk.cell d3 (fun h => h); clear hk hr)
        | (go_at_call 45; refine (acheckB_any _ _ _ _ t (admK k) (HTD.out.keeps0 HKA.out)).mono ?_; rintro e w9 ⟨pv, lv, fc, fi, rfl, hr⟩; have HCP := Lib.hid hr; have hk := hr.1; have HZ9 := Lib.hid (hk.heap HZ8.out (fun h => h)); obtain ⟨q0, q1, y0, y1, hl6⟩ := pair_cells HZ9.out; have t0 := hk.cell d0' (fun h => h); have t1 := hk.cell d1' (fun h => h); have t2 := hk.cell d2' (fun h => h); have t3 := hk.cell d3' (fun h => h); clear hk hr))
    all_goals
      first
        | (have HFI := Lib.hid (And.intro (pair_set HZ9.out (.int .i64 fc) (.int .i64 fi)) (HCP.out.past1 (w := w1) (b := w1.heap.size) (x := .int .i64 fc) (y := .int .i64 fi) (Nat.le_refl _) (lt_of_heap HZ8.out) (HKD.out.trans HKA.out)))
           clear t0 t1 t2 t3 q0 q1 y0 y1 HZ9 hl6 HCP
           gi_wp2
           gi_meet
           case rel => exact ⟨_, fc, fi, rfl, HFI.out⟩)
        | (have HFI := Lib.hid (And.intro (heap_alloc_new w9 (.cells #[.int .i64 fc, .int .i64 fi] 31)) (HCP.out.past2 (w := w1) (o := .cells #[.int .i64 fc, .int .i64 fi] 31) HKD.out))
           clear t0 t1 t2 t3 HCP
           gi_wp2
           gi_meet
           case rel => exact ⟨_, fc, fi, rfl, HFI.out⟩)
  case rest =>
    obtain ⟨b8, c, i, rfl, hb8, hck⟩ := hcut
    have HB8 := Lib.hid hb8
    have HB4 := Lib.hid (HB.out.keeps0 hck.1); have HT4 := Lib.hid (HT.out.keeps0 hck.1); have HF4 := Lib.hid (HF.out.keeps0 hck.1)
    have HCK := Lib.hid hck.2
    obtain ⟨f0, f1, y0, y1, hlf⟩ := pair_cells hb8
    obtain ⟨e0, e1, z0, z1, hF⟩ := HF4.out.cells
    clear y0 y1 hb8 hck HB HT HF
    rcases HCK.out with ⟨hc, hke⟩ | ⟨rfl, rfl, had, ok, l, hx, b, v, ws, rfl, hw, hp⟩
    · have hcb : (c == 0) = false := by simpa using hc
      have HKE := Lib.hid (And.intro hc hke)
      have HST := Lib.hid (HF4.out.set (.int .i64 c) (.int .i64 i))
      clear hc hke HCK
      gi_wp2
      refine wpIn_wide.2 ?_
      go_region
      all_goals
        gi_wp2
        refine leaves_marks (Marks.nil _ w.heap.size) (fun W' hk => ?_)
        have HW' := ((Keeps.refl (fun _ => False) _).drew).heap HST.out.1 (fun h => h)
        exact ⟨_, results_tmp_cell _ _ (w.heap.size + 1) 31 #[.int .i64 c, .int .i64 i] (0, 0) _ rfl rfl (hk.heap HW' (fun h => by have h2 := h.2; rw [HW'] at h2; cases h2)) Tryz.underlying31 rfl (by kernel_rfl), HST.out.2.drew.trans' hk (fun i hi => .inr hi.1), _, [], c, i, rfl, .inl ⟨HKE.out.1, HKE.out.2, rfl, rfl⟩⟩
    · have hvh := says_kind had t l ok hx
      have HVL := Lib.hid (hvh.1.perm hp)
      have HAM := Lib.hid (hvh.2.perm hp)
      have HND := Lib.hid (costs_need ok hx hp)
      have hbw : b < wc.heap.size := lt_of_heap hw.blk
      have HW := Lib.hid hw; have OK := Lib.hid ok; have HX := Lib.hid hx; have HPM := Lib.hid hp; have HAD := Lib.hid had
      have HB5 := Lib.hid (HB4.out.keeps0 ((Keeps.refl (fun _ => False) wc).alloc (.cells #[.slice none 0 0] 22)))
      have HT5 := Lib.hid (HT4.out.keeps0 ((Keeps.refl (fun _ => False) wc).alloc (.cells #[.slice none 0 0] 22)))
      have HX9 := Lib.hid (heap_alloc_new wc (.cells #[.slice none 0 0] 22))
      have HK5 := Lib.hid ((Keeps.refl (fun _ => False) wc).alloc (.cells #[.slice none 0 0] 22))
      have HZ5 := Lib.hid (show (wc.alloc (.cells #[.slice none 0 0] 22)).heap.size = wc.heap.size + 1 from World.size_alloc _ _)
      clear hvh hw ok hx hp HCK
      gi_upto_region 5 with fail
      clear f0 f1 e0 e1 z0 z1 hF hlf
      generalize wc.alloc (.cells #[.slice none 0 0] 22) = w4 at HB5 HT5 HX9 HK5 HZ5 ⊢
      have hbx := HB5.out.lt
      obtain ⟨d0, d1, d2, d3⟩ := HB5.out
      gi_wp2
      refine ⟨trivial, ?_⟩
      refine (callsIn_wide.2 (heuristic_any w4 _ _ _ t k (kindH t k) HT5.out)).mono ?_
      rintro e w5 ⟨kb, tb, qb, mb, rfl, hhm, h1, h2, h3, h4, h5, hk5⟩
      gi_wp2
      refine ⟨trivial, ?_⟩
      refine (callsIn_wide.2 (rounds_any w5 _ _ _ _)).mono ?_
      rintro e w6 ⟨rfl, rfl⟩
      gi_wp2
      obtain ⟨w6, hw6⟩ : ∃ w6, ((w5.alloc (.cells #[.pointer (some ⟨b, 0, none⟩)] 71)).alloc (.cells #[.func (.func 77) #[] #[.pointer (some ⟨kb, 0, none⟩), .pointer (some ⟨tb, 0, none⟩), .pointer (some ⟨qb, 0, none⟩)]] 77)) = w6 := ⟨_, rfl⟩
      have z6 : w6.heap.size = w5.heap.size + 1 + 1 := by rw [← hw6]; simp
      have k56 : Keeps (fun _ => False) w5 w6 := by rw [← hw6]; exact ((Keeps.refl _ _).alloc _).alloc _
      have z5 := HZ5.out
      have s5 : w4.heap.size ≤ w5.heap.size := hk5.size
      have xw : w6.heap[w5.heap.size]? = some (.cells #[.pointer (some ⟨b, 0, none⟩)] 71 (0, 0)) := by
        rw [← hw6]; exact ((Keeps.refl (fun _ => False) _).alloc _).heap (heap_alloc_new w5 _) (fun h => h)
      have xh : w6.heap[w5.heap.size + 1]? = some (.cells #[.func (.func 77) #[] #[.pointer (some ⟨kb, 0, none⟩), .pointer (some ⟨tb, 0, none⟩), .pointer (some ⟨qb, 0, none⟩)]] 77 (0, 0)) := by
        have h := heap_alloc_new (w5.alloc (.cells #[.pointer (some ⟨b, 0, none⟩)] 71)) (.cells #[.func (.func 77) #[] #[.pointer (some ⟨kb, 0, none⟩), .pointer (some ⟨tb, 0, none⟩), .pointer (some ⟨qb, 0, none⟩)]] 77)
        rw [World.size_alloc, hw6] at h; exact h
      rw [hw6]
      have kc5 := HK5.out.trans hk5
      have HM6 := Lib.hid (show HeurM t k (kindH t k) wc kb tb qb mb _ _ _ w6 from (hhm.rebase HK5.out).keeps k56 (fun h => h) (fun h => h) (fun h => h) (fun h => h) (fun _ h => h.elim))
      have HHU := Lib.hid (heur_is t k ws (kindH t k) HVL.out wc kb tb qb mb wc.heap.size w6.heap.size _ _ _ HT4.out (by omega) (by omega) (by omega) (by omega) (by omega) (by omega))
      have HRM := Lib.hid (show RnM wc (HeurM t k (kindH t k) wc kb tb qb mb (.slice ai t.init.length ci) (.slice ag t.goal.length cg) (.slice ao t.ops.length co)) (w5.heap.size + 1) w5.heap.size b (.func (.func 77) #[] #[.pointer (some ⟨kb, 0, none⟩), .pointer (some ⟨tb, 0, none⟩), .pointer (some ⟨qb, 0, none⟩)]) w6.heap.size w6 from ⟨HM6.out, kc5.trans k56, xh, xw, Nat.le_refl _⟩)
      have HX96 := Lib.hid ((hk5.trans k56).heap HX9.out (fun h => h))
      have HKC := Lib.hid (kc5.trans k56)
      have l9 : wc.heap.size < w5.heap.size := by omega
      have HRI := Lib.hid (rounds1_in 8 (by omega) wc b (wd t.init) (wd t.goal) _ v (wordsOf t.ops) ws (kindH t k) 77 #[] #[.pointer (some ⟨kb, 0, none⟩), .pointer (some ⟨tb, 0, none⟩), .pointer (some ⟨qb, 0, none⟩)] (fun q => q = mb) (HeurM t k (kindH t k) wc kb tb qb mb (.slice ai t.init.length ci) (.slice ag t.goal.length cg) (.slice ao t.ops.length co)) (w5.heap.size + 1) w5.heap.size w6.heap.size
        HW.out (wops_ok OK.out) HND.out.2.2.1 HND.out.2.1 HND.out.2.2.2.1 HND.out.2.2.2.2.1 HND.out.2.2.2.2.2.1 (ops_cost OK.out) HND.out.2.2.2.2.2.2.2 HHU.out HAM.out.lo (fun e => by have e' : w5.heap.size + 1 = mb := e; omega) (fun e => by have e' : w5.heap.size = mb := e; omega))
      have hmb5 : mb < w5.heap.size := h5
      have hmbw : wc.heap.size < mb := by omega
      have hqb5 : qb < w5.heap.size := h4
      have l6 : w5.heap.size + 1 < w6.heap.size := by omega
      have hs6 : wc.heap.size ≤ w6.heap.size := by omega
      clear hw6 k56 hk5 z6 z5 s5 hhm h1 h2 h3 h4 h5 xw xh kc5 d0 d1 d2 d3 hbx HX9 HB5 HT5 HM6
      have lo1 : ∀ {W : World} (lp : Nat) (r : Loop), w6.heap.size ≤ lp → W.heap[lp]? = some (.loop r) → ∀ {q : Nat} {cs T fr}, W.heap[q]? = some (.cells cs T fr) → ¬ q = lp := fun lp r _ hr q cs T fr hc e => by rw [e, hr] at hc; cases hc
      refine wpIn_rangeFunc_R (α := Rdn) (n := 9) rfl (by decide) (gf := 75) (lb := #[.pointer (some ⟨w5.heap.size + 1, 0, none⟩), .pointer (some ⟨w5.heap.size, 0, none⟩)]) rfl trivial (enters_of Tryz.func75 (by kernel_rfl) rfl) HRI.out
        ?hSt (RnK.trans) ?hKb ?hR ?hps
        (fun pre W => ∃ vo : Value, W.heap[wc.heap.size]? = some (.cells #[vo] 22 (0, 0)) ∧ W.ownsRow w6.heap.size 3 1 vo pre.length ((pre.map Rdn.bd).map (Value.int .i64)) ∧ Keeps (fun _ => False) wc W ∧ w6.heap.size ≤ W.heap.size)
        (fun _ _ _ => False) ?hI (fun _ _ _ _ _ _ _ _ h => h) ?hIR (fun _ _ _ _ h _ => h) ?hT ?h0
        (fun (x : Rdn) (a' : Act) => ∃ u : Nat → Value, a' = { tmps := #[.agg #[.int .i64 t.n, .slice ai t.init.length ci, .slice ag t.goal.length cg, .slice ao t.ops.length co], .int .i64 k, .pointer (some ⟨w.heap.size, 0, none⟩), undef, .slice none 0 0, .pointer (some ⟨w.heap.size + 1, 0, none⟩), .pointer (some ⟨b, 0, none⟩), u7, .pointer (some ⟨b8, 0, none⟩), .pointer (some ⟨wc.heap.size, 0, none⟩), .int .i64 x.bd, u 11, u 12, u 13, u 14, u 15, u 16, u 17, u 18, u 19, u 20, u 21, u 22, u 23, u 24, u 25, u 26, u 27, u 28, u 29, u 30, u 31, u 32, u 33, u 34, u 35], defers := [] }) ?hassign ?hbody ?hdone (fun _ _ _ _ _ _ h _ => h.elim)
      case hSt =>
        intro o
        have hk := ((Keeps.refl (fun _ => False) w6).alloc (.deferred (some []))).alloc (.loop o)
        exact HRM.out.by hk (HHU.out.steady HRM.out.hI hk (fun _ h => h.elim)) (fun h => h) (fun h => h) (fun _ h => h.elim)
      case hKb =>
        intro x W lp r o hl hr
        have hk := keeps_putObj W lp o
        exact ⟨fun h => h.by hk (HHU.out.steady h.hI hk (fun q hq => by omega)) (by omega) (by omega) (fun q hq => by have := HKC.out.size; omega), fun cs T fr h => hk.heap h (lo1 lp r hl hr h)⟩
      case hps => exact fun _ => rfl
      case hR => exact fun X Y q hk h1 h2 => hk.block q h2 (by omega)
      case hI =>
        rintro pre W lp r o hl hr ⟨vo, h1, h2, h3, h4⟩
        have hk := keeps_putObj W lp o
        exact ⟨vo, hk.heap h1 (lo1 lp r hl hr h1), hk.ownsRow h2 (fun q hq e => by obtain ⟨cs, fr, hc⟩ := row_isCells h2 hq; exact lo1 lp r hl hr hc e), h3.trans' hk (fun q hq => .inr (by have := HKC.out.size; omega)), Nat.le_trans h4 hk.size⟩
      case hIR =>
        rintro pre X Y ⟨vo, h1, h2, h3, h4⟩ hk
        exact ⟨vo, hk.heap h1 (by omega), hk.ownsRow h2 (fun q hq e => by have := (World.ownsRow.lt h2 q hq).1; omega), h3.trans' hk (fun q hq => .inr (by omega)), Nat.le_trans h4 hk.size⟩
      case hT =>
        rintro x pre W lp r o hl hr ⟨n, mp, mr, g, P, par, fnd, nx, q1, q2, q3, q4, q5, q6, q7, q8, q9⟩
        have hk := keeps_putObj W lp o
        have nm : ∀ {q : Nat} {es c}, W.heap[q]? = some (.map es c) → ¬ q = lp := fun hm e => by rw [e, hr] at hm; cases hm
        obtain ⟨es1, c1, m1⟩ := q7.map_block
        obtain ⟨es2, c2, m2⟩ := q8.map_block
        exact ⟨n, mp, mr, g, P, par, fnd, nx, q1, q2, q3, q4, q5, hk.heap q6 (lo1 lp r hl hr q6), q7.keeps hk (nm m1), q8.keeps hk (nm m2), q9⟩
      case h0 =>
        intro o o'
        have hk := ((Keeps.refl (fun _ => False) w6).alloc o).alloc o'
        exact ⟨_, hk.heap HX96.out (fun h => h), World.ownsRow_nil _ _ _ _, HKC.out.trans hk, hk.size⟩
      case hassign =>
        intro lp x W K hK
        have HK := Lib.hid hK
        clear hK
        simp only [rdnEnc]
        gi_wp2
        exact HK.out _ (ex_fnD rfl)
      case hbody =>
        rintro lp pre x a' W ⟨u, rfl⟩ hl - ⟨vo, h1, h2, h3, h4⟩ ⟨n, mp, mr, g, P, par, fnd, nx, q1, q2, q3, q4, q5, q6, q7, q8, q9⟩
        have hln := (q1.few (HAM.out.lo _ HND.out.2.2.2.2.2.2.2).1)
        rw [List.length_map] at hln
        obtain ⟨ao3, cap3, hv3⟩ := ownsRow_form1 h2
        subst hv3
        obtain ⟨m, hm⟩ : ∃ m, pre.length = m := ⟨_, rfl⟩
        have HMM := Lib.hid hm
        rw [hm] at h1 h2 hln
        have H1 := Lib.hid h1; have H2 := Lib.hid h2; have H3 := Lib.hid h3; have H4 := Lib.hid h4; have H6 := Lib.hid q6
        have x9c : W.cell? ⟨wc.heap.size, 0, none⟩ = some (.slice ao3 m cap3) := (cell_of_blk h1).trans rfl
        have x9f : W.frozen? ⟨wc.heap.size, 0, none⟩ = false := frozen_of_blk h1
        have x9l := lt_of_heap h1
        have hlow : ∀ q, (Value.slice ao3 m cap3).ownBlock = some q → w6.heap.size ≤ q := fun q hq => (World.ownsRow.lt h2 q hq).1
        have HLOW := Lib.hid hlow
        have hW6 : w6.heap.size ≤ W.heap.size := h4
        clear h1 h2 h3 h4 q1 q3 q4 q5 q6 q7 q8 q9 hm hlow lo1
        gi_wp2_with (gi_at_builtin; refine wpListIn_append_lies _ rfl _ _ _ rfl w6.heap.size 3 i0 _ 1 8 Tryz.underlying22 hi0 hz0 hz1 hz2 rfl (by omega) _ m _ (by rfl) (H2.out.alloc _) ⟨W.heap.size, 0, none⟩ 1 1 [.int .i64 x.bd] (by rfl) (by rfl) ?hnews ?hone (by omega) (by unfold maxLen; omega) (by omega) (by simp; omega) (W.heap.size + 1) (by simp) ?_)
        case hnews => exact World.news_of_block (cs := #[.int .i64 x.bd]) (t := 3) (fr := (0, 0)) (heap_alloc_new _ _)
        case hone => simp [Value.oneCell']
        intro g2 cap2 wa hown2 hgrow hat hlt3
        have k5 := ((Keeps.refl (fun q => (Value.slice ao3 m cap3).ownBlock = some q) W).alloc (.cells #[.int .i64 x.bd] 3)).grown hgrow (fun k hk => .inl hk)
        have hx9 := k5.heap H1.out (fun e => by have := HLOW.out _ e; omega)
        have k6 := (Keeps.refl (fun q => q = wc.heap.size) wa).setCell (p := ⟨wc.heap.size, 0, none⟩) (.inl rfl) (.slice (some ⟨g2, 0, none⟩) (m + 1) cap2)
        have KF := Lib.hid ((k5.mono (S' := fun q => (Value.slice ao3 m cap3).ownBlock = some q ∨ q = wc.heap.size) (fun _ _ h => .inl h)).trans (k6.mono (fun _ _ h => .inr h)))
        have hX9 := Lib.hid (show (wa.setCell ⟨wc.heap.size, 0, none⟩ (.slice (some ⟨g2, 0, none⟩) (m + 1) cap2)).heap[wc.heap.size]? = some (.cells #[.slice (some ⟨g2, 0, none⟩) (m + 1) cap2] 22 (0, 0)) from (show Boxed wa wc.heap.size 22 (.slice ao3 m cap3) from hx9).set _)
        have HO9 := Lib.hid (k6.ownsRow hown2 (fun q hq e => by
          have e1 : g2 = q := by simpa [Value.ownBlock] using hq
          rcases hat with h | h
          · have := HLOW.out g2 h; omega
          · omega))
        have z9c : wa.cell? ⟨wc.heap.size, 0, none⟩ = some (.slice ao3 m cap3) := (cell_of_blk hx9).trans rfl
        have z9f : wa.frozen? ⟨wc.heap.size, 0, none⟩ = false := frozen_of_blk hx9
        have z9l := lt_of_heap hx9
        clear hown2 hgrow hat hlt3 k5 k6 hx9 x9c x9f x9l
        gi_wp2
        have nr : ∀ {cs T fr} {q : Nat}, W.heap[q]? = some (.cells cs T fr) → T ≠ 3 → T ≠ 22 → ¬ ((Value.slice ao3 m cap3).ownBlock = some q ∨ q = wc.heap.size) := fun hc hT1 hT2 e => by
          rcases e with e | e
          · obtain ⟨cs', fr', h'⟩ := row_isCells H2.out e
            rw [hc] at h'; cases h'; exact hT1 rfl
          · have h' := H1.out; rw [← e, hc] at h'; cases h'; exact hT2 rfl
        refine ⟨keepsFrom_cells KF.out (fun q hq => ?_), ⟨fun h => h.by KF.out ?_ (nr h.xh (by decide) (by decide)) (nr h.xw (by decide) (by decide)) (fun q hq => ?_), fun cs T fr hc => KF.out.heap hc ?_⟩, _, hX9.out, ?_, H3.out.trans' KF.out (fun q hq => ?_), Nat.le_trans hW6 KF.out.size⟩
        · rcases hq with hq | rfl
          · obtain ⟨cs', fr', h'⟩ := row_isCells H2.out hq; exact ⟨_, _, _, h'⟩
          · exact ⟨_, _, _, H1.out⟩
        · exact h.hI.keeps KF.out (nr h.hI.kbox (by decide) (by decide)) (nr h.hI.tbox (by decide) (by decide)) (fun e => by
            rcases e with e | e
            · have := HLOW.out _ e; omega
            · have h1 := H1.out; rw [← e, h.hI.qbox] at h1; cases h1) (fun e => by
            obtain ⟨K, hK, _⟩ := h.hI.known
            rcases e with e | e
            · obtain ⟨cs', fr', h'⟩ := row_isCells H2.out e; exact hK.ne_cells h' rfl
            · exact hK.ne_cells H1.out e) (fun q hq => by
            rcases hq with hq | hq
            · have := HLOW.out q hq; omega
            · omega)
        · rcases hq with hq | hq
          · have := HLOW.out q hq; omega
          · omega
        · rw [H6.out] at hc; cases hc; exact nr H6.out (by decide) (by decide)
        · have e1 : (pre ++ [x]).length = m + 1 := by rw [List.length_append, List.length_singleton, HMM.out]
          rw [e1, List.map_append, List.map_append]
          rw [List.map_map]
          exact HO9.out
        · rcases hq with hq | hq
          · have := HLOW.out q hq; exact .inr (by omega)
          · exact .inr (by omega)
      case hdone =>
        rintro D xs W hD ⟨n, fnd, b', hend⟩ ⟨vo, h1, h2, h3, h4⟩ hd
        have HFx := Lib.hid (HF4.out.keeps0 h3)
        have x9c : W.cell? ⟨wc.heap.size, 0, none⟩ = some vo := (cell_of_blk h1).trans rfl
        have x9l := lt_of_heap h1
        obtain ⟨e0, e1, z0, z1, hF⟩ := HFx.out.cells
        have HST := Lib.hid (HFx.out.set (.int .i64 0) (.int .i64 0))
        have HEND := Lib.hid hend; have HDD := Lib.hid hd; have H2 := Lib.hid h2; have H3 := Lib.hid h3; have hW6 := h4
        obtain ⟨ao3, cap3, hv3⟩ := ownsRow_form1 h2
        subst hv3
        clear hend hd h1 h2 h3 h4 lo1
        gi_wp2
        have hDw : ¬ D = w.heap.size + 1 := fun e => by have h1 := HFx.out.blk; rw [← e, HDD.out] at h1; cases h1
        have hDD := ((keeps_pair (w := W) (w.heap.size + 1) (.int .i64 0) (.int .i64 0)).block D (Array.getElem?_eq_some_iff.1 HDD.out).1 hDw).trans HDD.out
        refine leaves_marks (B := w.heap.size) (ds := [mark D]) (Marks.cons (Marks.nil w6 _) (Marks.nil _ _) hD (by have := HF4.out.keep.size; omega) hDD) (fun W' hk => ?_)
        have HW' := hk.heap HST.out.1 (fun h => by have h2 := h.2; rw [HST.out.1] at h2; cases h2)
        refine ⟨_, results_tmp_cell _ _ (w.heap.size + 1) 31 #[.int .i64 0, .int .i64 0] (0, 0) _ rfl rfl HW' Tryz.underlying31 rfl (by kernel_rfl), HST.out.2.trans' hk (fun i hi => .inr hi.1), _, xs.map Rdn.bd, 0, 0, rfl, .inr ⟨rfl, rfl, HAD.out, OK.out, ?_, l, ws, n, fnd, b', HX.out, HPM.out, HEND.out⟩⟩
        have ko := (keeps_pair (w := W) (w.heap.size + 1) (.int .i64 0) (.int .i64 0)).ownsRow H2.out (fun q hq e => by
          obtain ⟨cs', fr', h'⟩ := row_isCells H2.out hq
          have h1 := HFx.out.blk; rw [← e, h'] at h1; cases h1)
        have ko2 := hk.ownsRow ko (fun q hq e => row_not_deferred ko q hq e.2)
        exact Ints.of_own (show W'.ownsRow w6.heap.size 3 1 (.slice ao3 xs.length cap3) (xs.map Rdn.bd).length ((xs.map Rdn.bd).map (Value.int .i64)) by rw [List.length_map]; exact ko2)

end Go.Proofs.YtkjmgafnaddhkaaGreat
