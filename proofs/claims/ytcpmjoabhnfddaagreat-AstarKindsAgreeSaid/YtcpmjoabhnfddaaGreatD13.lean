/- The reference's StepsFault, Ends, Works, Solves and PlanFault, for a plan that can be followed. noResult, isOne, StateFault of the reference. The reference's IsBest, at a best plan; the law's bestMatches. astar: kinds that are not permitted; the reference's faults of a call with a kind. astar: Checked and Plan at a kind that is not permitted; KindFault. KindFault; bestMatches of a result with a fault. astar.Values. bothends: the example of the laws. astar: the example of the laws. AstarPlanMatchesSpec walked. The rows' frame: arguments of type [][]int. BothendsAgreesWithAstar walked. No condition beyond what each theorem says. -/
import Derived.Test.YtcpmjoabhnfddaaGreatD7
import Derived.Test.YtcpmjoabhnfddaaGreatD12
import Derived.Test.YtcpmjoabhnfddaaGreatD2
import Derived.Test.YtcpmjoabhnfddaaGreatD3
import Derived.Test.YtcpmjoabhnfddaaGreatD4
import Derived.Test.YtcpmjoabhnfddaaGreatD6
import Derived.Test.YtcpmjoabhnfddaaGreatD8
import Derived.Test.YtcpmjoabhnfddaaGreatD9
import Derived.Test.YtcpmjoabhnfddaaGreatD11

namespace Go.Proofs.YtcpmjoabhnfddaaGreat
open Go.RowKit

set_option maxRecDepth 100000 in
set_option maxHeartbeats 2000000 in
theorem stepsFault_good (w : World) (vp : Value) (p : List Int) (n : Int) (hp : Ints w vp p) (hl : p.length ≤ 60) (hin : ∀ x ∈ p, 0 ≤ x ∧ x < n) (hn : 0 ≤ n ∧ n ≤ 1000000) :
    Calls Tryz.prog 85 #[.int .i64 n, vp] w fun e w' => e = .returned (.agg #[.int .i64 0, .int .i64 0]) ∧ Keeps (fun _ => False) w w' := by
  obtain ⟨ap, cp, h1, hpl⟩ := hp.form
  subst h1
  have K1 := (Keeps.refl (fun _ => False) w).alloc (.cells #[.int .i64 0, .int .i64 0] 31)
  have HF := Lib.hid (show Flt w (w.alloc (.cells #[.int .i64 0, .int .i64 0] 31)) w.heap.size 31 from ⟨heap_alloc_new w _, Nat.le_refl _, K1⟩)
  have HC := Lib.hid ((hp.keeps0 K1).cell rfl)
  have HIN := Lib.hid hin
  clear hp K1 hin
  have hgt : decide (60 < (p.length : Int)) = false := by simp; omega
  go_enter Tryz.func85, Tryz.ntmps85
  go_upto_region 1 with fail
  generalize (w.alloc (.cells #[.int .i64 0, .int .i64 0] 31)) = w1 at HF HC ⊢
  go_wp2_with fail
  go_loopw [5] (fun v5 wr => ∃ i : Nat, i ≤ p.length ∧ v5 = .int .i64 (i : Int) ∧ Keeps (fun _ => False) w1 wr) (fun v5 _ => p.length - (intOf v5).toNat)
  case atStart => exact ⟨0, Nat.zero_le _, rfl, Keeps.refl _ _⟩
  case round =>
    obtain ⟨i, hi, rfl, hkr⟩ := hrel
    have HKR := Lib.hid hkr
    clear hkr
    by_cases hlt : i < p.length
    · obtain ⟨x, hx⟩ : ∃ x, p[i]? = some x := ⟨_, List.getElem?_eq_getElem hlt⟩
      obtain ⟨bp, op, rfl, hpc⟩ := HC.out (by omega)
      have q1 := HKR.out.cell (hpc i x hx) (fun h => h)
      have hxn := HIN.out x (List.mem_of_getElem? hx)
      clear hpc hx
      have hilt : (i : Int) < (p.length : Int) := by omega
      go_wp2_with fail
      refine (in_true _ x 0 (n - 1) (by unfold inB; simp; omega)).mono ?_; rintro e w2 ⟨rfl, hw⟩
      subst hw
      go_wp2_with fail
      go_roundw
      case rel => exact ⟨i + 1, by omega, by go_num, HKR.out⟩
      case measure => simp [intOf]; omega
    · obtain rfl : i = p.length := by omega
      have HF2 := Lib.hid (HF.out.keeps0 HKR.out)
      obtain ⟨e0, e1, z0, z1, hF⟩ := HF2.out.cells
      go_wp2_with fail
      refine bodyPost_ret (results_cell_row rfl _ _ w.heap.size 31 _ (0, 0) _ rfl (HF2.out.set (.int .i64 0) (.int .i64 0)).1 Tryz.underlying31 rfl (by kernel_rfl)) rfl ?_
      exact ⟨rfl, (HF2.out.set (.int .i64 0) (.int .i64 0)).2⟩

theorem run_take {ops : List Wop} : ∀ {q : List Nat} {x y : Nat}, runOps ops x q = some y → ∀ i, i < q.length → ∃ z a o, runOps ops x (q.take i) = some z ∧ q[i]? = some a ∧ ops[a]? = some o ∧ o.can z = true ∧ runOps ops x (q.take (i + 1)) = some (o.next z) := fun {q x y} hr i hi => by
  obtain ⟨z, hz, hd⟩ := run_cut hr i
  obtain ⟨a, ha⟩ : ∃ a, q[i]? = some a := ⟨_, List.getElem?_eq_getElem hi⟩
  rw [drop_getS ha, runOps] at hd
  cases ho : ops[a]? with
  | none => rw [ho] at hd; cases hd
  | some o =>
    rw [ho] at hd; simp only at hd
    by_cases hc : o.can z = true
    · exact ⟨z, a, o, hz, ha, ho, hc, by rw [take_getS ha, runOps_append, hz]; simp [runOps, ho, hc]⟩
    · rw [if_neg hc] at hd; cases hd

set_option maxRecDepth 100000 in
set_option maxHeartbeats 4000000 in
theorem ends_good (w : World) (vi vg vo vs vp : Value) (t : Tsk) (x y : Nat) (q : List Nat) (h : TaskAt w vi vg vo t) (ok : t.Ok) (hs : Ints w vs (facts x)) (hg : Good t.n x) (hp : Ints w vp (intsP q)) (hr : runOps (wordsOf t.ops) x q = some y) (hl : q.length ≤ 100000) :
    Calls Tryz.prog 117 #[.agg #[.int .i64 t.n, vi, vg, vo], vs, vp] w fun e w' => ∃ v, e = .returned (.tuple #[v, .bool true]) ∧ Ints w' v (facts y) ∧ Keeps (fun _ => False) w w' := by
  obtain ⟨ai, ci, h1, _⟩ := h.init.form
  obtain ⟨ag, cg, h2, _⟩ := h.goal.form
  obtain ⟨ao, co, h3, hmo⟩ := h.ops.form
  obtain ⟨ap, cp, h4, hpl⟩ := hp.form
  have hil : (intsP q).length = q.length := by simp [intsP]
  rw [hil] at h4
  subst h1 h2 h3 h4
  have HB := Lib.hid (Four.new w (.int .i64 t.n) (.slice ai t.init.length ci) (.slice ag t.goal.length cg) (.slice ao t.ops.length co) 25)
  have K1 := (Keeps.refl (fun _ => False) w).alloc (.cells #[.int .i64 t.n, .slice ai t.init.length ci, .slice ag t.goal.length cg, .slice ao t.ops.length co] 25)
  have HT := Lib.hid (h.keeps0 K1); have HK := Lib.hid K1; have HS := Lib.hid (hs.keeps0 K1); have HCP := Lib.hid ((hp.keeps0 K1).cell rfl)
  have OK := Lib.hid ok; have HG := Lib.hid hg; have HR := Lib.hid hr; have HIL := Lib.hid hil
  clear h K1 hs hp ok hg hr hil
  go_enter Tryz.func117, Tryz.ntmps117
  go_upto_region 1 with fail
  generalize (w.alloc (.cells #[.int .i64 t.n, .slice ai t.init.length ci, .slice ag t.goal.length cg, .slice ao t.ops.length co] 25)) = w1 at HB HT HK HS HCP ⊢
  generalize w.heap.size = bt at HB ⊢
  go_wp2_with fail
  go_loopw [1, 8] (fun v1 v8 wr => ∃ (i z : Nat), i ≤ q.length ∧ v8 = .int .i64 (i : Int) ∧ runOps (wordsOf t.ops) x (q.take i) = some z ∧ Good t.n z ∧ Ints wr v1 (facts z) ∧ Keeps (fun _ => False) w1 wr) (fun _ v8 _ => q.length - (intOf v8).toNat)
  case atStart => exact ⟨0, x, Nat.zero_le _, rfl, rfl, HG.out, HS.out, Keeps.refl _ _⟩
  case round =>
    obtain ⟨i, z, hi, rfl, hz, hgz, hv, hkr⟩ := hrel
    obtain ⟨av, cv, hvf, _⟩ := hv.form
    subst hvf
    have HV := Lib.hid hv; have HKR := Lib.hid hkr; have HGZ := Lib.hid hgz; have HZ := Lib.hid hz
    clear hv hkr hgz hz
    by_cases hlt : i < q.length
    · obtain ⟨z', a, o, g1, g2, g3, g4, g5⟩ := run_take HR.out i hlt
      obtain rfl : z' = z := by have := g1.symm.trans HZ.out; cases this; rfl
      obtain ⟨o', ho', rfl⟩ : ∃ o', t.ops[a]? = some o' ∧ o'.word = o := by
        unfold wordsOf at g3
        rw [List.getElem?_map] at g3
        obtain ⟨o', h1, h2⟩ := Option.map_eq_some_iff.1 g3
        exact ⟨o', h1, h2⟩
      obtain ⟨hap, haf, hgn⟩ := good_next (by have := OK.out.n1; omega) (OK.out.ops o' (List.mem_of_getElem? ho')) HGZ.out
      rw [g4] at hap
      obtain ⟨bp, op, rfl, hpc⟩ := HCP.out (by rw [HIL.out]; omega)
      have q1 := HKR.out.cell (hpc i (a : Int) (by unfold intsP; rw [List.getElem?_map, g2]; rfl)) (fun h => h)
      have HAP := Lib.hid hap; have HAF := Lib.hid haf; have HGN := Lib.hid hgn; have HOO := Lib.hid ho'; have HNX := Lib.hid g5
      have HBq := Lib.hid (HB.out.keeps0 HKR.out); have HTq := Lib.hid (HT.out.keeps0 HKR.out)
      have hbx := HBq.out.lt
      obtain ⟨d0, d1, d2, d3⟩ := HBq.out
      have hilt : (i : Int) < (q.length : Int) := by omega
      have hi0 : (0 : Int) ≤ (i : Int) := by omega
      clear g1 g2 g3 g4 g5 hpc hap haf hgn ho'
      go_upto_region 4 with fail
      go_still_tail 6, (by kernel_rfl)
      change wpList _ _ _ _ _ wr.drew
      have KD := (Keeps.refl (fun _ => False) wr).drew
      have HTD := Lib.hid (HTq.out.keeps0 KD); have HVD := Lib.hid (show Ints wr.drew (.slice av (facts z').length cv) (facts z') from HV.out.keeps0 KD); have HBD := Lib.hid (HBq.out.keeps0 KD); have KRD := Lib.hid (HKR.out.trans KD)
      have q1 := KD.cell q1 (fun h => h)
      clear KD d0 d1 d2 d3 hbx HBq HTq HV HKR
      generalize wr.drew = w4 at HTD HVD HBD KRD q1 ⊢
      go_wp2_with fail
      refine (applies_any _ _ _ _ _ t (facts z') a o' HTD.out HVD.out HOO.out).mono ?_; rintro en w5 ⟨rfl, hk⟩
      rw [HAP.out]
      have HT5 := Lib.hid (HTD.out.keeps0 hk); have HV5 := Lib.hid (show Ints w5 (.slice av (facts z').length cv) (facts z') from HVD.out.keeps0 hk); have HB5 := Lib.hid (HBD.out.keeps0 hk); have KR5 := Lib.hid (KRD.out.trans hk)
      have q1 := hk.cell q1 (fun h => h)
      clear hk HTD HVD HBD KRD
      have hbx := HB5.out.lt
      obtain ⟨d0, d1, d2, d3⟩ := HB5.out
      go_upto_region 6 with fail
      go_still_tail 6, (by kernel_rfl)
      change wpList _ _ _ _ _ w5.drew
      have KD := (Keeps.refl (fun _ => False) w5).drew
      have HTD := Lib.hid (HT5.out.keeps0 KD); have HVD := Lib.hid (show Ints w5.drew (.slice av (facts z').length cv) (facts z') from HV5.out.keeps0 KD); have KRD := Lib.hid (KR5.out.trans KD)
      clear KD d0 d1 d2 d3 hbx HB5 HT5 HV5 KR5 q1
      generalize w5.drew = w6 at HTD HVD KRD ⊢
      go_wp2_with fail
      refine (after_any _ _ _ _ _ t (facts z') a o' HTD.out HVD.out HOO.out OK.out.n0 (by have := OK.out.n1; omega)).mono ?_; rintro en w7 ⟨v, rfl, hown, hk⟩
      have HV7 := Lib.hid (show Ints w7 v (facts (o'.word.next z')) by have := Ints.of_own hown; rwa [HAF.out] at this)
      have KR7 := Lib.hid (KRD.out.trans hk)
      clear hown hk
      go_wp2_with fail
      go_roundw
      case rel => exact ⟨i + 1, o'.word.next z', by omega, by go_num, HNX.out, HGN.out, HV7.out, KR7.out⟩
      case measure => simp [intOf]; omega
    · obtain rfl : i = q.length := by omega
      have hzy : z = y := by have := HZ.out; rw [List.take_length] at this; have := this.symm.trans HR.out; cases this; rfl
      subst hzy
      go_wp2_with fail
      go_ret2
      exact ⟨_, rfl, HV.out, HK.out.trans HKR.out⟩

set_option maxRecDepth 100000 in
set_option maxHeartbeats 2000000 in
theorem worksR_good (w : World) (vi vg vo vs vp : Value) (t : Tsk) (x y : Nat) (q : List Nat) (h : TaskAt w vi vg vo t) (ok : t.Ok) (hs : Ints w vs (facts x)) (hg : Good t.n x) (hp : Ints w vp (intsP q)) (hr : runOps (wordsOf t.ops) x q = some y) (hl : q.length ≤ 100000) :
    Calls Tryz.prog 86 #[.agg #[.int .i64 t.n, vi, vg, vo], vs, vp] w fun e w' => e = .returned (.bool (goalW t y)) ∧ Keeps (fun _ => False) w w' := by
  obtain ⟨ai, ci, h1, _⟩ := h.init.form
  obtain ⟨ag, cg, h2, _⟩ := h.goal.form
  obtain ⟨ao, co, h3, hmo⟩ := h.ops.form
  subst h1 h2 h3
  have HB := Lib.hid (Four.new w (.int .i64 t.n) (.slice ai t.init.length ci) (.slice ag t.goal.length cg) (.slice ao t.ops.length co) 25)
  have K1 := (Keeps.refl (fun _ => False) w).alloc (.cells #[.int .i64 t.n, .slice ai t.init.length ci, .slice ag t.goal.length cg, .slice ao t.ops.length co] 25)
  have HT := Lib.hid (h.keeps0 K1); have HK := Lib.hid K1; have HS := Lib.hid (hs.keeps0 K1); have HP := Lib.hid (hp.keeps0 K1)
  have OK := Lib.hid ok; have HG := Lib.hid hg; have HR := Lib.hid hr
  clear h K1 hs hp ok hg hr
  go_enter Tryz.func86, Tryz.ntmps86
  go_upto_region 1 with fail
  generalize (w.alloc (.cells #[.int .i64 t.n, .slice ai t.init.length ci, .slice ag t.goal.length cg, .slice ao t.ops.length co] 25)) = w1 at HB HT HK HS HP ⊢
  generalize w.heap.size = bt at HB ⊢
  have hbx := HB.out.lt
  obtain ⟨d0, d1, d2, d3⟩ := HB.out
  go_wp2_with fail
  refine (ends_good _ _ _ _ _ _ t x y q HT.out OK.out HS.out HG.out HP.out HR.out hl).mono ?_; rintro e w2 ⟨v, rfl, hv, hk⟩
  have HB2 := Lib.hid (HB.out.keeps0 hk); have HT2 := Lib.hid (HT.out.keeps0 hk); have K2 := Lib.hid (HK.out.trans hk); have HV := Lib.hid hv
  clear d0 d1 d2 d3 hbx hk hv
  have hbx := HB2.out.lt
  obtain ⟨d0, d1, d2, d3⟩ := HB2.out
  go_wp2_with fail
  refine (subset_goal _ _ _ t y HT2.out.goal HV.out).mono ?_; rintro e w3 ⟨rfl, rfl⟩
  go_wp2_with fail
  go_ret
  exact ⟨rfl, K2.out⟩

set_option maxRecDepth 100000 in
set_option maxHeartbeats 2000000 in
theorem solvesR_good (w : World) (vi vg vo vp : Value) (t : Tsk) (y : Nat) (q : List Nat) (h : TaskAt w vi vg vo t) (ok : t.Ok) (hp : Ints w vp (intsP q)) (hr : runOps (wordsOf t.ops) (wd t.init) q = some y) (hl : q.length ≤ 100000) :
    Calls Tryz.prog 58 #[.agg #[.int .i64 t.n, vi, vg, vo], vp] w fun e w' => e = .returned (.bool (goalW t y)) ∧ Keeps (fun _ => False) w w' := by
  obtain ⟨ai, ci, h1, _⟩ := h.init.form
  obtain ⟨ag, cg, h2, _⟩ := h.goal.form
  obtain ⟨ao, co, h3, hmo⟩ := h.ops.form
  subst h1 h2 h3
  have HB := Lib.hid (Four.new w (.int .i64 t.n) (.slice ai t.init.length ci) (.slice ag t.goal.length cg) (.slice ao t.ops.length co) 25)
  have K1 := (Keeps.refl (fun _ => False) w).alloc (.cells #[.int .i64 t.n, .slice ai t.init.length ci, .slice ag t.goal.length cg, .slice ao t.ops.length co] 25)
  have HT := Lib.hid (h.keeps0 K1); have HK := Lib.hid K1; have HP := Lib.hid (hp.keeps0 K1)
  have OK := Lib.hid ok; have HR := Lib.hid hr
  have HG := Lib.hid (good_wd (by have := ok.n1; omega : t.n ≤ 32) ok.init)
  have hfi : facts (wd t.init) = t.init := facts_wd (isSet_mono ok.init (by have := ok.n1; omega))
  have HFI := Lib.hid hfi
  clear h K1 hp ok hr hfi
  go_enter Tryz.func58, Tryz.ntmps58
  go_upto_region 1 with fail
  generalize (w.alloc (.cells #[.int .i64 t.n, .slice ai t.init.length ci, .slice ag t.goal.length cg, .slice ao t.ops.length co] 25)) = w1 at HB HT HK HP ⊢
  generalize w.heap.size = bt at HB ⊢
  have hbx := HB.out.lt
  obtain ⟨d0, d1, d2, d3⟩ := HB.out
  go_wp2_with fail
  refine (worksR_good _ _ _ _ _ _ t (wd t.init) y q HT.out OK.out (by rw [HFI.out]; exact HT.out.init) HG.out HP.out HR.out hl).mono ?_; rintro e w2 ⟨rfl, hk⟩
  go_wp2_with fail
  go_ret
  exact ⟨rfl, HK.out.trans hk⟩

set_option maxRecDepth 100000 in
set_option maxHeartbeats 2000000 in
theorem planFaultR_good (w : World) (vi vg vo vp : Value) (t : Tsk) (p : List Int) (h : TaskAt w vi vg vo t) (ok : t.Ok) (hp : Ints w vp p) (hl : p.length ≤ 60) (hin : PlanIn t p) :
    Calls Tryz.prog 57 #[.agg #[.int .i64 t.n, vi, vg, vo], vp] w fun e w' => e = .returned (.agg #[.int .i64 0, .int .i64 0]) ∧ Keeps (fun _ => False) w w' := by
  obtain ⟨ai, ci, h1, _⟩ := h.init.form
  obtain ⟨ag, cg, h2, _⟩ := h.goal.form
  obtain ⟨ao, co, h3, hmo⟩ := h.ops.form
  subst h1 h2 h3
  have K1 := (Keeps.refl (fun _ => False) w).alloc (.cells #[.int .i64 t.n, .slice ai t.init.length ci, .slice ag t.goal.length cg, .slice ao t.ops.length co] 25)
  have KA := K1.alloc (.cells #[.int .i64 0, .int .i64 0] 31)
  have HT := Lib.hid (h.keeps0 KA); have HP := Lib.hid (hp.keeps0 KA)
  have HB := Lib.hid ((Four.new w (.int .i64 t.n) (.slice ai t.init.length ci) (.slice ag t.goal.length cg) (.slice ao t.ops.length co) 25).keeps0 ((Keeps.refl _ _).alloc (.cells #[.int .i64 0, .int .i64 0] 31)))
  have HF := Lib.hid (show Flt w ((w.alloc (.cells #[.int .i64 t.n, .slice ai t.init.length ci, .slice ag t.goal.length cg, .slice ao t.ops.length co] 25)).alloc (.cells #[.int .i64 0, .int .i64 0] 31)) (w.heap.size + 1) 31 from
    ⟨by have := heap_alloc_new (w.alloc (.cells #[.int .i64 t.n, .slice ai t.init.length ci, .slice ag t.goal.length cg, .slice ao t.ops.length co] 25)) (.cells #[.int .i64 0, .int .i64 0] 31); rwa [World.size_alloc] at this, by omega, KA⟩)
  have OK := Lib.hid ok; have HIN := Lib.hid hin
  have hfew := ok.few
  clear h K1 KA hp ok hin
  go_enter Tryz.func57, Tryz.ntmps57
  go_upto_region 1 with fail
  generalize ((w.alloc (.cells #[.int .i64 t.n, .slice ai t.init.length ci, .slice ag t.goal.length cg, .slice ao t.ops.length co] 25)).alloc (.cells #[.int .i64 0, .int .i64 0] 31)) = w1 at HB HT HF HP ⊢
  have hbx := HB.out.lt
  obtain ⟨d0, d1, d2, d3⟩ := HB.out
  go_wp2_with fail
  refine (taskFault_any _ _ _ _ t HT.out).mono ?_; rintro e w2 ⟨rfl, hk⟩
  rw [taskFault_ok OK.out]
  have KB := (Keeps.refl (fun _ => False) w2).alloc (.cells #[.int .i64 0, .int .i64 0] 31)
  have HB3 := Lib.hid (HB.out.keeps0 (hk.trans KB)); have HP3 := Lib.hid (HP.out.keeps0 (hk.trans KB)); have HF3 := Lib.hid (HF.out.keeps0 (hk.trans KB))
  have F0 := Lib.hid (heap_alloc_new w2 (.cells #[.int .i64 0, .int .i64 0] 31))
  have hlt2 : w.heap.size + 1 < w2.heap.size := Nat.lt_of_lt_of_le HF.out.cells.2.2.2.2 hk.size
  clear d0 d1 d2 d3 hbx hk KB HB HT HF HP
  go_upto_region 2 with fail
  generalize w2.alloc (.cells #[.int .i64 0, .int .i64 0] 31) = w3 at HB3 HF3 HP3 F0 ⊢
  generalize w2.heap.size = b3 at F0 hlt2 ⊢
  obtain ⟨p0, p1, y0, y1, pl⟩ := pair_cells F0.out
  have hbx := HB3.out.lt
  obtain ⟨d0, d1, d2, d3⟩ := HB3.out
  go_wp2_with fail
  refine (stepsFault_good _ _ p (t.ops.length : Int) HP3.out hl HIN.out (by omega)).mono ?_; rintro e w4 ⟨rfl, hk⟩
  have HF4 := Lib.hid (HF3.out.keeps0 hk)
  have F4 := hk.heap F0.out (fun h => h)
  clear p0 p1 y0 y1 pl d0 d1 d2 d3 hbx hk
  obtain ⟨p0, p1, y0, y1, pl⟩ := pair_cells F4
  obtain ⟨e0, e1, z0, z1, hF⟩ := HF4.out.cells
  have hne : b3 ≠ w.heap.size + 1 := by omega
  have i0 := setCell_id p0
  have i1 := setCell_id p1
  go_wp2_with fail
  refine bodyPost_ret (results_cell_row rfl _ _ (w.heap.size + 1) 31 _ (0, 0) _ rfl (HF4.out.set (.int .i64 0) (.int .i64 0)).1 Tryz.underlying31 rfl (by kernel_rfl)) rfl ?_
  exact ⟨rfl, (HF4.out.set _ _).2⟩

end Go.Proofs.YtcpmjoabhnfddaaGreat

namespace Go.Proofs.YtcpmjoabhnfddaaGreat
open Go.RowKit

def noResB (f : Bool) (m : Nat) (c n : Int) : Bool := !f && (m == 0) && (c == 0) && (n == 0)

set_option maxRecDepth 100000 in
set_option maxHeartbeats 1000000 in
theorem noResult_any (w : World) (f : Bool) (ao : Option Addr) (m cap : Nat) (c n : Int) (hm : m ≤ 9223372036854775807) :
    Calls Tryz.prog 20 #[resV f (.slice ao m cap) c n] w fun e w' => e = .returned (.bool (noResB f m c n)) ∧ Keeps (fun _ => False) w w' := by
  have HK := Lib.hid ((Keeps.refl (fun _ => False) w).alloc (.cells #[.bool f, .slice ao m cap, .int .i64 c, .int .i64 n] 29))
  have HX := heap_alloc_new w (.cells #[.bool f, .slice ao m cap, .int .i64 c, .int .i64 n] 29)
  have HE : Hid (noResB f m c n = (!f && (m == 0) && (c == 0) && (n == 0))) := rfl
  unfold resV
  go_enter Tryz.func20, Tryz.ntmps20
  go_upto_region 1 with fail
  generalize w.alloc (.cells #[.bool f, .slice ao m cap, .int .i64 c, .int .i64 n] 29) = w1 at HX HK ⊢
  have s0 : w1.cell? ⟨w.heap.size, 0, none⟩ = some (.bool f) := by rw [cell_of_blk HX]; rfl
  have s1 : w1.cell? ⟨w.heap.size, 1, none⟩ = some (.slice ao m cap) := by rw [cell_of_blk HX]; rfl
  have s2 : w1.cell? ⟨w.heap.size, 2, none⟩ = some (.int .i64 c) := by rw [cell_of_blk HX]; rfl
  have s3 : w1.cell? ⟨w.heap.size, 3, none⟩ = some (.int .i64 n) := by rw [cell_of_blk HX]; rfl
  have hl := lt_of_heap HX
  clear HX
  cases f with
  | true =>
    go_wp2_with fail
    go_ret
    exact ⟨congrArg (fun b => Ending.returned (Value.bool b)) (show false = noResB true m c n by rw [HE.out]; rfl), HK.out⟩
  | false =>
    by_cases h1 : m = 0
    · subst h1
      cases h2 : (c == 0) with
      | true =>
        go_wp2_with fail
        go_ret
        exact ⟨congrArg (fun b => Ending.returned (Value.bool b)) (show (n == 0) = noResB false 0 c n by rw [HE.out, h2]; rfl), HK.out⟩
      | false =>
        go_wp2_with fail
        go_ret
        exact ⟨congrArg (fun b => Ending.returned (Value.bool b)) (show false = noResB false 0 c n by rw [HE.out, h2]; rfl), HK.out⟩
    · have h2 : ((m : Int) == 0) = false := by simp; omega
      go_wp2_with fail
      go_ret
      exact ⟨congrArg (fun b => Ending.returned (Value.bool b)) (show false = noResB false m c n by rw [HE.out]; simp [h1]), HK.out⟩

/-! ### StateFault of the reference -/
end Go.Proofs.YtcpmjoabhnfddaaGreat

/- isOne at the task step. -/
namespace Go.Proofs.YtcpmjoabhnfddaaGreat
open Go.RowKit

set_option maxRecDepth 100000 in
set_option maxHeartbeats 1000000 in
theorem isOne_any (w : World) (vp : Value) (n : Int) (h : Ints w vp [0]) :
    Calls Tryz.prog 42 #[resV true vp 3 n, fltV 0 0] w fun e w' => e = .returned (.bool true) ∧ Keeps (fun _ => False) w w' := by
  obtain ⟨ap, cp, h4, _⟩ := h.form
  subst h4
  have KA := (Keeps.refl (fun _ => False) w).alloc (.cells #[.bool true, .slice ap 1 cp, .int .i64 3, .int .i64 n] 29)
  have KB := (Keeps.refl (fun _ => False) (w.alloc (.cells #[.bool true, .slice ap 1 cp, .int .i64 3, .int .i64 n] 29))).alloc (.cells #[.int .i64 0, .int .i64 0] 31)
  have HK := Lib.hid (KA.trans KB)
  have HX := KB.heap (heap_alloc_new w (.cells #[.bool true, .slice ap 1 cp, .int .i64 3, .int .i64 n] 29)) (fun h => h)
  have HF := heap_alloc_new (w.alloc (.cells #[.bool true, .slice ap 1 cp, .int .i64 3, .int .i64 n] 29)) (.cells #[.int .i64 0, .int .i64 0] 31)
  rw [World.size_alloc] at HF
  have HP := Lib.hid (show Ints _ (.slice ap 1 cp) [0] from h.keeps0 (KA.trans KB))
  clear KA KB h
  unfold resV fltV
  go_enter Tryz.func42, Tryz.ntmps42
  go_upto_region 1 with fail
  generalize (w.alloc (.cells #[.bool true, .slice ap 1 cp, .int .i64 3, .int .i64 n] 29)).alloc (.cells #[.int .i64 0, .int .i64 0] 31) = w1 at HX HF HK HP ⊢
  have s0 : w1.cell? ⟨w.heap.size, 0, none⟩ = some (.bool true) := by rw [cell_of_blk HX]; rfl
  have s1 : w1.cell? ⟨w.heap.size, 1, none⟩ = some (.slice ap 1 cp) := by rw [cell_of_blk HX]; rfl
  have s2 : w1.cell? ⟨w.heap.size, 2, none⟩ = some (.int .i64 3) := by rw [cell_of_blk HX]; rfl
  have f0 : w1.cell? ⟨w.heap.size + 1, 0, none⟩ = some (.int .i64 0) := by rw [cell_of_blk HF]; rfl
  have hl := lt_of_heap HX
  have hlF := lt_of_heap HF
  have kc := (Keeps.refl (fun _ => False) w1).alloc (.cells #[.int .i64 0] 3)
  have HQ := Lib.hid (Ints.one (x := 0) (heap_alloc_new w1 (.cells #[.int .i64 0] 3)))
  have HP2 := Lib.hid (show Ints _ (.slice ap 1 cp) [0] from HP.out.keeps0 kc)
  have HK2 := Lib.hid (HK.out.trans kc)
  have HX2 := Lib.hid (kc.heap HX (fun h => h))
  clear kc HX HF
  go_wp2_with fail
  refine (ints_any _ _ _ _ _ HP2.out HQ.out).mono ?_; rintro e w3 ⟨rfl, hk⟩
  have hx := hk.heap HX2.out (fun h => h)
  clear s0 s1 s2 hl
  have s2 : w3.cell? ⟨w.heap.size, 2, none⟩ = some (.int .i64 3) := by rw [cell_of_blk hx]; rfl
  have hl := lt_of_heap hx
  have HKE := Lib.hid (HK2.out.trans hk)
  clear hx hk
  go_wp2_with fail
  go_ret
  exact ⟨rfl, HKE.out⟩

end Go.Proofs.YtcpmjoabhnfddaaGreat

namespace Go.Proofs.YtcpmjoabhnfddaaGreat
open Go.RowKit

theorem costL_is (t : Tsk) : ∀ q : List Nat, costL t (intsP q) = costN (wordsOf t.ops) q
  | [] => rfl
  | a :: r => by
    have h := costL_is t r
    unfold intsP at h ⊢
    rw [List.map_cons, costL, costN, h]
    congr 1
    unfold costAt wordsOf
    rw [List.getElem?_map, Int.toNat_natCast, Option.map_map]
    rfl

theorem goal_reached {t : Tsk} (ok : t.Ok) {q : List Nat} {y : Nat} (hr : runOps (wordsOf t.ops) (wd t.init) q = some y) (ha : goalB (wd t.goal) y = true) : goalW t y = true := by
  rw [goalW_goalB ok (good_reach ok (good_wd (by have := ok.n1; omega) ok.init) (reach_run q .refl hr))]
  exact ha

theorem fld_fault (x y : Value) (W : World) : (Instr.field 31 (.agg #[x, y]) 0).run Tryz.prog W = .ok x W := by kernel_rfl

set_option maxRecDepth 100000 in
set_option maxHeartbeats 4000000 in
theorem isBest_any (w : World) (vi vg vo vp : Value) (t : Tsk) (l : List Nat) (b : Int) (fnd : Bool) (lp : List Int) (c n : Int) (h : TaskAt w vi vg vo t) (ok : t.Ok) (hx : explored t = some l) (hb : BestT t b) (hs : stepsB b ≤ 60) (hp : Ints w vp lp) (hg : BPlanG t l b fnd lp c n) :
    Calls Tryz.prog 23 #[.agg #[.int .i64 t.n, vi, vg, vo], resV fnd vp c n] w fun e w' => e = .returned (.bool true) ∧ Keeps (fun _ => False) w w' := by
  obtain ⟨ai, ci, h1, _⟩ := h.init.form
  obtain ⟨ag, cg, h2, _⟩ := h.goal.form
  obtain ⟨ao, co, h3, hmo⟩ := h.ops.form
  obtain ⟨ap, cp, h4, hml⟩ := hp.form
  subst h1 h2 h3 h4
  have K1 := (Keeps.refl (fun _ => False) w).alloc (.cells #[.int .i64 t.n, .slice ai t.init.length ci, .slice ag t.goal.length cg, .slice ao t.ops.length co] 25)
  have K2 := (Keeps.refl (fun _ => False) (w.alloc (.cells #[.int .i64 t.n, .slice ai t.init.length ci, .slice ag t.goal.length cg, .slice ao t.ops.length co] 25))).alloc (.cells #[.bool fnd, .slice ap lp.length cp, .int .i64 c, .int .i64 n] 29)
  have HB := Lib.hid ((Four.new w (.int .i64 t.n) (.slice ai t.init.length ci) (.slice ag t.goal.length cg) (.slice ao t.ops.length co) 25).keeps0 K2)
  have hr := Four.new (w.alloc (.cells #[.int .i64 t.n, .slice ai t.init.length ci, .slice ag t.goal.length cg, .slice ao t.ops.length co] 25)) (.bool fnd) (.slice ap lp.length cp) (.int .i64 c) (.int .i64 n) 29
  rw [World.size_alloc] at hr
  have HR := Lib.hid hr
  have HT := Lib.hid (h.keeps0 (K1.trans K2)); have HP := Lib.hid (hp.keeps0 (K1.trans K2)); have HK := Lib.hid (K1.trans K2)
  have OK := Lib.hid ok; have HX := Lib.hid hx; have HBT := Lib.hid hb; have HG := Lib.hid hg
  clear h K1 K2 hr hp ok hx hb hg
  have hfld := fld_fault (.int .i64 0) (.int .i64 0)
  simp only [resV]
  go_enter Tryz.func23, Tryz.ntmps23
  go_upto_region 1 with fail
  generalize ((w.alloc (.cells #[.int .i64 t.n, .slice ai t.init.length ci, .slice ag t.goal.length cg, .slice ao t.ops.length co] 25)).alloc (.cells #[.bool fnd, .slice ap lp.length cp, .int .i64 c, .int .i64 n] 29)) = w1 at HB HR HT HP HK ⊢
  generalize w.heap.size = bt at HB HR ⊢
  have hbx := HB.out.lt
  obtain ⟨d0, d1, d2, d3⟩ := HB.out
  go_wp2_with fail
  refine (bestPlans_any _ _ _ _ t HT.out OK.out HX.out).mono ?_; rintro e w2 ⟨b', rfl, hb', hk⟩
  obtain rfl : b' = b := LeastOf.unique hb' HBT.out
  have HB2 := Lib.hid (HB.out.keeps0 hk); have HR2 := Lib.hid (HR.out.keeps0 hk); have HT2 := Lib.hid (HT.out.keeps0 hk); have HP2 := Lib.hid (HP.out.keeps0 hk); have HK2 := Lib.hid (HK.out.trans hk)
  clear d0 d1 d2 d3 hbx hk hb' HB HR HT HP HK
  obtain ⟨r0, r1, r2, r3⟩ := HR2.out
  have hlr := HR2.out.lt
  have hbx := HB2.out.lt
  obtain ⟨d0, d1, d2, d3⟩ := HB2.out
  by_cases h0 : b' < 0
  · have ev : bestV b' = .tuple #[.int .i64 0, .int .i64 0, .bool false] := by unfold bestV; rw [if_pos h0]
    obtain ⟨rfl, rfl, rfl⟩ := HG.out.none_ h0
    rw [ev]
    clear ev h0 hs
    go_wp2_with fail
    go_ret
    exact ⟨rfl, HK2.out⟩
  · have hge : 0 ≤ b' := by omega
    have ev : bestV b' = .tuple #[.int .i64 (b' / 4096), .int .i64 (b' % 4096), .bool true] := by unfold bestV; rw [if_neg h0]
    obtain ⟨rfl, q, y, rfl, hrun, hacc, hlen, hcost, hc⟩ := HG.out.some_ hge
    have hgw := goal_reached OK.out hrun hacc
    have hcl : costL t (intsP q) = b' / 4096 := by rw [costL_is]; exact hcost
    rw [hcl] at hc
    subst hc
    have hs2 : b' % 4096 ≤ 60 := by unfold stepsB at hs; rw [if_neg h0] at hs; exact hs
    have hl2 : ((intsP q).length : Int) = b' % 4096 := by unfold intsP; rw [List.length_map]; exact hlen
    have hl60 : (intsP q).length ≤ 60 := by omega
    have hq : q.length ≤ 60 := by omega
    have HRUN := Lib.hid hrun; have HIN := Lib.hid (planIn_run hrun)
    rw [ev]
    clear ev h0 hs hrun hacc hlen hcost hs2
    generalize b' / 4096 = cc at hcl HR2 HG r2 ⊢
    generalize b' % 4096 = ss at hl2 HR2 HG ⊢
    go_wp2_with fail
    refine (planFaultR_good _ _ _ _ _ t (intsP q) HT2.out OK.out HP2.out hl60 HIN.out).mono ?_; rintro e w3 ⟨rfl, hk⟩
    have HB3 := Lib.hid (HB2.out.keeps0 hk); have HR3 := Lib.hid (HR2.out.keeps0 hk); have HT3 := Lib.hid (HT2.out.keeps0 hk); have HP3 := Lib.hid (HP2.out.keeps0 hk); have HK3 := Lib.hid (HK2.out.trans hk)
    clear d0 d1 d2 d3 r0 r1 r2 r3 hlr hbx hk HB2 HR2 HT2 HP2 HK2
    obtain ⟨r0, r1, r2, r3⟩ := HR3.out
    have hlr := HR3.out.lt
    have hbx := HB3.out.lt
    obtain ⟨d0, d1, d2, d3⟩ := HB3.out
    go_wp2_with fail
    refine (solvesR_good _ _ _ _ _ t y q HT3.out OK.out HP3.out HRUN.out (by omega)).mono ?_; rintro e w4 ⟨rfl, hk⟩
    rw [hgw]
    have HB4 := Lib.hid (HB3.out.keeps0 hk); have HR4 := Lib.hid (HR3.out.keeps0 hk); have HT4 := Lib.hid (HT3.out.keeps0 hk); have HP4 := Lib.hid (HP3.out.keeps0 hk); have HK4 := Lib.hid (HK3.out.trans hk)
    clear d0 d1 d2 d3 r0 r1 r2 r3 hlr hbx hk HB3 HR3 HT3 HP3 HK3
    obtain ⟨r0, r1, r2, r3⟩ := HR4.out
    have hlr := HR4.out.lt
    have hbx := HB4.out.lt
    obtain ⟨d0, d1, d2, d3⟩ := HB4.out
    go_wp2_with fail
    refine (costOf_any _ _ _ _ _ t (intsP q) HT4.out OK.out HP4.out HIN.out (by omega)).mono ?_; rintro e w5 ⟨rfl, hk⟩
    rw [hcl]
    have HK5 := Lib.hid (HK4.out.trans hk)
    clear hk
    go_wp2_with fail
    go_ret
    exact ⟨rfl, HK5.out⟩

theorem match_cases {t : Tsk} {fnd : Bool} {lp : List Int} {c n fc fi c' i' : Int} (h : BPlanIs t fnd lp c n fc fi) (g : BestFl t c' i') :
    (c' ≠ 0 ∧ fc = c' ∧ fi = i' ∧ fnd = false ∧ lp = [] ∧ c = 0 ∧ n = 0) ∨ (c' = 0 ∧ fc = 0 ∧ fi = 0 ∧ t.Ok ∧ ∃ l b, explored t = some l ∧ BestT t b ∧ stepsB b ≤ 60 ∧ BPlanG t l b fnd lp c n) := by
  rcases h with ⟨h1, h2, h3⟩ | ⟨h1, h2, l, b, h3, h4, h5⟩
  · rcases g with ⟨g1, g2⟩ | ⟨_, g2, _⟩
    · rw [h2] at g2; cases g2; exact .inl ⟨h1, rfl, rfl, h3⟩
    · rw [h2] at g2; cases g2; exact absurd rfl h1
  · rcases g with ⟨g1, g2⟩ | ⟨_, _, l', b', g3, g4, g5⟩
    · rw [h1] at g2; cases g2; exact absurd rfl g1
    · obtain rfl := LeastOf.unique g4 h4
      rcases h5 with ⟨a1, a2, a3, a4⟩ | ⟨a1, a2, a3, a4⟩
      · rcases g5 with ⟨_, e2, e3⟩ | ⟨e1, _⟩
        · exact .inl ⟨by rw [e2]; decide, by rw [a2, e2], by rw [a3, e3], a4⟩
        · omega
      · rcases g5 with ⟨e1, _⟩ | ⟨_, e2, e3⟩
        · omega
        · exact .inr ⟨e2, a2, a3, h2, l, _, h3, h4, a1, a4⟩

set_option maxRecDepth 100000 in
set_option maxHeartbeats 4000000 in
theorem bestMatches_any (w : World) (vi vg vo vp : Value) (t : Tsk) (fnd : Bool) (lp : List Int) (c n fc fi : Int) (h : TaskAt w vi vg vo t) (hp : Ints w vp lp) (hg : BPlanIs t fnd lp c n fc fi) :
    Calls Tryz.prog 31 #[.agg #[.int .i64 t.n, vi, vg, vo], resV fnd vp c n, fltV fc fi, fltV 0 0] w fun e w' => e = .returned (.bool true) ∧ Keeps (fun _ => False) w w' := by
  obtain ⟨ai, ci, h1, _⟩ := h.init.form
  obtain ⟨ag, cg, h2, _⟩ := h.goal.form
  obtain ⟨ao, co, h3, hmo⟩ := h.ops.form
  obtain ⟨ap, cp, h4, hml⟩ := hp.form
  subst h1 h2 h3 h4
  have K1 := (Keeps.refl (fun _ => False) w).alloc (.cells #[.int .i64 t.n, .slice ai t.init.length ci, .slice ag t.goal.length cg, .slice ao t.ops.length co] 25)
  have K2 := (Keeps.refl (fun _ => False) (w.alloc (.cells #[.int .i64 t.n, .slice ai t.init.length ci, .slice ag t.goal.length cg, .slice ao t.ops.length co] 25))).alloc (.cells #[.bool fnd, .slice ap lp.length cp, .int .i64 c, .int .i64 n] 29)
  have K3 := (Keeps.refl (fun _ => False) ((w.alloc (.cells #[.int .i64 t.n, .slice ai t.init.length ci, .slice ag t.goal.length cg, .slice ao t.ops.length co] 25)).alloc (.cells #[.bool fnd, .slice ap lp.length cp, .int .i64 c, .int .i64 n] 29))).alloc (.cells #[.int .i64 fc, .int .i64 fi] 31)
  have K4 := (Keeps.refl (fun _ => False) (((w.alloc (.cells #[.int .i64 t.n, .slice ai t.init.length ci, .slice ag t.goal.length cg, .slice ao t.ops.length co] 25)).alloc (.cells #[.bool fnd, .slice ap lp.length cp, .int .i64 c, .int .i64 n] 29)).alloc (.cells #[.int .i64 fc, .int .i64 fi] 31))).alloc (.cells #[.int .i64 0, .int .i64 0] 31)
  have hr := heap_alloc_new (w.alloc (.cells #[.int .i64 t.n, .slice ai t.init.length ci, .slice ag t.goal.length cg, .slice ao t.ops.length co] 25)) (.cells #[.bool fnd, .slice ap lp.length cp, .int .i64 c, .int .i64 n] 29)
  have hf := heap_alloc_new ((w.alloc (.cells #[.int .i64 t.n, .slice ai t.init.length ci, .slice ag t.goal.length cg, .slice ao t.ops.length co] 25)).alloc (.cells #[.bool fnd, .slice ap lp.length cp, .int .i64 c, .int .i64 n] 29)) (.cells #[.int .i64 fc, .int .i64 fi] 31)
  have hgb := heap_alloc_new (((w.alloc (.cells #[.int .i64 t.n, .slice ai t.init.length ci, .slice ag t.goal.length cg, .slice ao t.ops.length co] 25)).alloc (.cells #[.bool fnd, .slice ap lp.length cp, .int .i64 c, .int .i64 n] 29)).alloc (.cells #[.int .i64 fc, .int .i64 fi] 31)) (.cells #[.int .i64 0, .int .i64 0] 31)
  rw [World.size_alloc] at hr
  rw [World.size_alloc, World.size_alloc] at hf
  rw [World.size_alloc, World.size_alloc, World.size_alloc] at hgb
  have HB := Lib.hid ((Four.new w (.int .i64 t.n) (.slice ai t.init.length ci) (.slice ag t.goal.length cg) (.slice ao t.ops.length co) 25).keeps0 (K2.trans (K3.trans K4)))
  have HR := Lib.hid ((K3.trans K4).heap hr (fun h => h)); have HF := Lib.hid (K4.heap hf (fun h => h)); have HGB := Lib.hid hgb
  have KK := K1.trans (K2.trans (K3.trans K4))
  have HT := Lib.hid (h.keeps0 KK); have HP := Lib.hid (hp.keeps0 KK); have HK := Lib.hid KK
  have HG := Lib.hid hg; have HT0 := Lib.hid h; have HP0 := Lib.hid hp
  clear h K1 K2 K3 K4 KK hr hf hgb hp hg
  simp only [resV, fltV]
  go_enter Tryz.func31, Tryz.ntmps31
  go_upto_region 1 with fail
  generalize hw1 : ((((w.alloc (.cells #[.int .i64 t.n, .slice ai t.init.length ci, .slice ag t.goal.length cg, .slice ao t.ops.length co] 25)).alloc (.cells #[.bool fnd, .slice ap lp.length cp, .int .i64 c, .int .i64 n] 29)).alloc (.cells #[.int .i64 fc, .int .i64 fi] 31)).alloc (.cells #[.int .i64 0, .int .i64 0] 31)) = w1 at HB HR HF HGB HT HP HK ⊢
  clear hw1
  have hbs : w.heap.size ≤ w.heap.size + 1 + 1 + 1 := by omega
  obtain ⟨g0, g1, _, _, gl⟩ := pair_cells HGB.out
  have hbx := HB.out.lt
  obtain ⟨d0, d1, d2, d3⟩ := HB.out
  go_wp2_with fail
  refine (bestFault_any _ _ _ _ t HT.out).mono ?_; rintro e w2 ⟨c', i', rfl, hfl, hk⟩
  have HM := Lib.hid (match_cases HG.out hfl)
  have HB2 := Lib.hid (HB.out.keeps0 hk); have HR2 := Lib.hid (hk.heap HR.out (fun h => h)); have HF2 := Lib.hid (hk.heap HF.out (fun h => h)); have HG2 := Lib.hid (hk.heap HGB.out (fun h => h)); have HT2 := Lib.hid (HT.out.keeps0 hk); have HP2 := Lib.hid (HP.out.keeps0 hk); have HK2 := Lib.hid (HK.out.trans hk)
  clear d0 d1 d2 d3 hbx hk HB HR HF HGB HT HP HK g0 g1 gl hfl HG
  obtain ⟨g0, g1, gz0, gz1, gl⟩ := pair_cells HG2.out
  have kp := keeps_pair (w := w2) (w.heap.size + 1 + 1 + 1) (.int .i64 c') (.int .i64 i')
  have HG3 := Lib.hid (pair_set HG2.out (.int .i64 c') (.int .i64 i'))
  have HK3 := Lib.hid (HK2.out.trans' kp (fun i hi => .inr (by omega)))
  have HR3 := Lib.hid (kp.heap HR2.out (show ¬ (w.heap.size + 1 = w.heap.size + 1 + 1 + 1) by omega)); have HF3 := Lib.hid (kp.heap HF2.out (show ¬ (w.heap.size + 1 + 1 = w.heap.size + 1 + 1 + 1) by omega))
  have e0 := kp.cell HB2.out.c0 (show ¬ (w.heap.size = w.heap.size + 1 + 1 + 1) by omega); have e1 := kp.cell HB2.out.c1 (show ¬ (w.heap.size = w.heap.size + 1 + 1 + 1) by omega); have e2 := kp.cell HB2.out.c2 (show ¬ (w.heap.size = w.heap.size + 1 + 1 + 1) by omega); have e3 := kp.cell HB2.out.c3 (show ¬ (w.heap.size = w.heap.size + 1 + 1 + 1) by omega)
  have HB3 := Lib.hid (Four.mk e0 e1 e2 e3)
  have HT3 := Lib.hid (HT0.out.keeps0 HK3.out); have HP3 := Lib.hid (HP0.out.keeps0 HK3.out)
  clear e0 e1 e2 e3 hbs kp HT0 HP0
  go_upto_region 3 with fail
  generalize (w2.setCell ⟨w.heap.size + 1 + 1 + 1, 0, none⟩ (.int .i64 c')).setCell ⟨w.heap.size + 1 + 1 + 1, 1, none⟩ (.int .i64 i') = w3 at HG3 HK3 HR3 HF3 HB3 HT3 HP3 ⊢
  clear g0 g1 gz0 gz1 gl HB2 HR2 HF2 HG2 HT2 HP2 HK2
  obtain ⟨g0, g1, _, _, gl⟩ := pair_cells HG3.out
  obtain ⟨f0, f1, _, _, fl⟩ := pair_cells HF3.out
  obtain ⟨r0, r1, r2, r3, rl⟩ := quad_cells HR3.out
  have hbx := HB3.out.lt
  obtain ⟨d0, d1, d2, d3⟩ := HB3.out
  rcases HM.out with ⟨hc, rfl, rfl, rfl, rfl, rfl, rfl⟩ | ⟨rfl, rfl, rfl, hok, l, b, hx, hb, hs, hpg⟩
  · have hcb : (fc != 0) = true := by simpa using hc
    clear hc HM
    go_wp2_with fail
    refine (noResult_any _ false _ 0 _ 0 0 (by omega)).mono ?_; rintro e w4 ⟨rfl, hk⟩
    have HK4 := Lib.hid (HK3.out.trans hk)
    clear hk
    go_wp2_with fail
    go_ret
    exact ⟨rfl, HK4.out⟩
  · have OK := Lib.hid hok; have HX := Lib.hid hx; have HBT := Lib.hid hb; have HPG := Lib.hid hpg
    clear hok hx hb hpg HM
    go_wp2_with fail
    refine (reached_any _ _ _ _ t HT3.out OK.out).mono ?_; rintro e w4 ⟨hk, hr⟩
    rcases hr with ⟨hn, _⟩ | ⟨l', hl', v, vw, vs, rfl, hrows⟩
    · exact absurd (hn.symm.trans HX.out) (by simp)
    obtain rfl : l' = l := by have := hl'.symm.trans HX.out; cases this; rfl
    obtain ⟨al, cl, hal⟩ := ownsRow_form1 hrows.out
    subst hal
    have hn0 := HPG.out.n.1; have hn1 := HPG.out.n.2
    have HB4 := Lib.hid (HB3.out.keeps0 hk); have HR4 := Lib.hid (hk.heap HR3.out (fun h => h)); have HF4 := Lib.hid (hk.heap HF3.out (fun h => h)); have HT4 := Lib.hid (HT3.out.keeps0 hk); have HP4 := Lib.hid (HP3.out.keeps0 hk); have HK4 := Lib.hid (HK3.out.trans hk)
    clear hk hl' hrows g0 g1 gl f0 f1 fl r0 r1 r2 r3 rl hbx d0 d1 d2 d3 HB3 HR3 HF3 HT3 HP3 HK3 HG3
    obtain ⟨f0, f1, _, _, fl⟩ := pair_cells HF4.out
    obtain ⟨r0, r1, r2, r3, rl⟩ := quad_cells HR4.out
    have hbx := HB4.out.lt
    obtain ⟨d0, d1, d2, d3⟩ := HB4.out
    go_wp2_with fail
    refine (isBest_any _ _ _ _ _ t l' b fnd lp c n HT4.out OK.out HX.out HBT.out hs HP4.out HPG.out).mono ?_; rintro e w5 ⟨rfl, hk⟩
    have HK5 := Lib.hid (HK4.out.trans hk)
    have HR5 := Lib.hid (hk.heap HR4.out (fun h => h))
    clear hk f0 f1 fl r0 r1 r2 r3 rl hbx d0 d1 d2 d3
    obtain ⟨r0, r1, r2, r3, rl⟩ := quad_cells HR5.out
    go_wp2_with fail
    go_ret
    exact ⟨rfl, HK5.out⟩

end Go.Proofs.YtcpmjoabhnfddaaGreat

namespace Go.Proofs.YtcpmjoabhnfddaaGreat
open Go.RowKit Go.Shelf

def admK (k : Int) : Bool := decide (k = 0 ∨ k = 1 ∨ k = 4 ∨ k = 5)
/-- The faults of a call with a kind. -/
def kindF (t : Tsk) (b : Bool) : Int × Int := if (taskFault t).1 = 0 then (if b = true then expF t else (4, -8)) else taskFault t
theorem kindF_true (t : Tsk) : kindF t true = expF t := by
  unfold kindF expF
  split <;> simp_all

theorem admissible_any (k : Int) (w : World) : Calls Tryz.prog 46 #[.int .i64 k] w fun e w' => e = .returned (.bool (admK k)) ∧ w = w' := by
  by_cases h0 : k = 0
  · subst h0
    go_enter Tryz.func46, Tryz.ntmps46
    go_wp2_with fail
    go_ret
    exact ⟨rfl, rfl⟩
  · by_cases h1 : k = 1
    · subst h1
      go_enter Tryz.func46, Tryz.ntmps46
      go_wp2_with fail
      go_ret
      exact ⟨rfl, rfl⟩
    · by_cases h4 : k = 4
      · subst h4
        go_enter Tryz.func46, Tryz.ntmps46
        go_wp2_with fail
        go_ret
        exact ⟨rfl, rfl⟩
      · by_cases h5 : k = 5
        · subst h5
          go_enter Tryz.func46, Tryz.ntmps46
          go_wp2_with fail
          go_ret
          exact ⟨rfl, rfl⟩
        · have HR := Lib.hid (show admK k = false by unfold admK; simp [h0, h1, h4, h5])
          have b0 : (k == 0) = false := by simpa using h0
          have b1 : (k == 1) = false := by simpa using h1
          have b4 : (k == 4) = false := by simpa using h4
          have b5 : (k == 5) = false := by simpa using h5
          clear h0 h1 h4 h5
          go_enter Tryz.func46, Tryz.ntmps46
          go_wp2_with fail
          go_ret
          exact ⟨congrArg (fun b => Ending.returned (Value.bool b)) HR.out.symm, rfl⟩

theorem refAdm_any (k : Int) (w : World) : Calls Tryz.prog 18 #[.int .i64 k] w fun e w' => e = .returned (.bool (admK k)) ∧ w = w' := by
  by_cases h0 : k = 0
  · subst h0
    go_enter Tryz.func18, Tryz.ntmps18
    go_wp2_with fail
    go_ret
    exact ⟨rfl, rfl⟩
  · by_cases h1 : k = 1
    · subst h1
      go_enter Tryz.func18, Tryz.ntmps18
      go_wp2_with fail
      go_ret
      exact ⟨rfl, rfl⟩
    · by_cases h4 : k = 4
      · subst h4
        go_enter Tryz.func18, Tryz.ntmps18
        go_wp2_with fail
        go_ret
        exact ⟨rfl, rfl⟩
      · have b0 : (k == 0) = false := by simpa using h0
        have b1 : (k == 1) = false := by simpa using h1
        have b4 : (k == 4) = false := by simpa using h4
        cases h5 : (k == 5) with
        | true =>
          have HR := Lib.hid (show admK k = true by unfold admK; simp at h5; simp [h5])
          clear h0 h1 h4
          go_enter Tryz.func18, Tryz.ntmps18
          go_wp2_with fail
          go_ret
          exact ⟨congrArg (fun b => Ending.returned (Value.bool b)) HR.out.symm, rfl⟩
        | false =>
          have HR := Lib.hid (show admK k = false by unfold admK; simp at h5; simp [h0, h1, h4, h5])
          clear h0 h1 h4
          go_enter Tryz.func18, Tryz.ntmps18
          go_wp2_with fail
          go_ret
          exact ⟨congrArg (fun b => Ending.returned (Value.bool b)) HR.out.symm, rfl⟩

set_option maxRecDepth 100000 in
set_option maxHeartbeats 4000000 in
theorem value4_any (t : Tsk) (ok : t.Ok) (L : List Nat) (hL : ∀ x ∈ L, Good t.n x) : ValC t 4 L (cutsH t) := by
  intro w vi vg vo vs x h hx hs
  obtain ⟨ai, ci, h1, _⟩ := h.init.form
  obtain ⟨ag, cg, h2, _⟩ := h.goal.form
  obtain ⟨ao, co, h3, hmo⟩ := h.ops.form
  subst h1 h2 h3
  have K1 := (Keeps.refl (fun _ => False) w).alloc (.cells #[.int .i64 t.n, .slice ai t.init.length ci, .slice ag t.goal.length cg, .slice ao t.ops.length co] 25)
  have HB := Lib.hid (Four.new w (.int .i64 t.n) (.slice ai t.init.length ci) (.slice ag t.goal.length cg) (.slice ao t.ops.length co) 25)
  have HT := Lib.hid (h.keeps0 K1); have HS := Lib.hid (hs.keeps0 K1); have HK1 := Lib.hid K1
  have OK := Lib.hid ok; have HX := Lib.hid (hL x hx)
  clear h hs K1 ok hL hx
  go_enter Tryz.func83, Tryz.ntmps83
  go_upto_region 20 with fail
  generalize (w.alloc (.cells #[.int .i64 t.n, .slice ai t.init.length ci, .slice ag t.goal.length cg, .slice ao t.ops.length co] 25)) = w1 at HT HB HK1 HS ⊢
  obtain ⟨d0, d1, d2, d3⟩ := HB.out
  have hbx := HB.out.lt
  go_wp2_with fail
  refine (cuts_any _ _ _ _ _ t x HT.out OK.out HX.out HS.out).mono ?_
  rintro e w2 ⟨vx, rfl, hk⟩
  have HK2 := Lib.hid (HK1.out.trans hk)
  unfold fltV
  clear hk d0 d1 d2 d3
  go_wp2_with fail
  go_ret
  exact ⟨rfl, HK2.out.trans ((Keeps.refl (fun _ => False) w2).alloc _)⟩

/-- What Value says of a state. -/
def kindH (t : Tsk) (k : Int) : Nat → Int := if k = 1 then maxH t else if k = 2 then addH t else if k = 4 then cutsH t else if k = 5 then pairsH t else fun _ => 0
/-- What is said at the permitted kinds. -/
theorem says_kind {k : Int} (h : admK k = true) (t : Tsk) : SaysH t k (kindH t k) := fun l ok hx => by
  have hg := good_explored ok hx
  unfold admK at h
  rcases of_decide_eq_true h with rfl | rfl | rfl | rfl
  · have e : kindH t 0 = fun _ => 0 := rfl
    rw [e]
    exact ⟨value0_any t l, ⟨fun x _ => ⟨by decide, by decide⟩, fun x _ p y _ _ => ⟨(costN_bound (ops_cost ok) p).1, by decide⟩⟩⟩
  · exact ⟨value1_any t ok l hg, max_adm ok l⟩
  · exact ⟨value4_any t ok l hg, cuts_adm ok l hg⟩
  · exact ⟨value5_any t ok l hg, pairs_adm ok l hg⟩

end Go.Proofs.YtcpmjoabhnfddaaGreat

namespace Go.Proofs.YtcpmjoabhnfddaaGreat
open Go.RowKit Go.Shelf

theorem opsFault_at (n : Int) : ∀ (os : List Opr) (k : Int), 0 ≤ k → (opsFault n k os).1 ≠ 0 → (opsFault n k os).2 ≠ -7
  | [], k, _, h => absurd rfl h
  | o :: r, k, hk, h => by
    unfold opsFault at h ⊢
    split
    · exact opsFault_at n r (k + 1) (by omega) (by rename_i he; rw [if_pos he] at h; exact h)
    · simp only; omega
theorem taskFault_at7 {t : Tsk} (h : (taskFault t).1 ≠ 0) : (taskFault t).2 ≠ -7 := by
  unfold taskFault at h ⊢
  split
  · decide
  · split
    · decide
    · split
      · decide
      · split
        · decide
        · rename_i a b c d
          rw [if_neg a, if_neg b, if_neg c, if_neg d] at h
          exact opsFault_at _ _ _ (Int.le_refl _) h

def NoPost (t : Tsk) (w : World) (e : Ending) (w' : World) : Prop := ∃ pv lv c i, e = .returned (.tuple #[pv, lv, .agg #[.int .i64 c, .int .i64 i]]) ∧ (c, i) = kindF t false ∧ c ≠ 0 ∧ Keeps (fun _ => False) w w'

set_option maxRecDepth 100000 in
set_option maxHeartbeats 2000000 in
theorem acheckNo_any (w : World) (vi vg vo : Value) (t : Tsk) (h : TaskAt w vi vg vo t) :
    Calls Tryz.prog 45 #[.agg #[.int .i64 t.n, vi, vg, vo], .bool false] w (NoPost t w) := by
  obtain ⟨ai, ci, h1, _⟩ := h.init.form
  obtain ⟨ag, cg, h2, _⟩ := h.goal.form
  obtain ⟨ao, co, h3, hmo⟩ := h.ops.form
  subst h1 h2 h3
  have K1 := (Keeps.refl (fun _ => False) w).alloc (.cells #[.int .i64 t.n, .slice ai t.init.length ci, .slice ag t.goal.length cg, .slice ao t.ops.length co] 25)
  have HT := h.keeps0 (K1.alloc (.cells #[.int .i64 0, .int .i64 0] 31))
  have HB := (Four.new w (.int .i64 t.n) (.slice ai t.init.length ci) (.slice ag t.goal.length cg) (.slice ao t.ops.length co) 25).keeps0 ((Keeps.refl _ _).alloc (.cells #[.int .i64 0, .int .i64 0] 31))
  have HF : Flt w ((w.alloc (.cells #[.int .i64 t.n, .slice ai t.init.length ci, .slice ag t.goal.length cg, .slice ao t.ops.length co] 25)).alloc (.cells #[.int .i64 0, .int .i64 0] 31)) (w.heap.size + 1) 31 :=
    ⟨by have := heap_alloc_new (w.alloc (.cells #[.int .i64 t.n, .slice ai t.init.length ci, .slice ag t.goal.length cg, .slice ao t.ops.length co] 25)) (.cells #[.int .i64 0, .int .i64 0] 31); rwa [World.size_alloc] at this, by omega, K1.alloc _⟩
  replace HT := Lib.hid HT; replace HB := Lib.hid HB; replace HF := Lib.hid HF
  clear h K1
  go_enter Tryz.func45, Tryz.ntmps45
  go_upto_region 1 with fail
  generalize ((w.alloc (.cells #[.int .i64 t.n, .slice ai t.init.length ci, .slice ag t.goal.length cg, .slice ao t.ops.length co] 25)).alloc (.cells #[.int .i64 0, .int .i64 0] 31)) = w1 at HT HB HF ⊢
  have hbx := HB.out.lt
  obtain ⟨d0, d1, d2, d3⟩ := HB.out
  go_wp2_with fail
  refine (checked_any _ _ _ _ t HT.out).mono ?_; rintro e w2 hr
  have hform : (∃ pv lv c i, e = .returned (.tuple #[pv, lv, .agg #[.int .i64 c, .int .i64 i]]) ∧ ((c ≠ 0 ∧ i ≠ -7 ∧ (c, i) = kindF t false) ∨ (((c = 0 ∧ i = 0) ∨ (c ≠ 0 ∧ i = -7)) ∧ (4, -8) = kindF t false))) := by
    rcases hr.2 with ⟨hc, he⟩ | ⟨hok, hx, he⟩ | ⟨hok, l, hx, b, v, vl, ws, he, _⟩
    · refine ⟨_, _, _, _, he, .inl ⟨hc, taskFault_at7 hc, ?_⟩⟩
      unfold kindF; rw [if_neg hc]
    · refine ⟨_, _, _, _, he, .inr ⟨.inr ⟨by decide, rfl⟩, ?_⟩⟩
      unfold kindF; rw [if_pos (taskFault_zero.2 hok)]; rfl
    · refine ⟨_, _, _, _, he, .inr ⟨.inl ⟨rfl, rfl⟩, ?_⟩⟩
      unfold kindF; rw [if_pos (taskFault_zero.2 hok)]; rfl
  obtain ⟨pv, lv, c, i, rfl, hcase⟩ := hform
  have HC := Lib.hid hcase
  have KA := (Keeps.refl (fun _ => False) w2).alloc (.cells #[.int .i64 c, .int .i64 i] 31)
  have HF3 := Lib.hid (HF.out.keeps0 (hr.1.trans KA))
  have F0 := Lib.hid (heap_alloc_new w2 (.cells #[.int .i64 c, .int .i64 i] 31))
  clear d0 d1 d2 d3 hbx hr KA HT HB HF hcase
  go_upto_region 2 with fail
  generalize w2.alloc (.cells #[.int .i64 c, .int .i64 i] 31) = w3 at HF3 F0 ⊢
  generalize w2.heap.size = b3 at F0 ⊢
  obtain ⟨f0, f1, _, _, fl⟩ := pair_cells F0.out
  obtain ⟨e0, e1, z0, z1, hF⟩ := HF3.out.cells
  rcases HC.out with ⟨hc, hi, hk⟩ | ⟨hci, hk⟩
  · have HK := Lib.hid hk; have HCZ := Lib.hid hc
    have b0 : (c == 0) = false := by simpa using hc
    have b1 : (i == -7) = false := by simpa using hi
    clear hc hi hk
    go_wp2_with fail
    go_region
    all_goals
      go_wp2
      refine bodyPost_ret (results_tmp2_cell _ _ (w.heap.size + 1) 31 #[.int .i64 c, .int .i64 i] (0, 0) _ rfl rfl (((Keeps.refl (fun _ => False) _).drew).heap (HF3.out.set (.int .i64 c) (.int .i64 i)).1 (fun h => h)) Tryz.underlying31 rfl (by kernel_rfl)) rfl ?_
      exact ⟨_, _, c, i, rfl, HK.out, HCZ.out, (HF3.out.set (.int .i64 c) (.int .i64 i)).2.drew⟩
  · have HK := Lib.hid hk
    have HST := Lib.hid (HF3.out.set (.int .i64 4) (.int .i64 (-8)))
    clear hk
    rcases hci with ⟨rfl, rfl⟩ | ⟨hc, rfl⟩
    · go_wp2_with fail
      refine bodyPost_ret (results_tmp2_cell _ _ (w.heap.size + 1) 31 #[.int .i64 4, .int .i64 (-8)] (0, 0) _ rfl rfl HST.out.1 Tryz.underlying31 rfl (by kernel_rfl)) rfl ?_
      exact ⟨_, _, 4, -8, rfl, HK.out, by decide, HST.out.2⟩
    · have b0 : (c == 0) = false := by simpa using hc
      clear hc
      go_wp2_with fail
      refine bodyPost_ret (results_tmp2_cell _ _ (w.heap.size + 1) 31 #[.int .i64 4, .int .i64 (-8)] (0, 0) _ rfl rfl HST.out.1 Tryz.underlying31 rfl (by kernel_rfl)) rfl ?_
      exact ⟨_, _, 4, -8, rfl, HK.out, by decide, HST.out.2⟩

set_option maxRecDepth 100000 in
set_option maxHeartbeats 4000000 in
theorem aplanNo_any (w : World) (vi vg vo : Value) (t : Tsk) (kind : Int) (hK : admK kind = false) (h : TaskAt w vi vg vo t) :
    Calls Tryz.prog 30 #[.agg #[.int .i64 t.n, vi, vg, vo], .int .i64 kind] w fun e w' => ∃ c i, e = .returned (.tuple #[resV false (.slice none 0 0) 0 0, fltV c i]) ∧ (c, i) = kindF t false ∧ c ≠ 0 ∧ Keeps (fun _ => False) w w' := by
  obtain ⟨ai, ci, h1, _⟩ := h.init.form
  obtain ⟨ag, cg, h2, _⟩ := h.goal.form
  obtain ⟨ao, co, h3, hmo⟩ := h.ops.form
  have K1 := (Keeps.refl (fun _ => False) w).alloc (.cells #[.int .i64 t.n, vi, vg, vo] 25)
  have KA := (Keeps.refl (fun _ => False) (w.alloc (.cells #[.int .i64 t.n, vi, vg, vo] 25))).alloc (.cells #[.bool false, .slice none 0 0, .int .i64 0, .int .i64 0] 29)
  have KB := (Keeps.refl (fun _ => False) ((w.alloc (.cells #[.int .i64 t.n, vi, vg, vo] 25)).alloc (.cells #[.bool false, .slice none 0 0, .int .i64 0, .int .i64 0] 29))).alloc (.cells #[.int .i64 0, .int .i64 0] 31)
  have HB := Lib.hid ((Four.new w (.int .i64 t.n) vi vg vo 25).keeps0 (KA.trans KB))
  have hr := KB.heap (heap_alloc_new (w.alloc (.cells #[.int .i64 t.n, vi, vg, vo] 25)) (.cells #[.bool false, .slice none 0 0, .int .i64 0, .int .i64 0] 29)) (fun h => h)
  have hf : Flt w _ _ 31 := ⟨heap_alloc_new ((w.alloc (.cells #[.int .i64 t.n, vi, vg, vo] 25)).alloc (.cells #[.bool false, .slice none 0 0, .int .i64 0, .int .i64 0] 29)) (.cells #[.int .i64 0, .int .i64 0] 31), by simp; omega, K1.trans (KA.trans KB)⟩
  have HT := Lib.hid (h.keeps0 (K1.trans (KA.trans KB)))
  rw [World.size_alloc] at hr hf
  rw [World.size_alloc] at hf
  have HR := Lib.hid (show RFl w _ (w.heap.size + 1) (w.heap.size + 1 + 1) from ⟨hr, hf, by omega, by omega⟩)
  have HAD := Lib.hid hK
  subst h1 h2 h3
  clear h K1 KA KB hr hf hK
  go_enter Tryz.func30, Tryz.ntmps30
  go_upto_region 1 with fail
  generalize ((w.alloc (.cells #[.int .i64 t.n, .slice ai t.init.length ci, .slice ag t.goal.length cg, .slice ao t.ops.length co] 25)).alloc (.cells #[.bool false, .slice none 0 0, .int .i64 0, .int .i64 0] 29)).alloc (.cells #[.int .i64 0, .int .i64 0] 31) = w1 at HB HR HT ⊢
  have KD : Keeps (fun _ => False) w1 w1.drew := (Keeps.refl (fun _ => False) w1).drew
  have KA : Keeps (fun _ => False) w1.drew (w1.alloc (.cells #[.int .i64 0, .int .i64 0] 31)).drew := by
    have h := (Keeps.refl (fun _ => False) w1.drew).alloc (.cells #[.int .i64 0, .int .i64 0] 31)
    exact h
  have HTD := Lib.hid (HT.out.keeps0 KD); have HKD := Lib.hid KD; have HKA := Lib.hid KA
  have HZ8 := Lib.hid (show (w1.alloc (.cells #[.int .i64 0, .int .i64 0] 31)).drew.heap[w1.heap.size]? = some (.cells #[.int .i64 0, .int .i64 0] 31 (0, 0)) from heap_alloc_new w1 _)
  have HB1 := HB.out.keeps0 KD
  have hbx := HB1.lt
  have HBX := Lib.hid (show w.heap.size < w1.heap.size from HB.out.lt)
  obtain ⟨d0, d1, d2, d3⟩ := HB1
  obtain ⟨d0', d1', d2', d3'⟩ := (HB.out.keeps0 KD).keeps0 KA
  clear KD KA
  go_region_held3 (fun w' => w'.cell? ⟨w.heap.size, 0, none⟩ = some (.int .i64 t.n) ∧ w'.cell? ⟨w.heap.size, 1, none⟩ = some (.slice ai t.init.length ci) ∧ w'.cell? ⟨w.heap.size, 2, none⟩ = some (.slice ag t.goal.length cg) ∧ w'.cell? ⟨w.heap.size, 3, none⟩ = some (.slice ao t.ops.length co))
    (first | go_keep | with_reducible exact ⟨(keeps_pair (w := w9) w1.heap.size (.int .i64 fc) (.int .i64 fi)).cell t0 (show ¬ w.heap.size = w1.heap.size by have := HBX.out; omega), (keeps_pair (w := w9) w1.heap.size (.int .i64 fc) (.int .i64 fi)).cell t1 (show ¬ w.heap.size = w1.heap.size by have := HBX.out; omega), (keeps_pair (w := w9) w1.heap.size (.int .i64 fc) (.int .i64 fi)).cell t2 (show ¬ w.heap.size = w1.heap.size by have := HBX.out; omega), (keeps_pair (w := w9) w1.heap.size (.int .i64 fc) (.int .i64 fi)).cell t3 (show ¬ w.heap.size = w1.heap.size by have := HBX.out; omega)⟩)
    (first
      | (go_at_call 46; refine (admissible_any kind _).mono ?_; rintro e wq ⟨rfl, rfl⟩; rw [HAD.out])
      | (go_at_call 45; refine (acheckNo_any _ _ _ _ t HTD.out).mono ?_; rintro e w9 ⟨pv, lv, fc, fi, rfl, hki, hcz, hk⟩; have HKI := Lib.hid hki; have HCZ := Lib.hid hcz; have HK9 := Lib.hid hk; have t0 := hk.cell d0 (fun h => h); have t1 := hk.cell d1 (fun h => h); have t2 := hk.cell d2 (fun h => h); have t3 := hk.cell d3 (fun h => h); clear hk hki hcz)
      | (go_at_call 45; refine (acheckNo_any _ _ _ _ t (HTD.out.keeps0 HKA.out)).mono ?_; rintro e w9 ⟨pv, lv, fc, fi, rfl, hki, hcz, hk⟩; have HKI := Lib.hid hki; have HCZ := Lib.hid hcz; have HK9 := Lib.hid hk; have HZ9 := Lib.hid (hk.heap HZ8.out (fun h => h)); obtain ⟨q0, q1, y0, y1, hl6⟩ := pair_cells HZ9.out; have t0 := hk.cell d0' (fun h => h); have t1 := hk.cell d1' (fun h => h); have t2 := hk.cell d2' (fun h => h); have t3 := hk.cell d3' (fun h => h); clear hk hki hcz))
  all_goals
    first
      | (have HFZ := Lib.hid (pair_set HZ9.out (.int .i64 fc) (.int .i64 fi))
         have HC := Lib.hid (show Keeps (fun _ => False) w1 ((w9.setCell ⟨w1.heap.size, 0, none⟩ (.int .i64 fc)).setCell ⟨w1.heap.size, 1, none⟩ (.int .i64 fi)) from ((HKD.out.trans HKA.out).trans HK9.out).trans' (keeps_pair (w := w9) w1.heap.size (.int .i64 fc) (.int .i64 fi)) (fun k hk => .inr (Nat.le_of_eq hk.symm)))
         clear t0 t1 t2 t3 q0 q1 y0 y1 HZ9 hl6 HK9
         generalize (w9.setCell ⟨w1.heap.size, 0, none⟩ (.int .i64 fc)).setCell ⟨w1.heap.size, 1, none⟩ (.int .i64 fi) = wz at HFZ HC ⊢
         generalize w1.heap.size = b8 at HFZ ⊢)
      | (have HFZ := Lib.hid (heap_alloc_new w9 (.cells #[.int .i64 fc, .int .i64 fi] 31))
         have HC := Lib.hid (show Keeps (fun _ => False) w1 (w9.alloc (.cells #[.int .i64 fc, .int .i64 fi] 31)) from (HKD.out.trans HK9.out).trans ((Keeps.refl (fun _ => False) w9).alloc _))
         clear t0 t1 t2 t3 HK9
         generalize w9.alloc (.cells #[.int .i64 fc, .int .i64 fi] 31) = wz at HFZ HC ⊢
         generalize w9.heap.size = b8 at HFZ ⊢)
  all_goals
    have HR4 := Lib.hid (HR.out.keeps0 HC.out)
    obtain ⟨f0, f1, y0, y1, hlf⟩ := pair_cells HFZ.out
    clear y0 y1 hlf d0 d1 d2 d3 d0' d1' d2' d3' hbx HB HT HR HZ8 HTD HKD HKA
    have hc2 : (fc == 0) = false := by have := HCZ.out; simpa using this
    have HFIN := Lib.hid (HR4.out.fin (.int .i64 fc) (.int .i64 fi))
    obtain ⟨r0, r1, r2, r3, y0, y1, y2, y3, hlR⟩ := HR4.out.cells
    obtain ⟨e0, e1, z0, z1, hF⟩ := HR4.out.flt.cells
    obtain ⟨s0, s1, s2, s3⟩ := HR4.out.ids
    go_wp2_with fail
    go_region
    all_goals
      go_wp2
      refine bodyPost_ret (results_cell_cell _ _ (w.heap.size + 1 + 1) 31 #[.int .i64 fc, .int .i64 fi] (0, 0) _ rfl rfl HFIN.out.2.1 Tryz.underlying31 rfl (by kernel_rfl) rfl HFIN.out.1 Tryz.underlying29 rfl (by kernel_rfl)) rfl ?_
      exact ⟨fc, fi, rfl, HKI.out, HCZ.out, HFIN.out.2.2⟩

/-- What Plan hands back at a kind. -/
def PlanIsK (t : Tsk) (b fnd : Bool) (lp : List Int) (c n fc fi : Int) : Prop := (b = true ∧ BPlanIs t fnd lp c n fc fi) ∨ (b = false ∧ (fc, fi) = kindF t false ∧ fc ≠ 0 ∧ fnd = false ∧ lp = [] ∧ c = 0 ∧ n = 0)
theorem aplanK_any (w : World) (vi vg vo : Value) (t : Tsk) (k : Int) (h : TaskAt w vi vg vo t) :
    Calls Tryz.prog 30 #[.agg #[.int .i64 t.n, vi, vg, vo], .int .i64 k] w fun e w' => Keeps (fun _ => False) w w' ∧ ∃ fnd vp lp c n fc fi, e = .returned (.tuple #[resV fnd vp c n, fltV fc fi]) ∧ Ints w' vp lp ∧ PlanIsK t (admK k) fnd lp c n fc fi ∧ AExp t (kindH t k) fnd lp n := by
  cases hk : admK k with
  | true =>
    refine (aplanH_any w vi vg vo t k _ (fun W => by have h := admissible_any k W; rw [hk] at h; exact h) (says_kind hk t) h).mono ?_
    rintro e w' ⟨h1, fnd, vp, lp, c, n, fc, fi, h2, h3, h4, h5⟩
    exact ⟨h1, fnd, vp, lp, c, n, fc, fi, h2, h3, .inl ⟨rfl, h4⟩, h5⟩
  | false =>
    refine (aplanNo_any w vi vg vo t k hk h).mono ?_
    rintro e w' ⟨c, i, h1, h2, h3, h4⟩
    exact ⟨h4, false, _, [], 0, 0, c, i, h1, Ints.nil _, .inr ⟨rfl, h2, h3, rfl, rfl, rfl, rfl⟩, (fun h => by cases h)⟩

end Go.Proofs.YtcpmjoabhnfddaaGreat

namespace Go.Proofs.YtcpmjoabhnfddaaGreat
open Go.RowKit Go.Shelf

set_option maxRecDepth 100000 in
set_option maxHeartbeats 2000000 in
theorem kindFault_any (w : World) (vi vg vo : Value) (t : Tsk) (b : Bool) (h : TaskAt w vi vg vo t) :
    Calls Tryz.prog 17 #[.agg #[.int .i64 t.n, vi, vg, vo], .bool b] w fun e w' => e = .returned (.agg #[.int .i64 (kindF t b).1, .int .i64 (kindF t b).2]) ∧ Keeps (fun _ => False) w w' := by
  obtain ⟨ai, ci, h1, _⟩ := h.init.form
  obtain ⟨ag, cg, h2, _⟩ := h.goal.form
  obtain ⟨ao, co, h3, hmo⟩ := h.ops.form
  subst h1 h2 h3
  have K1 := (Keeps.refl (fun _ => False) w).alloc (.cells #[.int .i64 t.n, .slice ai t.init.length ci, .slice ag t.goal.length cg, .slice ao t.ops.length co] 25)
  have HT := Lib.hid (h.keeps0 (K1.alloc (.cells #[.int .i64 0, .int .i64 0] 31)))
  have HB := Lib.hid ((Four.new w (.int .i64 t.n) (.slice ai t.init.length ci) (.slice ag t.goal.length cg) (.slice ao t.ops.length co) 25).keeps0 ((Keeps.refl _ _).alloc (.cells #[.int .i64 0, .int .i64 0] 31)))
  have HF : Flt w ((w.alloc (.cells #[.int .i64 t.n, .slice ai t.init.length ci, .slice ag t.goal.length cg, .slice ao t.ops.length co] 25)).alloc (.cells #[.int .i64 0, .int .i64 0] 31)) (w.heap.size + 1) 31 :=
    ⟨by have := heap_alloc_new (w.alloc (.cells #[.int .i64 t.n, .slice ai t.init.length ci, .slice ag t.goal.length cg, .slice ao t.ops.length co] 25)) (.cells #[.int .i64 0, .int .i64 0] 31); rwa [World.size_alloc] at this, by omega, K1.alloc _⟩
  replace HF := Lib.hid HF
  clear h K1
  go_enter Tryz.func17, Tryz.ntmps17
  go_upto_region 1 with fail
  generalize ((w.alloc (.cells #[.int .i64 t.n, .slice ai t.init.length ci, .slice ag t.goal.length cg, .slice ao t.ops.length co] 25)).alloc (.cells #[.int .i64 0, .int .i64 0] 31)) = w1 at HT HB HF ⊢
  have hbx := HB.out.lt
  obtain ⟨d0, d1, d2, d3⟩ := HB.out
  go_wp2_with fail
  refine (taskFault_any _ _ _ _ t HT.out).mono ?_; rintro e w2 ⟨rfl, hk⟩
  obtain ⟨f, hf⟩ : ∃ f, taskFault t = f := ⟨_, rfl⟩
  have HE := Lib.hid hf
  rw [hf]
  have KA := hk.trans ((Keeps.refl (fun _ => False) w2).alloc (.cells #[.int .i64 f.1, .int .i64 f.2] 31))
  have HF3 := Lib.hid (HF.out.keeps0 KA); have HT3 := Lib.hid (HT.out.keeps0 KA); have HB3 := Lib.hid (HB.out.keeps0 KA)
  have F0 := Lib.hid (heap_alloc_new w2 (.cells #[.int .i64 f.1, .int .i64 f.2] 31))
  have hw2 : w1.heap.size ≤ w2.heap.size := hk.size
  have HW1 := Lib.hid (show w.heap.size + 1 < w1.heap.size from HF.out.cells.2.2.2.2)
  clear d0 d1 d2 d3 hbx hk KA HT HB HF hf
  go_upto_region 2 with fail
  obtain ⟨b3, hb3⟩ : ∃ b3, w2.heap.size = b3 := ⟨_, rfl⟩
  generalize w2.alloc (.cells #[.int .i64 f.1, .int .i64 f.2] 31) = w3 at HF3 HT3 HB3 F0 ⊢
  rw [hb3] at F0 hw2
  try rw [hb3]
  clear hb3
  have HNB := Lib.hid (show ¬ b3 = w.heap.size + 1 ∧ w.heap.size + 1 < b3 by have := HW1.out; omega)
  obtain ⟨f0, f1, q0, q1, fl⟩ := pair_cells F0.out
  obtain ⟨e0, e1, z0, z1, hF⟩ := HF3.out.cells
  obtain ⟨c, i⟩ := f
  simp only at F0 f0 f1 HE ⊢
  cases h0 : (c == 0) with
  | false =>
    have HK := Lib.hid (show kindF t b = (c, i) by unfold kindF; rw [HE.out, if_neg (by simpa using h0)])
    have HST := Lib.hid (HF3.out.set (.int .i64 c) (.int .i64 i))
    go_wp2_with fail
    refine bodyPost_ret (results_cell_row rfl _ _ (w.heap.size + 1) 31 _ (0, 0) _ rfl HST.out.1 Tryz.underlying31 rfl (by kernel_rfl)) rfl ?_
    exact ⟨by rw [HK.out], HST.out.2⟩
  | true =>
    have hc : c = 0 := by simpa using h0
    subst hc
    clear h0
    cases b with
    | false =>
      have HK := Lib.hid (show kindF t false = (4, -8) by unfold kindF; rw [HE.out]; rfl)
      go_wp2_with fail
      refine (at_any _ _ _).mono ?_; rintro e w4 ⟨rfl, hk4⟩
      have kp := keeps_pair (w := w4) b3 (.int .i64 4) (.int .i64 (-8))
      have F4 := Lib.hid (hk4.heap F0.out (fun h => h))
      have F5 := Lib.hid (pair_set F4.out (.int .i64 4) (.int .i64 (-8)))
      have HF5 := Lib.hid ((HF3.out.keeps0 hk4).keepsS kp (fun e => HNB.out.1 e.symm) (fun i hi => by have := HNB.out.2; omega))
      clear f0 f1 q0 q1 fl e0 e1 z0 z1 hF
      obtain ⟨f0, f1, q0, q1, fl⟩ := pair_cells F4.out
      clear kp hk4
      go_upto_region 4 with fail
      generalize (w4.setCell ⟨b3, 0, none⟩ (.int .i64 4)).setCell ⟨b3, 1, none⟩ (.int .i64 (-8)) = w5 at F5 HF5 ⊢
      clear f0 f1 q0 q1 fl
      obtain ⟨f0, f1, q0, q1, fl⟩ := pair_cells F5.out
      obtain ⟨e0, e1, z0, z1, hF⟩ := HF5.out.cells
      have HST := Lib.hid (HF5.out.set (.int .i64 4) (.int .i64 (-8)))
      go_wp2_with fail
      refine bodyPost_ret (results_cell_row rfl _ _ (w.heap.size + 1) 31 _ (0, 0) _ rfl HST.out.1 Tryz.underlying31 rfl (by kernel_rfl)) rfl ?_
      exact ⟨by rw [HK.out], HST.out.2⟩
    | true =>
      have HK := Lib.hid (show kindF t true = expF t from kindF_true t)
      have hbx := HB3.out.lt
      obtain ⟨d0, d1, d2, d3⟩ := HB3.out
      go_wp2_with fail
      refine (explored_any _ _ _ _ t HT3.out).mono ?_; rintro e w4 ⟨rfl, hk4⟩
      have kp := keeps_pair (w := w4) b3 (.int .i64 (expF t).1) (.int .i64 (expF t).2)
      have F4 := Lib.hid (hk4.heap F0.out (fun h => h))
      have F5 := Lib.hid (pair_set F4.out (.int .i64 (expF t).1) (.int .i64 (expF t).2))
      have HF5 := Lib.hid ((HF3.out.keeps0 hk4).keepsS kp (fun e => HNB.out.1 e.symm) (fun i hi => by have := HNB.out.2; omega))
      clear f0 f1 q0 q1 fl e0 e1 z0 z1 hF d0 d1 d2 d3 hbx
      obtain ⟨f0, f1, q0, q1, fl⟩ := pair_cells F4.out
      clear kp hk4
      go_upto_region 6 with fail
      generalize (w4.setCell ⟨b3, 0, none⟩ (.int .i64 (expF t).1)).setCell ⟨b3, 1, none⟩ (.int .i64 (expF t).2) = w5 at F5 HF5 ⊢
      clear f0 f1 q0 q1 fl
      obtain ⟨f0, f1, q0, q1, fl⟩ := pair_cells F5.out
      obtain ⟨e0, e1, z0, z1, hF⟩ := HF5.out.cells
      have HST := Lib.hid (HF5.out.set (.int .i64 (expF t).1) (.int .i64 (expF t).2))
      go_wp2_with fail
      refine bodyPost_ret (results_cell_row rfl _ _ (w.heap.size + 1) 31 _ (0, 0) _ rfl HST.out.1 Tryz.underlying31 rfl (by kernel_rfl)) rfl ?_
      exact ⟨by rw [HK.out], HST.out.2⟩

set_option maxRecDepth 100000 in
set_option maxHeartbeats 2000000 in
/-- A result with the fault that is asked for. -/
theorem bestBad_any (w : World) (vi vg vo : Value) (ap : Option Addr) (cp : Nat) (t : Tsk) (c i : Int) (h : TaskAt w vi vg vo t) (hc : c ≠ 0) :
    Calls Tryz.prog 31 #[.agg #[.int .i64 t.n, vi, vg, vo], resV false (.slice ap 0 cp) 0 0, fltV c i, fltV c i] w fun e w' => e = .returned (.bool true) ∧ Keeps (fun _ => False) w w' := by
  obtain ⟨ai, ci, h1, _⟩ := h.init.form
  obtain ⟨ag, cg, h2, _⟩ := h.goal.form
  obtain ⟨ao, co, h3, hmo⟩ := h.ops.form
  subst h1 h2 h3
  have K1 := (Keeps.refl (fun _ => False) w).alloc (.cells #[.int .i64 t.n, .slice ai t.init.length ci, .slice ag t.goal.length cg, .slice ao t.ops.length co] 25)
  have K2 := (Keeps.refl (fun _ => False) (w.alloc (.cells #[.int .i64 t.n, .slice ai t.init.length ci, .slice ag t.goal.length cg, .slice ao t.ops.length co] 25))).alloc (.cells #[.bool false, .slice ap 0 cp, .int .i64 0, .int .i64 0] 29)
  have K3 := (Keeps.refl (fun _ => False) ((w.alloc (.cells #[.int .i64 t.n, .slice ai t.init.length ci, .slice ag t.goal.length cg, .slice ao t.ops.length co] 25)).alloc (.cells #[.bool false, .slice ap 0 cp, .int .i64 0, .int .i64 0] 29))).alloc (.cells #[.int .i64 c, .int .i64 i] 31)
  have K4 := (Keeps.refl (fun _ => False) (((w.alloc (.cells #[.int .i64 t.n, .slice ai t.init.length ci, .slice ag t.goal.length cg, .slice ao t.ops.length co] 25)).alloc (.cells #[.bool false, .slice ap 0 cp, .int .i64 0, .int .i64 0] 29)).alloc (.cells #[.int .i64 c, .int .i64 i] 31))).alloc (.cells #[.int .i64 c, .int .i64 i] 31)
  have hr := heap_alloc_new (w.alloc (.cells #[.int .i64 t.n, .slice ai t.init.length ci, .slice ag t.goal.length cg, .slice ao t.ops.length co] 25)) (.cells #[.bool false, .slice ap 0 cp, .int .i64 0, .int .i64 0] 29)
  have hf := heap_alloc_new ((w.alloc (.cells #[.int .i64 t.n, .slice ai t.init.length ci, .slice ag t.goal.length cg, .slice ao t.ops.length co] 25)).alloc (.cells #[.bool false, .slice ap 0 cp, .int .i64 0, .int .i64 0] 29)) (.cells #[.int .i64 c, .int .i64 i] 31)
  have hgb := heap_alloc_new (((w.alloc (.cells #[.int .i64 t.n, .slice ai t.init.length ci, .slice ag t.goal.length cg, .slice ao t.ops.length co] 25)).alloc (.cells #[.bool false, .slice ap 0 cp, .int .i64 0, .int .i64 0] 29)).alloc (.cells #[.int .i64 c, .int .i64 i] 31)) (.cells #[.int .i64 c, .int .i64 i] 31)
  rw [World.size_alloc] at hr
  rw [World.size_alloc, World.size_alloc] at hf
  rw [World.size_alloc, World.size_alloc, World.size_alloc] at hgb
  have HR := Lib.hid ((K3.trans K4).heap hr (fun h => h)); have HF := Lib.hid (K4.heap hf (fun h => h)); have HGB := Lib.hid hgb
  have HK := Lib.hid (K1.trans (K2.trans (K3.trans K4)))
  have hcb : (c == 0) = false := by simpa using hc
  have hcn : (c != 0) = true := by simpa using hc
  clear h K1 K2 K3 K4 hr hf hgb hc
  simp only [resV, fltV]
  go_enter Tryz.func31, Tryz.ntmps31
  go_upto_region 1 with fail
  generalize hw1 : (((w.alloc (.cells #[.int .i64 t.n, .slice ai t.init.length ci, .slice ag t.goal.length cg, .slice ao t.ops.length co] 25)).alloc (.cells #[.bool false, .slice ap 0 cp, .int .i64 0, .int .i64 0] 29)).alloc (.cells #[.int .i64 c, .int .i64 i] 31)).alloc (.cells #[.int .i64 c, .int .i64 i] 31) = w1 at HR HF HGB HK ⊢
  clear hw1
  obtain ⟨g0, g1, _, _, gl⟩ := pair_cells HGB.out
  obtain ⟨f0, f1, _, _, fl⟩ := pair_cells HF.out
  obtain ⟨r0, r1, r2, r3, rl⟩ := quad_cells HR.out
  go_wp2_with fail
  refine (noResult_any _ false _ 0 _ 0 0 (by omega)).mono ?_; rintro e w4 ⟨rfl, hk⟩
  have HK4 := Lib.hid (HK.out.trans hk)
  clear hk
  go_wp2_with fail
  go_ret
  exact ⟨rfl, HK4.out⟩

end Go.Proofs.YtcpmjoabhnfddaaGreat

namespace Go.Proofs.YtcpmjoabhnfddaaGreat
open Go.RowKit Go.Shelf

/-- What Values hands back at a permitted kind. -/
def ValsPost (t : Tsk) (H : Nat → Int) (w : World) (e : Ending) (w' : World) : Prop := Keeps (fun _ => False) w w' ∧
  (((expF t).1 ≠ 0 ∧ e = .returned (.tuple #[.slice none 0 0, fltV (expF t).1 (expF t).2])) ∨
   (t.Ok ∧ ∃ (l ws : List Nat) (vv : Value), explored t = some l ∧ ws.Perm l ∧ ws.Pairwise (fun a b => ¬ cmpW b a < 0) ∧ e = .returned (.tuple #[vv, fltV 0 0]) ∧ w'.ownsRow w.heap.size 3 1 vv ws.length ((ws.map H).map (Value.int .i64))))

set_option maxRecDepth 100000 in
set_option maxHeartbeats 4000000 in
theorem avals_any (w : World) (vi vg vo : Value) (t : Tsk) (kind : Int) (hk : 0 ≤ kind ∧ kind ≤ 5) (H : Nat → Int) (hV : t.Ok → ∀ l, explored t = some l → ValC t kind l H) (h : TaskAt w vi vg vo t) :
    Calls Tryz.prog 27 #[.agg #[.int .i64 t.n, vi, vg, vo], .int .i64 kind] w (ValsPost t H w) := by
  obtain ⟨i0, hi0, hz0, hz1, hz2⟩ := info_parts Tryz.info3
  obtain ⟨ai, ci, h1, _⟩ := h.init.form
  obtain ⟨ag, cg, h2, _⟩ := h.goal.form
  obtain ⟨ao, co, h3, hmo⟩ := h.ops.form
  subst h1 h2 h3
  have K1 := (Keeps.refl (fun _ => False) w).alloc (.cells #[.int .i64 t.n, .slice ai t.init.length ci, .slice ag t.goal.length cg, .slice ao t.ops.length co] 25)
  have HT := Lib.hid (h.keeps0 (K1.alloc (.cells #[.int .i64 0, .int .i64 0] 31)))
  have HB := Lib.hid ((Four.new w (.int .i64 t.n) (.slice ai t.init.length ci) (.slice ag t.goal.length cg) (.slice ao t.ops.length co) 25).keeps0 ((Keeps.refl _ _).alloc (.cells #[.int .i64 0, .int .i64 0] 31)))
  have HF : Flt w ((w.alloc (.cells #[.int .i64 t.n, .slice ai t.init.length ci, .slice ag t.goal.length cg, .slice ao t.ops.length co] 25)).alloc (.cells #[.int .i64 0, .int .i64 0] 31)) (w.heap.size + 1) 31 :=
    ⟨by have := heap_alloc_new (w.alloc (.cells #[.int .i64 t.n, .slice ai t.init.length ci, .slice ag t.goal.length cg, .slice ao t.ops.length co] 25)) (.cells #[.int .i64 0, .int .i64 0] 31); rwa [World.size_alloc] at this, by omega, K1.alloc _⟩
  replace HF := Lib.hid HF
  have HV := Lib.hid hV
  have hd0 : decide (0 ≤ kind) = true := by simpa using hk.1
  have hd5 : decide (kind ≤ 5) = true := by simpa using hk.2
  clear h K1 hV hk
  go_enter Tryz.func27, Tryz.ntmps27
  go_upto_region 1 with fail
  generalize ((w.alloc (.cells #[.int .i64 t.n, .slice ai t.init.length ci, .slice ag t.goal.length cg, .slice ao t.ops.length co] 25)).alloc (.cells #[.int .i64 0, .int .i64 0] 31)) = w1 at HT HB HF ⊢
  have hbx := HB.out.lt
  obtain ⟨d0, d1, d2, d3⟩ := HB.out
  go_wp2_with fail
  refine (acheck_any _ _ _ _ t HT.out).mono ?_; rintro e w2 hr
  obtain ⟨pv, lv, c, i, rfl⟩ := hr.form
  have HC := Lib.hid hr
  have KA := (Keeps.refl (fun _ => False) w2).alloc (.cells #[.int .i64 c, .int .i64 i] 31)
  have KK := hr.1.trans KA
  have HF3 := Lib.hid (HF.out.keeps0 KK); have HT3 := Lib.hid (HT.out.keeps0 KK); have HB3 := Lib.hid (HB.out.keeps0 KK)
  have F0 := Lib.hid (heap_alloc_new w2 (.cells #[.int .i64 c, .int .i64 i] 31))
  have HKA := Lib.hid KA
  have HW1 := Lib.hid (show w.heap.size + 1 < w1.heap.size from HF.out.cells.2.2.2.2)
  clear d0 d1 d2 d3 hbx hr KA KK HT HB HF
  go_upto_region 2 with fail
  generalize w2.alloc (.cells #[.int .i64 c, .int .i64 i] 31) = w3 at HF3 HT3 HB3 F0 HKA ⊢
  generalize w2.heap.size = b3 at F0 ⊢
  obtain ⟨f0, f1, _, _, fl⟩ := pair_cells F0.out
  obtain ⟨e0, e1, z0, z1, hF⟩ := HF3.out.cells
  rcases HC.out.2 with ⟨hc, he⟩ | ⟨hok, hx, he⟩ | ⟨hok, l, hx, b, v, vl, ws, he, hw, hperm, hsort, hown⟩
  · obtain ⟨rfl, rfl, he2⟩ := ret_three he
    obtain ⟨rfl, rfl⟩ := agg_two he2; clear he2 he
    have NF := Lib.hid (expF_bad hc)
    have HCC := Lib.hid hc
    have hc2 : ((taskFault t).1 == 0) = false := by simpa using hc
    clear hc
    have HST := Lib.hid (HF3.out.set (.int .i64 (taskFault t).1) (.int .i64 (taskFault t).2))
    go_wp2_with fail
    go_region
    all_goals
      go_wp2
      refine bodyPost_ret (results_tmp_cell _ _ (w.heap.size + 1) 31 #[.int .i64 (taskFault t).1, .int .i64 (taskFault t).2] (0, 0) _ rfl rfl (((Keeps.refl (fun _ => False) _).drew).heap HST.out.1 (fun h => h)) Tryz.underlying31 rfl (by kernel_rfl)) rfl ?_
      exact ⟨HST.out.2.drew, .inl ⟨by rw [NF.out]; exact HCC.out, by rw [NF.out]; rfl⟩⟩
  · obtain ⟨rfl, rfl, he2⟩ := ret_three he
    obtain ⟨rfl, rfl⟩ := agg_two he2; clear he2 he
    have NF := Lib.hid (expF_many hok hx)
    clear hok hx
    have HST := Lib.hid (HF3.out.set (.int .i64 10) (.int .i64 (-7)))
    go_wp2_with fail
    go_region
    all_goals
      go_wp2
      refine bodyPost_ret (results_tmp_cell _ _ (w.heap.size + 1) 31 #[.int .i64 10, .int .i64 (-7)] (0, 0) _ rfl rfl (((Keeps.refl (fun _ => False) _).drew).heap HST.out.1 (fun h => h)) Tryz.underlying31 rfl (by kernel_rfl)) rfl ?_
      exact ⟨HST.out.2.drew, .inl ⟨by rw [NF.out]; decide, by rw [NF.out]; rfl⟩⟩
  · obtain ⟨rfl, rfl, he2⟩ := ret_three he
    obtain ⟨rfl, rfl⟩ := agg_two he2; clear he2 he
    have HX := Lib.hid hx; have OK := Lib.hid hok; have HPM := Lib.hid hperm; have HSO := Lib.hid hsort
    have HVL := Lib.hid ((HV.out hok l hx).perm hperm)
    have HND := Lib.hid (costs_need hok hx hperm)
    have HXN := Lib.hid (expF_ok hok hx)
    obtain ⟨al, cl, hal⟩ := ownsRow_form1 hown
    subst hal
    have HOW := Lib.hid (HKA.out.ownsRow hown (fun _ _ h => h))
    clear hok hx hperm hw hsort hown
    obtain ⟨d0, d1, d2, d3⟩ := HB3.out
    have hbx := HB3.out.lt
    go_wp2_with fail
    refine (heuristic_any w3 _ _ _ t kind H HT3.out).mono ?_
    rintro e w6 ⟨kb, tb, qb, mb, rfl, hhm, h1, h2, h3, h4, h5, hk6⟩
    have HM6 := Lib.hid hhm; have HMB := Lib.hid h1; have H2 := Lib.hid h2; have H3 := Lib.hid h3; have H4 := Lib.hid h4; have H5 := Lib.hid h5; have HK6 := Lib.hid hk6
    have HOW6 := Lib.hid (hk6.ownsRow HOW.out (fun _ _ h => h))
    have HF6 := Lib.hid (HF3.out.keeps0 hk6)
    clear d0 d1 d2 d3 hbx f0 f1 fl e0 e1 z0 z1 hF hhm h1 h2 h3 h4 h5 hk6
    go_wp2_with fail
    go_loopw [10, 34] (fun v10 v34 wr => ∃ k : Nat, v34 = .int .i64 (k : Int) ∧ k ≤ ws.length ∧ wr.ownsRow w6.heap.size 3 1 v10 k (((ws.take k).map H).map (Value.int .i64)) ∧ HeurM t kind H w3 kb tb qb mb (.slice ai t.init.length ci) (.slice ag t.goal.length cg) (.slice ao t.ops.length co) wr ∧ Keeps (fun b => b = mb) w6 wr) (fun _ v34 _ => ws.length - (intOf v34).toNat)
    case atStart => exact ⟨0, rfl, Nat.zero_le _, World.ownsRow_nil _ _ _ _, HM6.out, Keeps.refl _ _⟩
    case round =>
      obtain ⟨k, rfl, hk, hown, hhm, hkr⟩ := hrel
      have HO := Lib.hid hown; have HHM := Lib.hid hhm; have HKR := Lib.hid hkr
      clear hown hhm hkr
      by_cases hlt : k < ws.length
      · have hrowl := HKR.out.ownsRow HOW6.out (fun k hk e => by have h1 := (World.ownsRow.lt HOW.out k hk).2; have h2 := HMB.out; have h3 : k = mb := e; omega)
        obtain ⟨bl, ol, rfl, hcl⟩ := Sl.cellN (Sl.of_own hrowl) rfl (by omega)
        obtain ⟨x, hx⟩ : ∃ x, ws[k]? = some x := ⟨_, List.getElem?_eq_getElem hlt⟩
        have hc1 := hcl k (encW x) (by rw [List.getElem?_map, hx]; rfl)
        unfold encW at hc1
        have HXM := Lib.hid (List.mem_of_getElem? hx)
        have HTK := Lib.hid (show ((ws.take (k + 1)).map H).map (Value.int .i64) = ((ws.take k).map H).map (Value.int .i64) ++ [.int .i64 (H x)] by rw [take_getS hx]; simp)
        obtain ⟨ao3, cap3, hv3⟩ := ownsRow_form1 HO.out
        subst hv3
        have hk2 := HND.out.2.2.2.2.1
        clear hrowl hcl hx
        go_wp2_with fail
        refine (heur1_any t kind ws H HVL.out w3 kb tb qb mb _ _ _ HT3.out HMB.out wr x HHM.out HXM.out).mono ?_
        rintro e wq ⟨rfl, hm2, hkq⟩
        have HMQ := Lib.hid hm2; have HKQ := Lib.hid (HKR.out.trans hkq)
        have HOQ := Lib.hid (hkq.ownsRow HO.out (fun k hk e => by have h1 := (World.ownsRow.lt HO.out k hk).1; have h2 := H5.out; have h3 : k = mb := e; omega))
        have hsq := HKQ.out.size
        clear hm2 hkq hc1
        go_wp2_with (at_builtin; refine wpList_append_lies _ rfl _ _ _ rfl w6.heap.size 3 i0 _ 1 8 Tryz.underlying22 hi0 hz0 hz1 hz2 rfl (by omega) _ k _ (by rfl) (HOQ.out.alloc _) ⟨wq.heap.size, 0, none⟩ 1 1 [.int .i64 (H x)] (by rfl) (by rfl) ?hnews ?hone (by omega) (by unfold maxLen; omega) (by omega) (by simp; omega) (wq.heap.size + 1) (by simp) ?_)
        case hnews => exact World.news_of_block (cs := #[.int .i64 (H x)]) (t := 3) (fr := (0, 0)) (heap_alloc_new _ _)
        case hone => simp [Value.oneCell']
        intro g2 cap2 w5 hown2 hgrow hat hlt3
        have k5 := ((Keeps.refl (fun b => (Value.slice ao3 k cap3).ownBlock = some b) wq).alloc (.cells #[.int .i64 (H x)] 3)).grown hgrow (fun k hk => .inl hk)
        have hlow : ∀ j, (Value.slice ao3 k cap3).ownBlock = some j → w6.heap.size ≤ j := fun j hj => (World.ownsRow.lt HOQ.out j hj).1
        have HFI := Lib.hid (show w5.ownsRow w6.heap.size 3 1 (.slice (some ⟨g2, 0, none⟩) (k + 1) cap2) (k + 1) (((ws.take (k + 1)).map H).map (Value.int .i64)) ∧ HeurM t kind H w3 kb tb qb mb (.slice ai t.init.length ci) (.slice ag t.goal.length cg) (.slice ao t.ops.length co) w5 ∧ Keeps (fun b => b = mb) w6 w5 from
          ⟨by rw [HTK.out]; simpa using hown2, HMQ.out.keeps k5 (fun e => by have := hlow _ e; have := H2.out; omega) (fun e => by have := hlow _ e; have := H3.out; omega) (fun e => by have := hlow _ e; have := H4.out; omega) (fun e => by have := hlow _ e; have := H5.out; omega) (fun j hj => by have := hlow j hj; have := HK6.out.size; omega),
           HKQ.out.trans' k5 (fun j hj => .inr (hlow j hj))⟩)
        clear hown2 hgrow hat k5 hlow
        go_wp2_with fail
        go_roundw
        case rel => exact ⟨k + 1, by go_num, by omega, HFI.out⟩
        case measure => simp [intOf]; omega
      · have hkn : k = ws.length := by omega
        subst hkn
        rw [List.take_of_length_le (Nat.le_refl _)] at HO
        have HFQ := Lib.hid (HF6.out.keepsS HKR.out (fun e => by have h1 := HF3.out.cells.2.2.2.2; have h2 := HMB.out; have h3 : w.heap.size + 1 = mb := e; omega) (fun i hi => by have h2 := HMB.out; have h3 : i = mb := hi; have := HF3.out.keep.size; omega))
        obtain ⟨e0, e1, z0, z1, hF⟩ := HFQ.out.cells
        have HST := Lib.hid (HFQ.out.set (.int .i64 0) (.int .i64 0))
        have HOF := Lib.hid ((keeps_pair (w := wr) (w.heap.size + 1) (.int .i64 0) (.int .i64 0)).ownsRow HO.out (fun k hk e => by have h1 := (World.ownsRow.lt HO.out k hk).1; have h2 := HF6.out.cells.2.2.2.2; have h3 : k = w.heap.size + 1 := e; omega))
        have hsz : w.heap.size ≤ w6.heap.size := HF6.out.keep.size
        go_wp2_with fail
        refine bodyPost_ret (results_tmp_cell _ _ (w.heap.size + 1) 31 #[.int .i64 0, .int .i64 0] (0, 0) _ rfl rfl HST.out.1 Tryz.underlying31 rfl (by kernel_rfl)) rfl ?_
        exact ⟨HST.out.2, .inr ⟨OK.out, l, ws, _, HX.out, HPM.out, by simpa using HSO.out, rfl, ownsRow_mono HOF.out hsz⟩⟩

end Go.Proofs.YtcpmjoabhnfddaaGreat

namespace Go.Proofs.YtcpmjoabhnfddaaGreat
open Go.RowKit

theorem stepT_run {q : List Nat} {x y : Nat} (h : runOps (wordsOf stepT.ops) x q = some y) : costN (wordsOf stepT.ops) q = 3 * (q.length : Int) ∧ ∀ k ∈ q, k = 0 := by
  have hl := runOps_lt h
  have hz : ∀ k ∈ q, k = 0 := fun k hk => by
    have h1 := hl k hk
    have h2 : (wordsOf stepT.ops).length = 1 := rfl
    omega
  refine ⟨?_, hz⟩
  clear h hl
  induction q with
  | nil => rfl
  | cons a r ih =>
    obtain rfl := hz a (by simp)
    have h1 := ih (fun k hk => hz k (by simp [hk]))
    rw [costN, h1, List.length_cons]
    have : ((wordsOf stepT.ops)[0]?.map Wop.cost).getD 0 = 3 := rfl
    rw [this]
    omega

theorem stepT_least : BestT stepT 12289 := by
  refine .inr ⟨by decide, ⟨[0], 1, by decide, by decide, by decide⟩, fun p y hr hy => ?_⟩
  have h1 := (stepT_run hr).1
  rw [wayN_split, h1]
  cases p with
  | nil =>
    simp [runOps] at hr; subst hr
    exact absurd hy (by decide)
  | cons a q => rw [List.length_cons]; omega

theorem stepT_expF : expF stepT = (0, 0) := by unfold expF; rw [if_pos (by rw [stepT_ok]), stepT_reached]

end Go.Proofs.YtcpmjoabhnfddaaGreat

namespace Go.Proofs.YtcpmjoabhnfddaaGreat
open Go.RowKit

theorem aplanStep_any (w : World) (vi vg vo : Value) (h : TaskAt w vi vg vo stepT) :
    Calls Tryz.prog 30 #[.agg #[.int .i64 1, vi, vg, vo], .int .i64 0] w fun e w' => ∃ v n, e = .returned (.tuple #[resV true v 3 n, fltV 0 0]) ∧ Ints w' v [0] ∧ 1 ≤ n ∧ n ≤ 2 ∧ Keeps (fun _ => False) w w' := by
  refine (aplanK_any w vi vg vo stepT 0 h).mono ?_
  rintro e w' ⟨hk, fnd, vp, lp, c, n, fc, fi, rfl, hi, hr, hx⟩
  rcases hr with ⟨_, hr⟩ | ⟨h1, _⟩
  · rcases hr with ⟨h1, h2, _⟩ | ⟨_, _, l, b, hl, hb, hr⟩
    · rw [stepT_expF] at h2; cases h2; exact absurd rfl h1
    · obtain rfl := LeastOf.unique hb stepT_least
      rcases hr with ⟨h1, _⟩ | ⟨_, rfl, rfl, hg⟩
      · exact absurd h1 (by decide)
      · obtain ⟨rfl, q, y, rfl, hrun, hacc, hlen, hcost, rfl⟩ := hg.some_ (by decide)
        have hz := (stepT_run hrun).2
        have hl1 : q.length = 1 := by omega
        obtain ⟨a, rfl⟩ := List.length_eq_one_iff.1 hl1
        obtain rfl := hz a (by simp)
        obtain ⟨l', ws, D, q', g1, g2, g3, g4, g5, g6⟩ := hx rfl
        have e1 : l' = [0, 1] := by have := stepT_reached.symm.trans g1; cases this; rfl
        have e2 : q' = [0] := by
          unfold intsP at g4
          have h1 := congrArg List.length g4
          simp at h1
          obtain ⟨a, rfl⟩ := List.length_eq_one_iff.1 h1.symm
          simp at g4
          have : a = 0 := by omega
          rw [this]
        subst e1 e2
        have hw : wayN 4096 1 (wordsOf stepT.ops) [0] = 12289 := by decide
        rw [hw] at g6
        have h0 : D 0 = true := g6 [] 0 rfl (fun k y hk hy => by
          have : k = 0 := by simpa using hk
          subst this
          cases hy
          show (0 : Int) + 4096 * 0 < 12289
          decide)
        have hm : (0 : Nat) ∈ ws.filter D := List.mem_filter.2 ⟨g2.mem_iff.2 (by simp), h0⟩
        have hp := List.length_pos_of_mem hm
        have hle : (ws.filter D).length ≤ 2 := by
          have h1 := List.length_filter_le D ws
          have h2 := g2.length_eq
          simp at h2; omega
        exact ⟨vp, n, rfl, hi, by omega, by omega, hk⟩
  · cases h1

theorem avalsStep_any (w : World) (vi vg vo : Value) (h : TaskAt w vi vg vo stepT) :
    Calls Tryz.prog 27 #[.agg #[.int .i64 1, vi, vg, vo], .int .i64 1] w fun e w' => ∃ v, e = .returned (.tuple #[v, fltV 0 0]) ∧ Ints w' v [3, 0] ∧ Keeps (fun _ => False) w w' := by
  refine (avals_any w vi vg vo stepT 1 (by decide) (maxH stepT) (fun ok l hl => value1_any stepT ok l (good_explored ok hl)) h).mono ?_
  rintro e w' ⟨hk, ⟨h1, _⟩ | ⟨_, l, ws, v, h1, h2, h3, rfl, h5⟩⟩
  · rw [stepT_expF] at h1; exact absurd rfl h1
  · have := stepT_ws h1 h2 h3; subst this
    have e1 : [0, 1].map (maxH stepT) = [3, 0] := by decide
    rw [e1] at h5
    exact ⟨v, rfl, Ints.of_own (l := [3, 0]) h5, hk⟩

set_option maxRecDepth 100000 in
set_option maxHeartbeats 2000000 in
theorem astarExample_any (w : World) : Calls Tryz.prog 29 #[] w fun e w' => e = .returned (.bool true) ∧ Keeps (fun _ => False) w w' := by
  go_enter Tryz.func29, Tryz.ntmps29
  go_wp2_with fail
  refine (step_any _).mono ?_; rintro e w1 ⟨vi, vg, vo, rfl, ht, hk⟩
  have HT := Lib.hid ht; have K1 := Lib.hid hk
  clear ht hk
  go_wp2_with fail
  refine (aplanStep_any _ _ _ _ HT.out).mono ?_; rintro e w2 ⟨vp, n, rfl, hp, hn1, hn2, hk⟩
  obtain ⟨ap, cp, hvp, _⟩ := hp.form
  subst hvp
  have HP := Lib.hid hp; have K2 := Lib.hid (K1.out.trans hk)
  clear hp hk HT
  simp only [resV, fltV]
  have KA := (Keeps.refl (fun _ => False) w2).alloc (.cells #[.bool true, .slice ap 1 cp, .int .i64 3, .int .i64 n] 29)
  have KB := (Keeps.refl (fun _ => False) (w2.alloc (.cells #[.bool true, .slice ap 1 cp, .int .i64 3, .int .i64 n] 29))).alloc (.cells #[.int .i64 0, .int .i64 0] 31)
  have H3 := Lib.hid (KB.heap (heap_alloc_new w2 (.cells #[.bool true, .slice ap 1 cp, .int .i64 3, .int .i64 n] 29)) (fun h => h))
  have hf := heap_alloc_new (w2.alloc (.cells #[.bool true, .slice ap 1 cp, .int .i64 3, .int .i64 n] 29)) (.cells #[.int .i64 0, .int .i64 0] 31)
  rw [World.size_alloc] at hf
  have F3 := Lib.hid hf
  have K3 := Lib.hid (K2.out.trans (KA.trans KB)); have HP3 := Lib.hid (HP.out.keeps0 (KA.trans KB))
  clear KA KB hf
  go_upto_region 2 with fail
  generalize (w2.alloc (.cells #[.bool true, .slice ap 1 cp, .int .i64 3, .int .i64 n] 29)).alloc (.cells #[.int .i64 0, .int .i64 0] 31) = w3 at H3 F3 K3 HP3 ⊢
  generalize w2.heap.size = b3 at H3 F3 ⊢
  go_wp2_with fail
  refine (step_any _).mono ?_; rintro e w4 ⟨vi2, vg2, vo2, rfl, ht, hk⟩
  have HT := Lib.hid ht; have K4 := Lib.hid (K3.out.trans hk); have HP4 := Lib.hid (HP3.out.keeps0 hk); have H4 := Lib.hid (hk.heap H3.out (fun h => h)); have F4 := Lib.hid (hk.heap F3.out (fun h => h))
  clear ht hk
  go_wp2_with fail
  refine (avalsStep_any _ _ _ _ HT.out).mono ?_; rintro e w5 ⟨vs, rfl, hvs, hk⟩
  simp only [fltV]
  have KA := (Keeps.refl (fun _ => False) w5).alloc (.cells #[.int .i64 0, .int .i64 0] 31)
  have KB := hk.trans KA
  have HVS := Lib.hid (hvs.keeps0 KA)
  have G6 := Lib.hid (heap_alloc_new w5 (.cells #[.int .i64 0, .int .i64 0] 31))
  have K6 := Lib.hid (K4.out.trans KB); have HP6 := Lib.hid (HP4.out.keeps0 KB); have H6 := Lib.hid (KB.heap H4.out (fun h => h)); have F6 := Lib.hid (KB.heap F4.out (fun h => h))
  clear hk KA KB
  go_upto_region 3 with fail
  generalize w5.alloc (.cells #[.int .i64 0, .int .i64 0] 31) = w6 at G6 K6 HP6 H6 F6 HVS ⊢
  generalize w5.heap.size = b6 at G6 ⊢
  obtain ⟨g0, g1, _, _, gl⟩ := pair_cells G6.out
  obtain ⟨f0, f1, _, _, fl⟩ := pair_cells F6.out
  obtain ⟨r0, r1, r2, r3, rl⟩ := quad_cells H6.out
  go_wp2_with fail
  refine (isOne_any _ _ _ HP6.out).mono ?_; rintro e w7 ⟨rfl, hk⟩
  have K7 := Lib.hid (K6.out.trans hk)
  have G7 := Lib.hid (hk.heap G6.out (fun h => h)); have H7 := Lib.hid (hk.heap H6.out (fun h => h)); have HV7 := Lib.hid (HVS.out.keeps0 hk)
  clear hk g0 g1 gl f0 f1 fl r0 r1 r2 r3 rl
  obtain ⟨g0, g1, _, _, gl⟩ := pair_cells G7.out
  obtain ⟨r0, r1, r2, r3, rl⟩ := quad_cells H7.out
  have hd1 : decide (1 ≤ n) = true := by simpa using hn1
  have hd2 : decide (n ≤ 2) = true := by simpa using hn2
  have KC := (Keeps.refl (fun _ => False) w7).alloc (.cells #[.int .i64 3, .int .i64 0] 3)
  have HV8 := Lib.hid (HV7.out.keeps0 KC)
  have HN8 := Lib.hid (Ints.two (heap_alloc_new w7 (.cells #[.int .i64 3, .int .i64 0] 3)))
  have K8 := Lib.hid (K7.out.trans KC)
  clear KC
  go_wp2_with fail
  refine (ints_any _ _ _ [3, 0] [3, 0] HV8.out HN8.out).mono ?_; rintro e w9 ⟨rfl, hk⟩
  have K9 := Lib.hid (K8.out.trans hk)
  clear hk
  go_wp2_with fail
  go_ret
  exact ⟨rfl, K9.out⟩

end Go.Proofs.YtcpmjoabhnfddaaGreat

namespace Go.Proofs.YtcpmjoabhnfddaaGreat
open Go.RowKit Go.Shelf

theorem planIsK_cases {t : Tsk} {b fnd : Bool} {lp : List Int} {c n fc fi : Int} (h : PlanIsK t b fnd lp c n fc fi) :
    (kindF t b = (0, 0) ∧ BPlanIs t fnd lp c n fc fi) ∨ ((kindF t b).1 ≠ 0 ∧ fc = (kindF t b).1 ∧ fi = (kindF t b).2 ∧ fnd = false ∧ lp = [] ∧ c = 0 ∧ n = 0) := by
  rcases h with ⟨rfl, h⟩ | ⟨rfl, h1, h2, h3⟩
  · rw [kindF_true]
    rcases h with ⟨h1, h2, h3⟩ | ⟨h1, h2⟩
    · rw [h2]; exact .inr ⟨h1, rfl, rfl, h3⟩
    · exact .inl ⟨h1, .inr ⟨h1, h2⟩⟩
  · rw [← h1]; exact .inr ⟨h2, rfl, rfl, h3⟩

set_option maxRecDepth 100000 in
set_option maxHeartbeats 4000000 in
theorem astarPlanLaw_any (w : World) (vi vg vo : Value) (t : Tsk) (k : Int) (h : TaskAt w vi vg vo t) :
    Calls Tryz.prog 6 #[.agg #[.int .i64 t.n, vi, vg, vo], .int .i64 k] w fun e w' => e = .returned (.bool true) ∧ Keeps (fun _ => False) w w' := by
  obtain ⟨ai, ci, h1, _⟩ := h.init.form
  obtain ⟨ag, cg, h2, _⟩ := h.goal.form
  obtain ⟨ao, co, h3, hmo⟩ := h.ops.form
  subst h1 h2 h3
  have HB := Lib.hid (Four.new w (.int .i64 t.n) (.slice ai t.init.length ci) (.slice ag t.goal.length cg) (.slice ao t.ops.length co) 25)
  have K1 := (Keeps.refl (fun _ => False) w).alloc (.cells #[.int .i64 t.n, .slice ai t.init.length ci, .slice ag t.goal.length cg, .slice ao t.ops.length co] 25)
  have HT := Lib.hid (h.keeps0 K1); have HK := Lib.hid K1
  clear h K1
  go_enter Tryz.func6, Tryz.ntmps6
  go_upto_region 1 with fail
  generalize (w.alloc (.cells #[.int .i64 t.n, .slice ai t.init.length ci, .slice ag t.goal.length cg, .slice ao t.ops.length co] 25)) = w1 at HB HT HK ⊢
  generalize w.heap.size = bt at HB ⊢
  go_wp2_with fail
  refine (astarExample_any _).mono ?_; rintro e w2 ⟨rfl, hk⟩
  have HB1 := Lib.hid (HB.out.keeps0 hk); have HT1 := Lib.hid (HT.out.keeps0 hk); have HK1 := Lib.hid (HK.out.trans hk)
  clear HB HT HK hk
  have hbxd := HB1.out.lt
  obtain ⟨d0, d1, d2, d3⟩ := HB1.out
  go_wp2_with fail
  refine (wide_any _ _ _ _ t HT1.out).mono ?_; rintro e w3 ⟨rfl, hk⟩
  clear hbxd d0 d1 d2 d3
  have HB2 := Lib.hid (HB1.out.keeps0 hk); have HT2 := Lib.hid (HT1.out.keeps0 hk); have HK2 := Lib.hid (HK1.out.trans hk)
  clear HB1 HT1 HK1 hk
  cases hwd : wideB t with
  | true =>
    go_wp2_with fail
    go_ret
    exact ⟨rfl, HK2.out⟩
  | false =>
    clear hwd
    have hbxd := HB2.out.lt
    obtain ⟨d0, d1, d2, d3⟩ := HB2.out
    go_wp2_with fail
    refine (aplanK_any _ _ _ _ t k HT2.out).mono ?_; rintro e w4 ⟨hk, fnd, vp, lp, c, n, fc, fi, rfl, hi, hr, _⟩
    obtain ⟨ap, cp, hvp, _⟩ := hi.form
    subst hvp
    have HIS := Lib.hid (planIsK_cases hr)
    clear hr hbxd d0 d1 d2 d3
    simp only [resV, fltV]
    have KA := (Keeps.refl (fun _ => False) w4).alloc (.cells #[.bool fnd, .slice ap lp.length cp, .int .i64 c, .int .i64 n] 29)
    have KB := (Keeps.refl (fun _ => False) (w4.alloc (.cells #[.bool fnd, .slice ap lp.length cp, .int .i64 c, .int .i64 n] 29))).alloc (.cells #[.int .i64 fc, .int .i64 fi] 31)
    have KC := hk.trans (KA.trans KB)
    have HB3 := Lib.hid (HB2.out.keeps0 KC); have HT3 := Lib.hid (HT2.out.keeps0 KC); have HK3 := Lib.hid (HK2.out.trans KC)
    have HR := Lib.hid (KB.heap (heap_alloc_new w4 (.cells #[.bool fnd, .slice ap lp.length cp, .int .i64 c, .int .i64 n] 29)) (fun h => h))
    have hf := heap_alloc_new (w4.alloc (.cells #[.bool fnd, .slice ap lp.length cp, .int .i64 c, .int .i64 n] 29)) (.cells #[.int .i64 fc, .int .i64 fi] 31)
    rw [World.size_alloc] at hf
    have HF := Lib.hid (hf)
    have HI := Lib.hid (hi.keeps0 (KA.trans KB))
    clear HB2 HT2 HK2 hk KA KB KC hf hi
    go_upto_region 6 with fail
    generalize (w4.alloc (.cells #[.bool fnd, .slice ap lp.length cp, .int .i64 c, .int .i64 n] 29)).alloc (.cells #[.int .i64 fc, .int .i64 fi] 31) = w5 at HB3 HT3 HK3 HR HF HI ⊢
    generalize w4.heap.size = b4 at HR HF ⊢
    have KD := (Keeps.refl (fun _ => False) w5).drew
    have HB4 := Lib.hid (HB3.out.keeps0 KD); have HT4 := Lib.hid (HT3.out.keeps0 KD); have HK4 := Lib.hid (HK3.out.trans KD); have HR4 := Lib.hid (KD.heap HR.out (fun h => h)); have HF4 := Lib.hid (KD.heap HF.out (fun h => h)); have HI4 := Lib.hid (HI.out.keeps0 KD)
    clear KD HB3 HT3 HK3 HR HF HI
    obtain ⟨r0, r1, r2, r3, rl⟩ := quad_cells HR4.out
    obtain ⟨f0, f1, _, _, fl⟩ := pair_cells HF4.out
    have hbxd := HB4.out.lt
    obtain ⟨d0, d1, d2, d3⟩ := HB4.out
    rcases HIS.out with ⟨hz, hp⟩ | ⟨hz, rfl, rfl, rfl, rfl, rfl, rfl⟩
    · have HZ := Lib.hid hz; have HP := Lib.hid hp
      clear hz hp HIS
      go_region_held3 (fun w' => w'.cell? ⟨bt, 0, none⟩ = some (.int .i64 t.n) ∧ w'.cell? ⟨bt, 1, none⟩ = some (.slice ai t.init.length ci) ∧ w'.cell? ⟨bt, 2, none⟩ = some (.slice ag t.goal.length cg) ∧ w'.cell? ⟨bt, 3, none⟩ = some (.slice ao t.ops.length co) ∧ w'.cell? ⟨b4, 0, none⟩ = some (.bool fnd) ∧ w'.cell? ⟨b4, 1, none⟩ = some (.slice ap lp.length cp) ∧ w'.cell? ⟨b4, 2, none⟩ = some (.int .i64 c) ∧ w'.cell? ⟨b4, 3, none⟩ = some (.int .i64 n) ∧ w'.cell? ⟨b4 + 1, 0, none⟩ = some (.int .i64 fc) ∧ w'.cell? ⟨b4 + 1, 1, none⟩ = some (.int .i64 fi))
        (go_keep)
        (first
          | (go_at_call 18; refine (refAdm_any k _).mono ?_; rintro en wq ⟨rfl, rfl⟩)
          | (go_at_call 17; refine (kindFault_any _ _ _ _ t (admK k) HT4.out).mono ?_; rintro en wq ⟨rfl, hkq⟩; rw [HZ.out]; have HKQ := Lib.hid hkq; have q_d0 := hkq.cell d0 (fun h => h); have q_d1 := hkq.cell d1 (fun h => h); have q_d2 := hkq.cell d2 (fun h => h); have q_d3 := hkq.cell d3 (fun h => h); have q_r0 := hkq.cell r0 (fun h => h); have q_r1 := hkq.cell r1 (fun h => h); have q_r2 := hkq.cell r2 (fun h => h); have q_r3 := hkq.cell r3 (fun h => h); have q_f0 := hkq.cell f0 (fun h => h); have q_f1 := hkq.cell f1 (fun h => h); clear hkq)
          | (go_at_call 31; refine (bestMatches_any _ _ _ _ _ t fnd lp c n fc fi (HT4.out.keeps0 HKQ.out) (HI4.out.keeps0 HKQ.out) HP.out).mono ?_; rintro en wz ⟨rfl, hkz⟩; have HKZ := Lib.hid ((HK4.out.trans HKQ.out).trans hkz); have z_d0 := hkz.cell q_d0 (fun h => h); have z_d1 := hkz.cell q_d1 (fun h => h); have z_d2 := hkz.cell q_d2 (fun h => h); have z_d3 := hkz.cell q_d3 (fun h => h); have z_r0 := hkz.cell q_r0 (fun h => h); have z_r1 := hkz.cell q_r1 (fun h => h); have z_r2 := hkz.cell q_r2 (fun h => h); have z_r3 := hkz.cell q_r3 (fun h => h); have z_f0 := hkz.cell q_f0 (fun h => h); have z_f1 := hkz.cell q_f1 (fun h => h); clear hkz))
      all_goals
        go_wp2_with fail
        go_ret
        exact ⟨rfl, HKZ.out⟩
    · obtain ⟨c', i', hci⟩ : ∃ c' i', kindF t (admK k) = (c', i') := ⟨_, _, rfl⟩
      have HCI := Lib.hid hci
      rw [hci] at hz HF4 f0 f1
      simp only at hz f0 f1
      have HZ := Lib.hid hz
      try rw [hci]
      clear hz hci HIS
      go_region_held3 (fun w' => w'.cell? ⟨bt, 0, none⟩ = some (.int .i64 t.n) ∧ w'.cell? ⟨bt, 1, none⟩ = some (.slice ai t.init.length ci) ∧ w'.cell? ⟨bt, 2, none⟩ = some (.slice ag t.goal.length cg) ∧ w'.cell? ⟨bt, 3, none⟩ = some (.slice ao t.ops.length co) ∧ w'.cell? ⟨b4, 0, none⟩ = some (.bool false) ∧ w'.cell? ⟨b4, 1, none⟩ = some (.slice ap ([] : List Int).length cp) ∧ w'.cell? ⟨b4, 2, none⟩ = some (.int .i64 0) ∧ w'.cell? ⟨b4, 3, none⟩ = some (.int .i64 0) ∧ w'.cell? ⟨b4 + 1, 0, none⟩ = some (.int .i64 c') ∧ w'.cell? ⟨b4 + 1, 1, none⟩ = some (.int .i64 i'))
        (go_keep)
        (first
          | (go_at_call 18; refine (refAdm_any k _).mono ?_; rintro en wq ⟨rfl, rfl⟩)
          | (go_at_call 17; refine (kindFault_any _ _ _ _ t (admK k) HT4.out).mono ?_; rintro en wq ⟨rfl, hkq⟩; rw [HCI.out]; have HKQ := Lib.hid hkq; have q_d0 := hkq.cell d0 (fun h => h); have q_d1 := hkq.cell d1 (fun h => h); have q_d2 := hkq.cell d2 (fun h => h); have q_d3 := hkq.cell d3 (fun h => h); have q_r0 := hkq.cell r0 (fun h => h); have q_r1 := hkq.cell r1 (fun h => h); have q_r2 := hkq.cell r2 (fun h => h); have q_r3 := hkq.cell r3 (fun h => h); have q_f0 := hkq.cell f0 (fun h => h); have q_f1 := hkq.cell f1 (fun h => h); clear hkq)
          | (go_at_call 31; refine (bestBad_any _ _ _ _ ap cp t c' i' (HT4.out.keeps0 HKQ.out) HZ.out).mono ?_; rintro en wz ⟨rfl, hkz⟩; have HKZ := Lib.hid ((HK4.out.trans HKQ.out).trans hkz); have z_d0 := hkz.cell q_d0 (fun h => h); have z_d1 := hkz.cell q_d1 (fun h => h); have z_d2 := hkz.cell q_d2 (fun h => h); have z_d3 := hkz.cell q_d3 (fun h => h); have z_r0 := hkz.cell q_r0 (fun h => h); have z_r1 := hkz.cell q_r1 (fun h => h); have z_r2 := hkz.cell q_r2 (fun h => h); have z_r3 := hkz.cell q_r3 (fun h => h); have z_f0 := hkz.cell q_f0 (fun h => h); have z_f1 := hkz.cell q_f1 (fun h => h); clear hkz))
      all_goals
        go_wp2_with fail
        go_ret
        exact ⟨rfl, HKZ.out⟩

end Go.Proofs.YtcpmjoabhnfddaaGreat

namespace Go.Proofs.YtcpmjoabhnfddaaGreat
open Go.ChangeShapes Go.WideShapes Go.ChangeAt Go.RowKit Go.Deep

theorem Lists.take {w : World} {a : Addr} {n cl m : Nat} {ls : List (List Int)} (h : Lists w (.slice (some a) n cl) ls) (hm : m ≤ ls.length) : Lists w (.slice (some a) m cl) (ls.take m) := by
  obtain ⟨ao, cap, hv, hx, hc⟩ := h
  have hl : (ls.take m).length = m := by rw [List.length_take]; omega
  refine ⟨some a, cl, by rw [hl], by rw [hl]; omega, fun h0 => ?_⟩
  rw [hl] at h0
  obtain ⟨b, off, hb, hcell⟩ := hc (by omega)
  simp only [Value.slice.injEq] at hv
  refine ⟨b, off, by rw [hv.1, hb], fun i l hi => ?_⟩
  rw [List.getElem?_take] at hi
  split at hi
  · exact hcell i l hi
  · cases hi

section
variable {H : Type} {enc : TypeId × Value → H} {P : Program} {w : World} {base : Nat} {spare : Nat → Bool} {held : Bool}
theorem trodAll_threeR {t0 t1 t2 : TypeId} {args : Array Value} {ds : List (DataW H)} {ps : List MemPlace} (h : DataW.TrodAll enc P w base spare held [t0, t1, t2] args.toList ds ps) :
    ∃ v0 v1 v2 d0 d1 d2 p0 p1 p2, args = #[v0, v1, v2] ∧ ds = [d0, d1, d2] ∧ ps = p0 ++ (p1 ++ p2) ∧ DataW.Trod enc P w base spare held t0 v0 d0 p0 ∧ DataW.Trod enc P w base spare held t1 v1 d1 p1 ∧ DataW.Trod enc P w base spare held t2 v2 d2 p2 := by
  obtain ⟨v0, vs, d0, ds0, p0, q0, hargs, rfl, rfl, h0, hrest⟩ := trodAll_cons h
  obtain ⟨v1, vs1, d1, ds1, p1, q1, rfl, rfl, rfl, h1, hrest⟩ := trodAll_cons hrest
  obtain ⟨v2, vs2, d2, ds2, p2, q2, rfl, rfl, rfl, h2, hrest⟩ := trodAll_cons hrest
  obtain ⟨rfl, rfl, rfl⟩ := trodAll_nil hrest
  exact ⟨v0, v1, v2, d0, d1, d2, p0, p1, p2, by cases args; simp_all, rfl, by simp, h0, h1, h2⟩
end

end Go.Proofs.YtcpmjoabhnfddaaGreat

namespace Go.Proofs.YtcpmjoabhnfddaaGreat
open Go.RowKit Go.Shelf

theorem bplan_agree {t : Tsk} {f f' : Bool} {p p' : List Int} {c c' n n' a a' b b' : Int} (h : BPlanIs t f p c n a b) (h' : BPlanIs t f' p' c' n' a' b') : a = a' ∧ b = b' ∧ f = f' ∧ c = c' ∧ p.length = p'.length := by
  rcases h with ⟨h1, h2, rfl, rfl, rfl, _⟩ | ⟨h1, ok, l, m, hx, hb, hh⟩
  · rcases h' with ⟨k1, k2, rfl, rfl, rfl, _⟩ | ⟨k1, _⟩
    · rw [h2] at k2; cases k2; exact ⟨rfl, rfl, rfl, rfl, rfl⟩
    · rw [h2] at k1; cases k1; exact absurd rfl h1
  · rcases h' with ⟨k1, k2, _⟩ | ⟨_, _, l', m', hx', hb', hh'⟩
    · rw [h1] at k2; cases k2; exact absurd rfl k1
    · have e : m = m' := hb.unique hb'
      subst e
      rcases hh with ⟨g1, rfl, rfl, rfl, rfl, rfl, _⟩ | ⟨g1, rfl, rfl, g⟩
      · rcases hh' with ⟨k1, rfl, rfl, rfl, rfl, rfl, _⟩ | ⟨k1, _⟩
        · exact ⟨rfl, rfl, rfl, rfl, rfl⟩
        · omega
      · rcases hh' with ⟨k1, _⟩ | ⟨k1, rfl, rfl, k⟩
        · omega
        · by_cases hm : m < 0
          · obtain ⟨rfl, rfl, rfl⟩ := g.none_ hm
            obtain ⟨rfl, rfl, rfl⟩ := k.none_ hm
            exact ⟨rfl, rfl, rfl, rfl, rfl⟩
          · obtain ⟨rfl, q, y, rfl, hr, _, hl, hc, rfl⟩ := g.some_ (by omega)
            obtain ⟨rfl, q', y', rfl, hr', _, hl', hc', rfl⟩ := k.some_ (by omega)
            refine ⟨rfl, rfl, rfl, ?_, ?_⟩
            · rw [costL_is, costL_is]; omega
            · unfold intsP; rw [List.length_map, List.length_map]; omega

end Go.Proofs.YtcpmjoabhnfddaaGreat
