/- greedy.Plan. astar.Checked at any Bool. greedy.Weighted. bothends: the example of the laws. greedy: the example of the laws. greedy: the laws' sound. GreedyWeightedMatchesSpec walked. GreedyFactorOneIsCheapest walked. No condition beyond what each theorem says. -/
import Derived.Test.YtdokakhgflljgaaGreatK9
import Derived.Test.YtdokakhgflljgaaGreatK10
import Derived.Test.YtdokakhgflljgaaGreatK13
import Derived.Test.YtdokakhgflljgaaGreatK6
import Derived.Test.YtdokakhgflljgaaGreatK8
import Derived.Deep.Cut
import Derived.Test.YtdokakhgflljgaaGreatK3
import Derived.Test.YtdokakhgflljgaaGreatK4
import Derived.Test.YtdokakhgflljgaaGreatK2
import Derived.Test.YtdokakhgflljgaaGreatK1

namespace Go.Proofs.YtdokakhgflljgaaGreat
open Go.RowKit Go.Shelf

/-- What Plan hands back. -/
def GPlanIs (t : Tsk) (k : Int) (fnd : Bool) (lp : List Int) (c n fc fi : Int) : Prop :=
  (fc ≠ 0 ∧ (fc, fi) = kindF t (decide (0 ≤ k ∧ k ≤ 5)) ∧ fnd = false ∧ lp = [] ∧ c = 0 ∧ n = 0) ∨
  ((0 ≤ k ∧ k ≤ 5) ∧ kindF t (decide (0 ≤ k ∧ k ≤ 5)) = (0, 0) ∧ t.Ok ∧ ∃ l, explored t = some l ∧
    ((Best (wordsOf t.ops) (wd t.init) (goalB (wd t.goal)) none ∧ fnd = false ∧ lp = [] ∧ c = 0 ∧ 0 ≤ n ∧ n ≤ (l.length : Int) ∧ fc = 0 ∧ fi = 0) ∨
     (∃ q y, runOps (wordsOf t.ops) (wd t.init) q = some y ∧ goalB (wd t.goal) y = true ∧ q.length ≤ 60 ∧ fnd = true ∧ lp = intsP q ∧ c = costL t lp ∧ 0 ≤ n ∧ n ≤ (l.length : Int) ∧ fc = 0 ∧ fi = 0) ∨
     (∃ p, Best (wordsOf t.ops) (wd t.init) (goalB (wd t.goal)) (some p) ∧ 60 < p.length ∧ fnd = false ∧ lp = [] ∧ c = 0 ∧ n = 0 ∧ fc = 10 ∧ fi = -9)))
def GPlanPost (t : Tsk) (k : Int) (w : World) (e : Ending) (w' : World) : Prop := Keeps (fun _ => False) w w' ∧ ∃ fnd vp lp c n fc fi, e = .returned (.tuple #[resV fnd vp c n, fltV fc fi]) ∧ Ints w' vp lp ∧ GPlanIs t k fnd lp c n fc fi

theorem Safe.perm {ops : List Wop} {l ws : List Nat} {acc : Nat → Bool} {H : Nat → Int} (h : Safe ops l acc H) (hp : ws.Perm l) : Safe ops ws acc H :=
  ⟨fun x hx => h.lo x (hp.mem_iff.1 hx), fun x hx => h.low x (hp.mem_iff.1 hx)⟩
/-- H is what the kind says of each state, and safe. -/
def SaysG (t : Tsk) (kind : Int) (H : Nat → Int) : Prop := t.Ok → ∀ l, explored t = some l → ValC t kind l H ∧ Safe (wordsOf t.ops) l (goalB (wd t.goal)) H

set_option maxRecDepth 100000 in
set_option maxHeartbeats 8000000 in
theorem gplanYes_any (w : World) (vi vg vo : Value) (t : Tsk) (kind : Int) (H : Nat → Int) (hs : SaysG t kind H) (hk : 0 ≤ kind ∧ kind ≤ 5) (h : TaskAt w vi vg vo t) :
    Calls Tryz.prog 9 #[.agg #[.int .i64 t.n, vi, vg, vo], .int .i64 kind] w (GPlanPost t kind w) := by
  obtain ⟨ai, ci, h1, _⟩ := h.init.form
  obtain ⟨ag, cg, h2, _⟩ := h.goal.form
  obtain ⟨ao, co, h3, hmo⟩ := h.ops.form
  subst h1 h2 h3
  have K1 := (Keeps.refl (fun _ => False) w).alloc (.cells #[.int .i64 t.n, .slice ai t.init.length ci, .slice ag t.goal.length cg, .slice ao t.ops.length co] 25)
  have KA := (Keeps.refl (fun _ => False) (w.alloc (.cells #[.int .i64 t.n, .slice ai t.init.length ci, .slice ag t.goal.length cg, .slice ao t.ops.length co] 25))).alloc (.cells #[.bool false, .slice none 0 0, .int .i64 0, .int .i64 0] 29)
  have KB := (Keeps.refl (fun _ => False) ((w.alloc (.cells #[.int .i64 t.n, .slice ai t.init.length ci, .slice ag t.goal.length cg, .slice ao t.ops.length co] 25)).alloc (.cells #[.bool false, .slice none 0 0, .int .i64 0, .int .i64 0] 29))).alloc (.cells #[.int .i64 0, .int .i64 0] 31)
  have HB := Lib.hid ((Four.new w (.int .i64 t.n) (.slice ai t.init.length ci) (.slice ag t.goal.length cg) (.slice ao t.ops.length co) 25).keeps0 (KA.trans KB))
  have hr := KB.heap (heap_alloc_new (w.alloc (.cells #[.int .i64 t.n, .slice ai t.init.length ci, .slice ag t.goal.length cg, .slice ao t.ops.length co] 25)) (.cells #[.bool false, .slice none 0 0, .int .i64 0, .int .i64 0] 29)) (fun h => h)
  have hf : Flt w _ _ 31 := ⟨heap_alloc_new ((w.alloc (.cells #[.int .i64 t.n, .slice ai t.init.length ci, .slice ag t.goal.length cg, .slice ao t.ops.length co] 25)).alloc (.cells #[.bool false, .slice none 0 0, .int .i64 0, .int .i64 0] 29)) (.cells #[.int .i64 0, .int .i64 0] 31), by simp; omega, K1.trans (KA.trans KB)⟩
  have HT := Lib.hid (h.keeps0 (K1.trans (KA.trans KB)))
  rw [World.size_alloc] at hr hf
  rw [World.size_alloc] at hf
  have HR := Lib.hid (show RFl w _ (w.heap.size + 1) (w.heap.size + 1 + 1) from ⟨hr, hf, by omega, by omega⟩)
  clear h K1 KA KB hr hf
  have hd0 : decide (0 ≤ kind) = true := by simpa using hk.1
  have hd5 : decide (kind ≤ 5) = true := by simpa using hk.2
  have HDK := Lib.hid (show kindF t (decide (0 ≤ kind ∧ kind ≤ 5)) = expF t by rw [decide_eq_true hk, kindF_true])
  have HKK := Lib.hid hk
  have HV := Lib.hid hs
  clear hs
  clear hk
  go_enter Tryz.func9, Tryz.ntmps9
  go_upto_region 1 with fail
  generalize (((w.alloc (.cells #[.int .i64 t.n, .slice ai t.init.length ci, .slice ag t.goal.length cg, .slice ao t.ops.length co] 25)).alloc (.cells #[.bool false, .slice none 0 0, .int .i64 0, .int .i64 0] 29)).alloc (.cells #[.int .i64 0, .int .i64 0] 31)) = w1 at HB HR HT ⊢
  have hbx := HB.out.lt
  obtain ⟨d0, d1, d2, d3⟩ := HB.out
  go_wp2_with fail
  refine (acheck_any _ _ _ _ t HT.out).mono ?_; rintro e w2 hr
  obtain ⟨pv, lv, c, i, rfl⟩ := hr.form
  have HC := Lib.hid hr
  have KA := (Keeps.refl (fun _ => False) w2).alloc (.cells #[.int .i64 c, .int .i64 i] 31)
  have KK := hr.1.trans KA
  have HR4 := Lib.hid (HR.out.keeps0 KK); have HT4 := Lib.hid (HT.out.keeps0 KK); have HB4 := Lib.hid (HB.out.keeps0 KK)
  have F0 := Lib.hid (heap_alloc_new w2 (.cells #[.int .i64 c, .int .i64 i] 31))
  have HKA := Lib.hid KA
  have HWB := Lib.hid (show w.heap.size + 1 + 1 < w1.heap.size from lt_of_heap HR.out.flt.blk)
  clear d0 d1 d2 d3 hbx hr KA KK HT HB HR
  go_upto_region 2 with fail
  generalize w2.alloc (.cells #[.int .i64 c, .int .i64 i] 31) = wz at HR4 HT4 HB4 F0 HKA ⊢
  generalize w2.heap.size = b3 at F0 ⊢
  obtain ⟨f0, f1, _, _, fl⟩ := pair_cells F0.out
  rcases HC.out.2 with ⟨hc, he⟩ | ⟨hok, hx, he⟩ | ⟨hok, l, hx, b, v, vl, ws, he, hw, hperm, hsort, hown⟩
  · obtain ⟨rfl, rfl, he2⟩ := ret_three he
    obtain ⟨rfl, rfl⟩ := agg_two he2; clear he2 he
    have NF := Lib.hid (expF_bad hc)
    have HCC := Lib.hid hc
    have hc2 : ((taskFault t).1 == 0) = false := by simpa using hc
    clear hc
    generalize hfe : taskFault t = f at hc2 NF HCC f0 f1 F0 HC HKA ⊢
    clear hfe HC
    have HFIN := Lib.hid (HR4.out.fin (.int .i64 f.1) (.int .i64 f.2))
    obtain ⟨r0, r1, r2, r3, y0, y1, y2, y3, hlR⟩ := HR4.out.cells
    obtain ⟨e0, e1, z0, z1, hF⟩ := HR4.out.flt.cells
    obtain ⟨s0, s1, s2, s3⟩ := HR4.out.ids
    go_wp2_with fail
    go_region
    all_goals
      go_wp2
      refine bodyPost_ret (results_cell_cell _ _ (w.heap.size + 1 + 1) 31 #[.int .i64 f.1, .int .i64 f.2] (0, 0) _ rfl rfl HFIN.out.2.1 Tryz.underlying31 rfl (by kernel_rfl) rfl HFIN.out.1 Tryz.underlying29 rfl (by kernel_rfl)) rfl ?_
      exact ⟨HFIN.out.2.2, false, _, [], 0, 0, f.1, f.2, rfl, Ints.nil _, .inl ⟨HCC.out, by rw [HDK.out, NF.out], rfl, rfl, rfl, rfl⟩⟩
  · obtain ⟨rfl, rfl, he2⟩ := ret_three he
    obtain ⟨rfl, rfl⟩ := agg_two he2; clear he2 he
    have NF := Lib.hid (expF_many hok hx)
    clear hok hx HC
    have HFIN := Lib.hid (HR4.out.fin (.int .i64 10) (.int .i64 (-7)))
    obtain ⟨r0, r1, r2, r3, y0, y1, y2, y3, hlR⟩ := HR4.out.cells
    obtain ⟨e0, e1, z0, z1, hF⟩ := HR4.out.flt.cells
    obtain ⟨s0, s1, s2, s3⟩ := HR4.out.ids
    go_wp2_with fail
    go_region
    all_goals
      go_wp2
      refine bodyPost_ret (results_cell_cell _ _ (w.heap.size + 1 + 1) 31 #[.int .i64 10, .int .i64 (-7)] (0, 0) _ rfl rfl HFIN.out.2.1 Tryz.underlying31 rfl (by kernel_rfl) rfl HFIN.out.1 Tryz.underlying29 rfl (by kernel_rfl)) rfl ?_
      exact ⟨HFIN.out.2.2, false, _, [], 0, 0, 10, (-7), rfl, Ints.nil _, .inl ⟨by decide, by rw [HDK.out, NF.out], rfl, rfl, rfl, rfl⟩⟩
  · obtain ⟨rfl, rfl, he2⟩ := ret_three he
    obtain ⟨rfl, rfl⟩ := agg_two he2; clear he2 he
    have HX := Lib.hid hx; have OK := Lib.hid hok; have HPM := Lib.hid hperm; have HW := Lib.hid (hw.keeps0 HKA.out)
    have HND := Lib.hid (costs_need OK.out HX.out HPM.out)
    have HXN := Lib.hid (expF_ok hok hx)
    have HVL := Lib.hid ((HV.out hok l hx).1.perm hperm); have HSF := Lib.hid ((HV.out hok l hx).2.perm hperm)
    clear hok hx hperm hw HC hsort hown HKA
    obtain ⟨d0, d1, d2, d3⟩ := HB4.out
    have hbx := HB4.out.lt
    go_wp2_with fail
    refine (heuristic_any wz _ _ _ t kind H HT4.out).mono ?_
    rintro e w6 ⟨kb, tb, qb, mb, rfl, hhm, h1, h2, h3, h4, h5, hk6⟩
    have HM6 := Lib.hid hhm
    have HK6 := Lib.hid hk6
    have HEU := Lib.hid (heur_is t kind ws H HVL.out wz kb tb qb mb wz.heap.size w6.heap.size _ _ _ HT4.out h1 h1 h2 h3 h4 h5)
    have HB6 := Lib.hid (HB4.out.keeps0 hk6); have HT6 := Lib.hid (HT4.out.keeps0 hk6); have HR6 := Lib.hid (HR4.out.keeps0 hk6)
    have HMB := Lib.hid h1
    clear d0 d1 d2 d3 hbx f0 f1 fl hhm h1 h2 h3 h4 h5 hk6
    go_wp2_with fail
    refine (gfirst_any wz w6 b (wd t.init) (wd t.goal) _ v _ ws H _ _ _ _ _ HW.out HK6.out (wops_ok OK.out) HND.out.2.2.1 HND.out.2.1 HND.out.2.2.2.1 HND.out.2.2.2.2.1 HND.out.2.2.2.2.2.1 HND.out.2.2.2.2.2.2.2 HEU.out HM6.out HSF.out).mono ?_
    rintro e w7 ⟨hk7, n, hn, hres⟩
    have K7 : Keeps (fun _ => False) wz w7 := HK6.out.trans' hk7 (fun k hk => .inr (by rw [hk]; exact HMB.out))
    have HB7 := HB4.out.keeps0 K7; have HT7 := Lib.hid (HT4.out.keeps0 K7); have HR7 := Lib.hid (HR4.out.keeps0 K7); have HW7 := Lib.hid (HW.out.past K7)
    have HN := Lib.hid (show 0 ≤ (n : Int) ∧ (n : Int) ≤ (l.length : Int) from ⟨by omega, by have := HPM.out.length_eq; omega⟩)
    have HL2 := HND.out.2.2.2.2.1
    have HSZ := HK6.out.size
    have HZ7 := hk7.size
    have HSW := lt_of_heap HR4.out.flt.blk
    have HBS := Lib.hid HB7
    obtain ⟨d0, d1, d2, d3⟩ := HB7
    have hbx := lt_of_heap HR7.out.res
    have hbx2 : w.heap.size < w7.heap.size := by omega
    have HKD := Lib.hid (show kindF t (decide (0 ≤ kind ∧ kind ≤ 5)) = (0, 0) by rw [HDK.out]; exact HXN.out)
    clear hk7 K7 HB4 HB6 HT6 HR6 HT4 HR4 HM6 HEU hn HDK
    rcases hres with ⟨hbt, rfl⟩ | ⟨q, y, v2, rfl, hrow, hql, hrun, hacc⟩
    · have HBT := Lib.hid (show Best (wordsOf t.ops) (wd t.init) (goalB (wd t.goal)) none from hbt)
      clear hbt
      go_wp2_with fail
      refine (result_any w7 _ _ _ _ t [] false (n : Int) HT7.out OK.out (Ints.nil _) (fun z hz => by simp at hz)).mono ?_
      rintro e w8 ⟨hk8, hr8⟩
      rcases hr8 with ⟨h60, rfl⟩ | ⟨h60, rfl⟩
      · simp at h60
      have HR8 := Lib.hid (HR7.out.keeps0 hk8)
      obtain ⟨r0, r1, r2, r3, x0, x1, x2, x3, hlR⟩ := HR8.out.cells
      obtain ⟨e0, e1, z0, z1, hF⟩ := HR8.out.flt.cells
      have HFIN := Lib.hid (HR8.out.set (.bool false) (.slice none 0 0) (.int .i64 (costL t [])) (.int .i64 ((n : Int))) (.int .i64 0) (.int .i64 (0)))
      simp only [resV, fltV]
      clear d0 d1 d2 d3 hbx hk8
      go_wp2_with fail
      refine bodyPost_ret (results_cell_cell _ _ (w.heap.size + 1 + 1) 31 #[.int .i64 0, .int .i64 0] (0, 0) _ rfl rfl HFIN.out.2.1 Tryz.underlying31 rfl (by kernel_rfl) rfl HFIN.out.1 Tryz.underlying29 rfl (by kernel_rfl)) rfl ?_
      exact ⟨HFIN.out.2.2.1, false, _, [], 0, (n : Int), 0, 0, rfl, Ints.nil _, .inr ⟨HKK.out, HKD.out, OK.out, l, HX.out, .inl ⟨HBT.out, rfl, rfl, rfl, HN.out.1, HN.out.2, rfl, rfl⟩⟩⟩
    · rw [show q.length = (intsP q).length from by unfold intsP; rw [List.length_map]] at hrow
      have hi := Ints.of_own hrow
      have HLO := Lib.hid (show ∀ k, v2.ownBlock = some k → w6.heap.size ≤ k from fun k hk => (hrow.lt k hk).1)
      obtain ⟨a3, c3, hv3, _⟩ := hi.form
      subst hv3
      have HI := Lib.hid hi; have HRUN := Lib.hid hrun
      have HPIN := Lib.hid (planIn_run hrun)
      have HQI := Lib.hid (show (intsP q).length = q.length by unfold intsP; rw [List.length_map])
      clear hrow hi hrun
      by_cases h60 : (intsP q).length ≤ 60
      · have H60 := Lib.hid (show q.length ≤ 60 by have := HQI.out; omega)
        have hd60 : decide ((60 : Int) < ((intsP q).length : Int)) = false := by simp; omega
        go_wp2_with fail
        refine (aresult_fit w7 _ _ _ _ t (intsP q) true (n : Int) HT7.out OK.out HI.out HPIN.out h60).mono ?_
        rintro e w8 ⟨rfl, hk8⟩
        have HI8 := Lib.hid (HI.out.keeps0 hk8)
        have HR8 := Lib.hid (HR7.out.keeps0 hk8)
        obtain ⟨r0, r1, r2, r3, x0, x1, x2, x3, hlR⟩ := HR8.out.cells
        obtain ⟨e0, e1, z0, z1, hF⟩ := HR8.out.flt.cells
        have HFIN := Lib.hid (HR8.out.set (.bool true) (.slice a3 (intsP q).length c3) (.int .i64 (costL t (intsP q))) (.int .i64 ((n : Int))) (.int .i64 0) (.int .i64 (0)))
        clear d0 d1 d2 d3 hbx hk8
        go_wp2_with fail
        refine bodyPost_ret (results_cell_cell _ _ (w.heap.size + 1 + 1) 31 #[.int .i64 0, .int .i64 0] (0, 0) _ rfl rfl HFIN.out.2.1 Tryz.underlying31 rfl (by kernel_rfl) rfl HFIN.out.1 Tryz.underlying29 rfl (by kernel_rfl)) rfl ?_
        refine ⟨HFIN.out.2.2.1, true, _, _, _, (n : Int), 0, 0, rfl, ?_, .inr ⟨HKK.out, HKD.out, OK.out, l, HX.out, .inr (.inl ⟨q, y, HRUN.out, hacc, H60.out, rfl, rfl, rfl, HN.out.1, HN.out.2, rfl, rfl⟩)⟩⟩
        refine HI8.out.keepsS HFIN.out.2.2.2 (fun h0 j hj e' => ?_)
        have h1 := HLO.out j hj
        omega
      · have hd60 : decide ((60 : Int) < ((intsP q).length : Int)) = true := by simp; omega
        have HQ := Lib.hid (And.intro HRUN.out hacc)
        clear HI HLO HPIN
        go_wp2_with fail
        refine (first_any w7 b (wd t.init) (wd t.goal) _ v (wordsOf t.ops) HW7.out (wops_ok OK.out) HND.out.2.2.1 (wd_lt32 (by have := OK.out.n1; omega : t.n ≤ 32) OK.out.init) l HX.out _ _ _ (goalB (wd t.goal)) (asked_goal w7 _ b _ _ v _ HW7.out HND.out.2.1)).mono ?_
        rintro e w9 ⟨hk9, hr9⟩
        have HB9 := HBS.out.keeps0 hk9; have HT9 := Lib.hid (HT7.out.keeps0 hk9); have HR9 := Lib.hid (HR7.out.keeps0 hk9)
        have hbx9 := lt_of_heap HR9.out.res
        have hbx29 : w.heap.size < w9.heap.size := by omega
        have HZ9 := hk9.size
        clear d0 d1 d2 d3 hk9 HT7 HR7
        obtain ⟨d0, d1, d2, d3⟩ := HB9
        rcases hr9 with ⟨hbest, rfl⟩ | ⟨p, hbest, v', rfl, hown⟩
        · have h1 := hbest q y HQ.out.1
          rw [HQ.out.2] at h1; cases h1
        · rw [show p.length = (intsP p).length from by unfold intsP; rw [List.length_map]] at hown
          have hi := Ints.of_own hown
          have HLO := Lib.hid (show ∀ k, v'.ownBlock = some k → w7.heap.size ≤ k from fun k hk => (hown.lt k hk).1)
          obtain ⟨a3, c3, hv3, _⟩ := hi.form
          subst hv3
          have HBE := Lib.hid hbest
          obtain ⟨⟨y2, hrun2, hacc2⟩, _⟩ := hbest
          have HI := Lib.hid hi; have HRN2 := Lib.hid (And.intro hrun2 hacc2)
          have HPIN := Lib.hid (planIn_run hrun2)
          have HPI := Lib.hid (show (intsP p).length = p.length by unfold intsP; rw [List.length_map])
          clear hown hi hrun2 hacc2
          have HR7 := HR9
          by_cases h61 : (intsP p).length ≤ 60
          · have H61 := Lib.hid (show p.length ≤ 60 by have := HPI.out; omega)
            go_wp2_with fail
            refine (aresult_fit w9 _ _ _ _ t (intsP p) true (n : Int) HT9.out OK.out HI.out HPIN.out h61).mono ?_
            rintro e w8 ⟨rfl, hk8⟩
            have HI8 := Lib.hid (HI.out.keeps0 hk8)
            have HR8 := Lib.hid (HR7.out.keeps0 hk8)
            obtain ⟨r0, r1, r2, r3, x0, x1, x2, x3, hlR⟩ := HR8.out.cells
            obtain ⟨e0, e1, z0, z1, hF⟩ := HR8.out.flt.cells
            have HFIN := Lib.hid (HR8.out.set (.bool true) (.slice a3 (intsP p).length c3) (.int .i64 (costL t (intsP p))) (.int .i64 ((n : Int))) (.int .i64 0) (.int .i64 (0)))
            clear d0 d1 d2 d3 hbx hk8
            go_wp2_with fail
            refine bodyPost_ret (results_cell_cell _ _ (w.heap.size + 1 + 1) 31 #[.int .i64 0, .int .i64 0] (0, 0) _ rfl rfl HFIN.out.2.1 Tryz.underlying31 rfl (by kernel_rfl) rfl HFIN.out.1 Tryz.underlying29 rfl (by kernel_rfl)) rfl ?_
            refine ⟨HFIN.out.2.2.1, true, _, _, _, (n : Int), 0, 0, rfl, ?_, .inr ⟨HKK.out, HKD.out, OK.out, l, HX.out, .inr (.inl ⟨p, y2, HRN2.out.1, HRN2.out.2, H61.out, rfl, rfl, rfl, HN.out.1, HN.out.2, rfl, rfl⟩)⟩⟩
            refine HI8.out.keepsS HFIN.out.2.2.2 (fun h0 j hj e' => ?_)
            have h1 := HLO.out j hj
            omega
          · have H61 := Lib.hid (show 60 < p.length by have := HPI.out; omega)
            go_wp2_with fail
            refine (aresult_long w9 _ _ _ _ t (intsP p) true (n : Int) HT9.out OK.out HI.out HPIN.out (by omega)).mono ?_
            rintro e w8 ⟨rfl, hk8⟩
            have HR8 := Lib.hid (HR7.out.keeps0 hk8)
            obtain ⟨r0, r1, r2, r3, x0, x1, x2, x3, hlR⟩ := HR8.out.cells
            obtain ⟨e0, e1, z0, z1, hF⟩ := HR8.out.flt.cells
            have HFIN := Lib.hid (HR8.out.set (.bool false) (.slice none 0 0) (.int .i64 (0)) (.int .i64 (0)) (.int .i64 10) (.int .i64 (-9)))
            clear d0 d1 d2 d3 hbx hk8
            go_wp2_with fail
            refine bodyPost_ret (results_cell_cell _ _ (w.heap.size + 1 + 1) 31 #[.int .i64 10, .int .i64 (-9)] (0, 0) _ rfl rfl HFIN.out.2.1 Tryz.underlying31 rfl (by kernel_rfl) rfl HFIN.out.1 Tryz.underlying29 rfl (by kernel_rfl)) rfl ?_
            exact ⟨HFIN.out.2.2.1, false, _, [], 0, 0, 10, -9, rfl, Ints.nil _, .inr ⟨HKK.out, HKD.out, OK.out, l, HX.out, .inr (.inr ⟨p, HBE.out, H61.out, rfl, rfl, rfl, rfl, rfl, rfl⟩)⟩⟩

theorem gplanM_any (w : World) (vi vg vo : Value) (t : Tsk) (kind : Int) (ha : admK kind = true) (hk : 0 ≤ kind ∧ kind ≤ 5) (h : TaskAt w vi vg vo t) :
    Calls Tryz.prog 9 #[.agg #[.int .i64 t.n, vi, vg, vo], .int .i64 kind] w (GPlanPost t kind w) :=
  gplanYes_any w vi vg vo t kind (kindH t kind) (fun ok l hx => ⟨(says_kind ha t l ok hx).1, ⟨fun x hxl => ((says_kind ha t l ok hx).2.lo x hxl).1, fun x hxl p y h1 h2 => ((says_kind ha t l ok hx).2.low x hxl p y h1 h2).2⟩⟩) hk h

end Go.Proofs.YtdokakhgflljgaaGreat

namespace Go.Proofs.YtdokakhgflljgaaGreat
open Go.RowKit Go.Shelf

/-- What Checked says, at a kind that is permitted or not: the space p, or the fault (c, i). -/
def CkR (t : Tsk) (pb : Bool) (w : World) (p : Value) (c i : Int) (w' : World) : Prop := Keeps (fun _ => False) w w' ∧
  ((c ≠ 0 ∧ (c, i) = kindF t pb) ∨ (c = 0 ∧ i = 0 ∧ pb = true ∧ t.Ok ∧ ∃ l, explored t = some l ∧ ∃ (b : Nat) (v : Value) (ws : List Nat), p = .pointer (some ⟨b, 0, none⟩) ∧ WordsAt w' w.heap.size b (wd t.init) (wd t.goal) v (wordsOf t.ops) ∧ ws.Perm l))
theorem CkR.past {t : Tsk} {pb : Bool} {w w1 w2 w' : World} {p : Value} {c i : Int} {S : Nat → Prop} (h : CkR t pb w1 p c i w2) (hz : w.heap.size ≤ w1.heap.size) (hk : Keeps S w2 w') (hS : ∀ k, S k → k < w1.heap.size) (k0 : Keeps (fun _ => False) w w') : CkR t pb w p c i w' := by
  refine ⟨k0, ?_⟩
  rcases h.2 with h | ⟨h1, h2, h3, ok, l, hx, b, v, ws, he, hw, hp⟩
  · exact .inl h
  · exact .inr ⟨h1, h2, h3, ok, l, hx, b, v, ws, he, (hw.keepsS hk (fun h => by have := hS _ h; have := hw.low; omega) (fun k hk' h => by have := hS _ h; have := (hw.own.lt k hk').1; omega)).mono hz, hp⟩
theorem CkR.past1 {t : Tsk} {pb : Bool} {w w1 w2 : World} {p : Value} {c i : Int} {b : Nat} {x y : Value} (h : CkR t pb w1 p c i w2) (hz : w.heap.size ≤ b) (hb : b < w1.heap.size) (k : Keeps (fun _ => False) w w1) : CkR t pb w p c i ((w2.setCell ⟨b, 0, none⟩ x).setCell ⟨b, 1, none⟩ y) :=
  h.past k.size (keeps_pair (w := w2) b x y) (fun k hk => by rw [hk]; exact hb) ((k.trans h.1).trans' (keeps_pair (w := w2) b x y) (fun k hk => .inr (by omega)))
theorem CkR.past2 {t : Tsk} {pb : Bool} {w w1 w2 : World} {p : Value} {c i : Int} {o : Obj} (h : CkR t pb w1 p c i w2) (k : Keeps (fun _ => False) w w1) : CkR t pb w p c i (w2.alloc o) :=
  h.past k.size ((Keeps.refl (fun _ => False) w2).alloc o) (fun _ h => h.elim) ((k.trans h.1).alloc o)
theorem acheckB_any (w : World) (vi vg vo : Value) (t : Tsk) (pb : Bool) (h : TaskAt w vi vg vo t) :
    Calls Tryz.prog 29 #[.agg #[.int .i64 t.n, vi, vg, vo], .bool pb] w fun e w' => ∃ pv lv c i, e = .returned (.tuple #[.pointer pv, lv, .agg #[.int .i64 c, .int .i64 i]]) ∧ CkR t pb w (.pointer pv) c i w' := by
  cases pb with
  | false =>
    refine (acheckNo_any w vi vg vo t h).mono ?_
    rintro e w' ⟨pv, lv, c, i, h1, h2, h3, h4⟩
    exact ⟨pv, lv, c, i, h1, h4, .inl ⟨h3, h2⟩⟩
  | true =>
    refine (acheck_any w vi vg vo t h).mono ?_
    rintro e w' ⟨hk, hr⟩
    rcases hr with ⟨hc, he⟩ | ⟨hok, hx, he⟩ | ⟨hok, l, hx, b, v, vl, ws, he, hw, hp, _, _⟩
    · exact ⟨_, _, _, _, he, hk, .inl ⟨hc, by rw [kindF_true, expF_bad hc]⟩⟩
    · exact ⟨_, _, _, _, he, hk, .inl ⟨by decide, by rw [kindF_true, expF_many hok hx]⟩⟩
    · exact ⟨_, _, _, _, he, hk, .inr ⟨rfl, rfl, rfl, hok, l, hx, b, v, ws, rfl, hw, hp⟩⟩

end Go.Proofs.YtdokakhgflljgaaGreat

namespace Go.Proofs.YtdokakhgflljgaaGreat
open Go.RowKit Go.Shelf

theorem RFl.keepsS {w w1 w2 : World} {R F : Nat} {S : Nat → Prop} (h : RFl w w1 R F) (hk : Keeps S w1 w2) (h1 : ¬ S R) (h2 : ¬ S F) (h3 : ∀ i, S i → w.heap.size ≤ i) : RFl w w2 R F := ⟨hk.heap h.res h1, h.flt.keepsS hk h2 h3, h.base, h.ne⟩
/-- The fault of a factor, behind that of Checked. -/
def wtdF (p : Int × Int) (f : Int) : Int × Int := if ((p.1 = 0 ∧ p.2 = 0) ∨ p.2 = -7) ∧ ¬ (1 ≤ f ∧ f ≤ 10) then (3, -8) else p
/-- What Weighted hands back. -/
def GWIs (t : Tsk) (k f : Int) (fnd : Bool) (lp : List Int) (c n fc fi : Int) : Prop :=
  (fc ≠ 0 ∧ (fc, fi) = wtdF (kindF t (admK k)) f ∧ fnd = false ∧ lp = [] ∧ c = 0 ∧ n = 0) ∨
  (admK k = true ∧ (1 ≤ f ∧ f ≤ 10) ∧ kindF t (admK k) = (0, 0) ∧ t.Ok ∧ ∃ l, explored t = some l ∧
    ((Best (wordsOf t.ops) (wd t.init) (goalB (wd t.goal)) none ∧ fnd = false ∧ lp = [] ∧ c = 0 ∧ 0 ≤ n ∧ n ≤ (l.length : Int) ∧ fc = 0 ∧ fi = 0) ∨
     (∃ q y, runOps (wordsOf t.ops) (wd t.init) q = some y ∧ goalB (wd t.goal) y = true ∧ q.length ≤ 60 ∧ fnd = true ∧ lp = intsP q ∧ c = costL t lp ∧ 0 ≤ n ∧ n ≤ (l.length : Int) ∧ fc = 0 ∧ fi = 0 ∧
        ∀ r z, runOps (wordsOf t.ops) (wd t.init) r = some z → goalB (wd t.goal) z = true → wayN 4096 1 (wordsOf t.ops) q ≤ wayK f (wordsOf t.ops) r) ∨
     (∃ b, BestT t b ∧ 0 ≤ b ∧ 60 < stepsB b ∧ fnd = false ∧ lp = [] ∧ c = 0 ∧ n = 0 ∧ fc = 10 ∧ fi = -9)))
def GWPost (t : Tsk) (k f : Int) (w : World) (e : Ending) (w' : World) : Prop := Keeps (fun _ => False) w w' ∧ ∃ fnd vp lp c n fc fi, e = .returned (.tuple #[resV fnd vp c n, fltV fc fi]) ∧ Ints w' vp lp ∧ GWIs t k f fnd lp c n fc fi
theorem wtd_le {f : Int} {ops : List Wop} (h0 : ∀ o ∈ ops, 0 ≤ o.cost ∧ o.cost ≤ 100) (hf : 1 ≤ f) (q : List Nat) : wayN 4096 1 ops q ≤ wayK f ops q := by
  have h5 : 1 * costN ops q ≤ f * costN ops q := Int.mul_le_mul_of_nonneg_right hf (costN_bound h0 q).1
  rw [wayN_split]; unfold wayK; omega
theorem least_no {ops : List Wop} {s : Nat} {acc : Nat → Bool} (h : LeastOf 4096 1 ops s acc (-1)) : Best ops s acc none := by
  rcases h with ⟨_, h⟩ | ⟨h, _⟩
  · exact h
  · omega

set_option maxRecDepth 100000 in
set_option maxHeartbeats 8000000 in
theorem gweight_any (w : World) (vi vg vo : Value) (t : Tsk) (k f : Int) (h : TaskAt w vi vg vo t) :
    Calls Tryz.prog 19 #[.agg #[.int .i64 t.n, vi, vg, vo], .int .i64 k, .int .i64 f] w (GWPost t k f w) := by
  obtain ⟨ai, ci, h1, _⟩ := h.init.form
  obtain ⟨ag, cg, h2, _⟩ := h.goal.form
  obtain ⟨ao, co, h3, hmo⟩ := h.ops.form
  subst h1 h2 h3
  have hsf : ∀ (a : Addr) (fn : Fn) (first cap : Array Value) (m : Mode) (w : World), (store a (.func fn first cap) m).run Tryz.prog w = stored Tryz.prog w a (.func fn first cap) m := fun a fn first cap m w => run_store Tryz.prog w a _ m rfl
  have hmf : ∀ (fn : Fn) (first cap : Array Value) (w : World), (Instr.makeFunc fn first cap).run Tryz.prog w = .ok (.func fn first cap) w := fun _ _ _ _ => rfl
  have K1 := (Keeps.refl (fun _ => False) w).alloc (.cells #[.int .i64 t.n, .slice ai t.init.length ci, .slice ag t.goal.length cg, .slice ao t.ops.length co] 25)
  have KX := (Keeps.refl (fun _ => False) (w.alloc (.cells #[.int .i64 t.n, .slice ai t.init.length ci, .slice ag t.goal.length cg, .slice ao t.ops.length co] 25))).alloc (.cells #[.int .i64 f] 3)
  have KA := (Keeps.refl (fun _ => False) ((w.alloc (.cells #[.int .i64 t.n, .slice ai t.init.length ci, .slice ag t.goal.length cg, .slice ao t.ops.length co] 25)).alloc (.cells #[.int .i64 f] 3))).alloc (.cells #[.bool false, .slice none 0 0, .int .i64 0, .int .i64 0] 29)
  have KB := (Keeps.refl (fun _ => False) (((w.alloc (.cells #[.int .i64 t.n, .slice ai t.init.length ci, .slice ag t.goal.length cg, .slice ao t.ops.length co] 25)).alloc (.cells #[.int .i64 f] 3)).alloc (.cells #[.bool false, .slice none 0 0, .int .i64 0, .int .i64 0] 29))).alloc (.cells #[.int .i64 0, .int .i64 0] 31)
  have HB := Lib.hid ((Four.new w (.int .i64 t.n) (.slice ai t.init.length ci) (.slice ag t.goal.length cg) (.slice ao t.ops.length co) 25).keeps0 (KX.trans (KA.trans KB)))
  have hx := (KA.trans KB).heap (heap_alloc_new (w.alloc (.cells #[.int .i64 t.n, .slice ai t.init.length ci, .slice ag t.goal.length cg, .slice ao t.ops.length co] 25)) (.cells #[.int .i64 f] 3)) (fun h => h)
  have hr := KB.heap (heap_alloc_new ((w.alloc (.cells #[.int .i64 t.n, .slice ai t.init.length ci, .slice ag t.goal.length cg, .slice ao t.ops.length co] 25)).alloc (.cells #[.int .i64 f] 3)) (.cells #[.bool false, .slice none 0 0, .int .i64 0, .int .i64 0] 29)) (fun h => h)
  have hf : Flt w _ _ 31 := ⟨heap_alloc_new (((w.alloc (.cells #[.int .i64 t.n, .slice ai t.init.length ci, .slice ag t.goal.length cg, .slice ao t.ops.length co] 25)).alloc (.cells #[.int .i64 f] 3)).alloc (.cells #[.bool false, .slice none 0 0, .int .i64 0, .int .i64 0] 29)) (.cells #[.int .i64 0, .int .i64 0] 31), by simp; omega, K1.trans (KX.trans (KA.trans KB))⟩
  have HT := Lib.hid (h.keeps0 (K1.trans (KX.trans (KA.trans KB))))
  simp only [World.size_alloc] at hr hf hx
  have HR := Lib.hid (show RFl w _ (w.heap.size + 1 + 1) (w.heap.size + 1 + 1 + 1) from ⟨hr, hf, by omega, by omega⟩)
  have HX5 := Lib.hid hx
  clear h K1 KX KA KB hr hf hx
  go_enter Tryz.func19, Tryz.ntmps19
  go_upto_region 1 with fail
  generalize ((((w.alloc (.cells #[.int .i64 t.n, .slice ai t.init.length ci, .slice ag t.goal.length cg, .slice ao t.ops.length co] 25)).alloc (.cells #[.int .i64 f] 3)).alloc (.cells #[.bool false, .slice none 0 0, .int .i64 0, .int .i64 0] 29)).alloc (.cells #[.int .i64 0, .int .i64 0] 31)) = w1 at HB HR HT HX5 ⊢
  go_cut [8, 10] from 15 (fun s8 s10 wc => ∃ (b10 : Nat) (c i : Int), s10 = .pointer (some ⟨b10, 0, none⟩) ∧ wc.heap[b10]? = some (.cells #[.int .i64 c, .int .i64 i] 31 (0, 0)) ∧ w1.heap.size ≤ b10 ∧ CkR t (admK k) w1 s8 c i wc)
  case first =>
    have KD : Keeps (fun _ => False) w1 w1.drew := (Keeps.refl (fun _ => False) w1).drew
    have KA : Keeps (fun _ => False) w1.drew (w1.alloc (.cells #[.int .i64 0, .int .i64 0] 31)).drew := by
      have h := (Keeps.refl (fun _ => False) w1.drew).alloc (.cells #[.int .i64 0, .int .i64 0] 31)
      exact h
    have HTD := Lib.hid (HT.out.keeps0 KD); have HKD := Lib.hid KD; have HKA := Lib.hid KA
    have HZ8 := Lib.hid (show (w1.alloc (.cells #[.int .i64 0, .int .i64 0] 31)).drew.heap[w1.heap.size]? = some (.cells #[.int .i64 0, .int .i64 0] 31 (0, 0)) from heap_alloc_new w1 _)
    have HB1 := HB.out.keeps0 KD
    have hbx := HB1.lt
    have HBX := Lib.hid (show w.heap.size < w1.heap.size from HB.out.lt)
    have HWZ := Lib.hid (show w1.heap.size ≤ (w1.drew).heap.size from Nat.le_refl _)
    obtain ⟨d0, d1, d2, d3⟩ := HB1
    obtain ⟨d0', d1', d2', d3'⟩ := (HB.out.keeps0 KD).keeps0 KA
    clear KD KA
    go_region_held3 (fun w' => w'.cell? ⟨w.heap.size, 0, none⟩ = some (.int .i64 t.n) ∧ w'.cell? ⟨w.heap.size, 1, none⟩ = some (.slice ai t.init.length ci) ∧ w'.cell? ⟨w.heap.size, 2, none⟩ = some (.slice ag t.goal.length cg) ∧ w'.cell? ⟨w.heap.size, 3, none⟩ = some (.slice ao t.ops.length co))
      (first | go_keep | with_reducible exact ⟨(keeps_pair (w := w9) w1.heap.size (.int .i64 fc) (.int .i64 fi)).cell t0 (show ¬ w.heap.size = w1.heap.size by have := HBX.out; omega), (keeps_pair (w := w9) w1.heap.size (.int .i64 fc) (.int .i64 fi)).cell t1 (show ¬ w.heap.size = w1.heap.size by have := HBX.out; omega), (keeps_pair (w := w9) w1.heap.size (.int .i64 fc) (.int .i64 fi)).cell t2 (show ¬ w.heap.size = w1.heap.size by have := HBX.out; omega), (keeps_pair (w := w9) w1.heap.size (.int .i64 fc) (.int .i64 fi)).cell t3 (show ¬ w.heap.size = w1.heap.size by have := HBX.out; omega)⟩)
      (first
        | (go_at_call 44; refine (admissible_any k _).mono ?_; rintro e wq ⟨rfl, rfl⟩)
        | (go_at_call 29; refine (acheckB_any _ _ _ _ t (admK k) HTD.out).mono ?_; rintro e w9 ⟨pv, lv, fc, fi, rfl, hr⟩; have HCP := Lib.hid hr; have hk := hr.1; have HKZ := Lib.hid hk.size; have t0 := hk.cell d0 (fun h => h); have t1 := hk.cell d1 (fun h => h); have t2 := hk.cell d2 (fun h => h); have t3 := hk.cell d3 (fun h => h); clear hk hr)
        | (go_at_call 29; refine (acheckB_any _ _ _ _ t (admK k) (HTD.out.keeps0 HKA.out)).mono ?_; rintro e w9 ⟨pv, lv, fc, fi, rfl, hr⟩; have HCP := Lib.hid hr; have hk := hr.1; have HZ9 := Lib.hid (hk.heap HZ8.out (fun h => h)); obtain ⟨q0, q1, y0, y1, hl6⟩ := pair_cells HZ9.out; have t0 := hk.cell d0' (fun h => h); have t1 := hk.cell d1' (fun h => h); have t2 := hk.cell d2' (fun h => h); have t3 := hk.cell d3' (fun h => h); clear hk hr))
    all_goals
      first
        | (have HFI := Lib.hid (And.intro (pair_set HZ9.out (.int .i64 fc) (.int .i64 fi)) (And.intro (Nat.le_refl w1.heap.size) (HCP.out.past1 (w := w1) (b := w1.heap.size) (x := .int .i64 fc) (y := .int .i64 fi) (Nat.le_refl _) (lt_of_heap HZ8.out) (HKD.out.trans HKA.out))))
           clear t0 t1 t2 t3 q0 q1 y0 y1 HZ9 hl6 HCP
           go_wp2
           go_meet
           case rel => exact ⟨_, fc, fi, rfl, HFI.out⟩)
        | (have HFI := Lib.hid (And.intro (heap_alloc_new w9 (.cells #[.int .i64 fc, .int .i64 fi] 31)) (And.intro (show w1.heap.size ≤ w9.heap.size from HKZ.out) (HCP.out.past2 (w := w1) (o := .cells #[.int .i64 fc, .int .i64 fi] 31) HKD.out)))
           clear t0 t1 t2 t3 HCP
           go_wp2
           go_meet
           case rel => exact ⟨_, fc, fi, rfl, HFI.out⟩)
  case rest =>
    obtain ⟨b10, c, i, rfl, hb10, hl10, hck⟩ := hcut
    have HB10 := Lib.hid hb10
    have HB4 := Lib.hid (HB.out.keeps0 hck.1); have HT4 := Lib.hid (HT.out.keeps0 hck.1); have HR4 := Lib.hid (HR.out.keeps0 hck.1); have HX4 := Lib.hid (hck.1.heap HX5.out (fun h => h))
    have HCK := Lib.hid hck.2
    have hw1 := lt_of_heap HR.out.flt.blk
    have hwc := hck.1.size
    obtain ⟨f0, f1, y0, y1, hlf⟩ := pair_cells hb10
    have x5c : wc.cell? ⟨w.heap.size + 1, 0, none⟩ = some (.int .i64 f) := (cell_of_blk HX4.out).trans rfl
    have x5l := lt_of_heap HX4.out
    clear hb10 hck HB HT HR HX5
    rcases HCK.out with ⟨hc, hke⟩ | ⟨rfl, rfl, had, ok, l, hx, b, v, ws, rfl, hw, hp⟩
    · have hcb : (c == 0) = false := by simpa using hc
      have HKE := Lib.hid (And.intro hc hke)
      clear hc hke HCK
      by_cases h7 : i = -7
      · subst h7
        by_cases hf1 : f < 1
        · have hd1 : decide (f < 1) = true := by simpa using hf1
          have HPF := Lib.hid (show (3, -8) = wtdF (kindF t (admK k)) f from by rw [← HKE.out.2]; unfold wtdF; rw [if_pos ⟨.inr rfl, by omega⟩])
          have HF0 := Lib.hid (pair_set HB10.out (.int .i64 3) (.int .i64 (-8)))
          have HR5 := Lib.hid (HR4.out.keepsS (keeps_pair (w := wc) b10 (.int .i64 3) (.int .i64 (-8))) (fun e => by have e' : w.heap.size + 1 + 1 = b10 := e; omega) (fun e => by have e' : w.heap.size + 1 + 1 + 1 = b10 := e; omega) (fun i hi => by rw [hi]; omega))
          go_upto_region 4 with fail
          clear f0 f1 y0 y1 hlf HR4
          generalize (wc.setCell ⟨b10, 0, none⟩ (.int .i64 3)).setCell ⟨b10, 1, none⟩ (.int .i64 (-8)) = wd3 at HF0 HR5 ⊢
          have HR4 := HR5
          obtain ⟨f0, f1, _, _, hlf⟩ := pair_cells HF0.out
          clear HR5
          have HFIN := Lib.hid (HR4.out.fin (.int .i64 (3)) (.int .i64 (-8)))
          obtain ⟨r0, r1, r2, r3, y0, y1, y2, y3, hlR⟩ := HR4.out.cells
          obtain ⟨e0, e1, z0, z1, hF⟩ := HR4.out.flt.cells
          obtain ⟨s0, s1, s2, s3⟩ := HR4.out.ids
          go_wp2_with fail
          go_region
          all_goals
            go_wp2
            refine bodyPost_ret (results_cell_cell _ _ (w.heap.size + 1 + 1 + 1) 31 #[.int .i64 (3), .int .i64 (-8)] (0, 0) _ rfl rfl HFIN.out.2.1 Tryz.underlying31 rfl (by kernel_rfl) rfl HFIN.out.1 Tryz.underlying29 rfl (by kernel_rfl)) rfl ?_
            exact ⟨HFIN.out.2.2, false, _, [], 0, 0, 3, -8, rfl, Ints.nil _, .inl ⟨by decide, HPF.out, rfl, rfl, rfl, rfl⟩⟩
        · have hd1 : decide (f < 1) = false := by simpa using hf1
          by_cases hf2 : 10 < f
          · have hd2 : decide (10 < f) = true := by simpa using hf2
            have HPF := Lib.hid (show (3, -8) = wtdF (kindF t (admK k)) f from by rw [← HKE.out.2]; unfold wtdF; rw [if_pos ⟨.inr rfl, by omega⟩])
            have HF0 := Lib.hid (pair_set HB10.out (.int .i64 3) (.int .i64 (-8)))
            have HR5 := Lib.hid (HR4.out.keepsS (keeps_pair (w := wc) b10 (.int .i64 3) (.int .i64 (-8))) (fun e => by have e' : w.heap.size + 1 + 1 = b10 := e; omega) (fun e => by have e' : w.heap.size + 1 + 1 + 1 = b10 := e; omega) (fun i hi => by rw [hi]; omega))
            go_upto_region 4 with fail
            clear f0 f1 y0 y1 hlf HR4
            generalize (wc.setCell ⟨b10, 0, none⟩ (.int .i64 3)).setCell ⟨b10, 1, none⟩ (.int .i64 (-8)) = wd3 at HF0 HR5 ⊢
            have HR4 := HR5
            obtain ⟨f0, f1, _, _, hlf⟩ := pair_cells HF0.out
            clear HR5
            have HFIN := Lib.hid (HR4.out.fin (.int .i64 (3)) (.int .i64 (-8)))
            obtain ⟨r0, r1, r2, r3, y0, y1, y2, y3, hlR⟩ := HR4.out.cells
            obtain ⟨e0, e1, z0, z1, hF⟩ := HR4.out.flt.cells
            obtain ⟨s0, s1, s2, s3⟩ := HR4.out.ids
            go_wp2_with fail
            go_region
            all_goals
              go_wp2
              refine bodyPost_ret (results_cell_cell _ _ (w.heap.size + 1 + 1 + 1) 31 #[.int .i64 (3), .int .i64 (-8)] (0, 0) _ rfl rfl HFIN.out.2.1 Tryz.underlying31 rfl (by kernel_rfl) rfl HFIN.out.1 Tryz.underlying29 rfl (by kernel_rfl)) rfl ?_
              exact ⟨HFIN.out.2.2, false, _, [], 0, 0, 3, -8, rfl, Ints.nil _, .inl ⟨by decide, HPF.out, rfl, rfl, rfl, rfl⟩⟩
          · have hd2 : decide (10 < f) = false := by simpa using hf2
            have HPF := Lib.hid (show (c, -7) = wtdF (kindF t (admK k)) f from by rw [← HKE.out.2]; unfold wtdF; rw [if_neg (fun h => h.2 (by omega))])
            have HFIN := Lib.hid (HR4.out.fin (.int .i64 (c)) (.int .i64 (-7)))
            obtain ⟨r0, r1, r2, r3, y0, y1, y2, y3, hlR⟩ := HR4.out.cells
            obtain ⟨e0, e1, z0, z1, hF⟩ := HR4.out.flt.cells
            obtain ⟨s0, s1, s2, s3⟩ := HR4.out.ids
            go_wp2_with fail
            go_region
            all_goals
              go_wp2
              refine bodyPost_ret (results_cell_cell _ _ (w.heap.size + 1 + 1 + 1) 31 #[.int .i64 (c), .int .i64 (-7)] (0, 0) _ rfl rfl HFIN.out.2.1 Tryz.underlying31 rfl (by kernel_rfl) rfl HFIN.out.1 Tryz.underlying29 rfl (by kernel_rfl)) rfl ?_
              exact ⟨HFIN.out.2.2, false, _, [], 0, 0, c, -7, rfl, Ints.nil _, .inl ⟨HKE.out.1, HPF.out, rfl, rfl, rfl, rfl⟩⟩
      · have h7b : (i == -7) = false := by simpa using h7
        have HPF := Lib.hid (show (c, i) = wtdF (kindF t (admK k)) f from by rw [← HKE.out.2]; unfold wtdF; rw [if_neg (fun h => h.1.elim (fun h => HKE.out.1 h.1) h7)])
        clear h7
        have HFIN := Lib.hid (HR4.out.fin (.int .i64 (c)) (.int .i64 (i)))
        obtain ⟨r0, r1, r2, r3, y0, y1, y2, y3, hlR⟩ := HR4.out.cells
        obtain ⟨e0, e1, z0, z1, hF⟩ := HR4.out.flt.cells
        obtain ⟨s0, s1, s2, s3⟩ := HR4.out.ids
        go_wp2_with fail
        go_region
        all_goals
          go_wp2
          refine bodyPost_ret (results_cell_cell _ _ (w.heap.size + 1 + 1 + 1) 31 #[.int .i64 (c), .int .i64 (i)] (0, 0) _ rfl rfl HFIN.out.2.1 Tryz.underlying31 rfl (by kernel_rfl) rfl HFIN.out.1 Tryz.underlying29 rfl (by kernel_rfl)) rfl ?_
          exact ⟨HFIN.out.2.2, false, _, [], 0, 0, c, i, rfl, Ints.nil _, .inl ⟨HKE.out.1, HPF.out, rfl, rfl, rfl, rfl⟩⟩
    · have HKZ := Lib.hid (show kindF t (admK k) = (0, 0) from by rw [had, kindF_true]; exact expF_ok ok hx)
      by_cases hf1 : f < 1
      · have hd1 : decide (f < 1) = true := by simpa using hf1
        have HPF := Lib.hid (show (3, -8) = wtdF (kindF t (admK k)) f from by rw [HKZ.out]; unfold wtdF; rw [if_pos ⟨.inl ⟨rfl, rfl⟩, by omega⟩])
        clear HCK ok hx hw hp
        have HF0 := Lib.hid (pair_set HB10.out (.int .i64 3) (.int .i64 (-8)))
        have HR5 := Lib.hid (HR4.out.keepsS (keeps_pair (w := wc) b10 (.int .i64 3) (.int .i64 (-8))) (fun e => by have e' : w.heap.size + 1 + 1 = b10 := e; omega) (fun e => by have e' : w.heap.size + 1 + 1 + 1 = b10 := e; omega) (fun i hi => by rw [hi]; omega))
        go_upto_region 4 with fail
        clear f0 f1 y0 y1 hlf HR4
        generalize (wc.setCell ⟨b10, 0, none⟩ (.int .i64 3)).setCell ⟨b10, 1, none⟩ (.int .i64 (-8)) = wd3 at HF0 HR5 ⊢
        have HR4 := HR5
        obtain ⟨f0, f1, _, _, hlf⟩ := pair_cells HF0.out
        clear HR5
        have HFIN := Lib.hid (HR4.out.fin (.int .i64 (3)) (.int .i64 (-8)))
        obtain ⟨r0, r1, r2, r3, y0, y1, y2, y3, hlR⟩ := HR4.out.cells
        obtain ⟨e0, e1, z0, z1, hF⟩ := HR4.out.flt.cells
        obtain ⟨s0, s1, s2, s3⟩ := HR4.out.ids
        go_wp2_with fail
        go_region
        all_goals
          go_wp2
          refine bodyPost_ret (results_cell_cell _ _ (w.heap.size + 1 + 1 + 1) 31 #[.int .i64 (3), .int .i64 (-8)] (0, 0) _ rfl rfl HFIN.out.2.1 Tryz.underlying31 rfl (by kernel_rfl) rfl HFIN.out.1 Tryz.underlying29 rfl (by kernel_rfl)) rfl ?_
          exact ⟨HFIN.out.2.2, false, _, [], 0, 0, 3, -8, rfl, Ints.nil _, .inl ⟨by decide, HPF.out, rfl, rfl, rfl, rfl⟩⟩
      · have hd1 : decide (f < 1) = false := by simpa using hf1
        by_cases hf2 : 10 < f
        · have hd2 : decide (10 < f) = true := by simpa using hf2
          have HPF := Lib.hid (show (3, -8) = wtdF (kindF t (admK k)) f from by rw [HKZ.out]; unfold wtdF; rw [if_pos ⟨.inl ⟨rfl, rfl⟩, by omega⟩])
          clear HCK ok hx hw hp
          have HF0 := Lib.hid (pair_set HB10.out (.int .i64 3) (.int .i64 (-8)))
          have HR5 := Lib.hid (HR4.out.keepsS (keeps_pair (w := wc) b10 (.int .i64 3) (.int .i64 (-8))) (fun e => by have e' : w.heap.size + 1 + 1 = b10 := e; omega) (fun e => by have e' : w.heap.size + 1 + 1 + 1 = b10 := e; omega) (fun i hi => by rw [hi]; omega))
          go_upto_region 4 with fail
          clear f0 f1 y0 y1 hlf HR4
          generalize (wc.setCell ⟨b10, 0, none⟩ (.int .i64 3)).setCell ⟨b10, 1, none⟩ (.int .i64 (-8)) = wd3 at HF0 HR5 ⊢
          have HR4 := HR5
          obtain ⟨f0, f1, _, _, hlf⟩ := pair_cells HF0.out
          clear HR5
          have HFIN := Lib.hid (HR4.out.fin (.int .i64 (3)) (.int .i64 (-8)))
          obtain ⟨r0, r1, r2, r3, y0, y1, y2, y3, hlR⟩ := HR4.out.cells
          obtain ⟨e0, e1, z0, z1, hF⟩ := HR4.out.flt.cells
          obtain ⟨s0, s1, s2, s3⟩ := HR4.out.ids
          go_wp2_with fail
          go_region
          all_goals
            go_wp2
            refine bodyPost_ret (results_cell_cell _ _ (w.heap.size + 1 + 1 + 1) 31 #[.int .i64 (3), .int .i64 (-8)] (0, 0) _ rfl rfl HFIN.out.2.1 Tryz.underlying31 rfl (by kernel_rfl) rfl HFIN.out.1 Tryz.underlying29 rfl (by kernel_rfl)) rfl ?_
            exact ⟨HFIN.out.2.2, false, _, [], 0, 0, 3, -8, rfl, Ints.nil _, .inl ⟨by decide, HPF.out, rfl, rfl, rfl, rfl⟩⟩
        · have hd2 : decide (10 < f) = false := by simpa using hf2
          have hff : 1 ≤ f ∧ f ≤ 10 := by omega
          have hvh := says_kind had t l ok hx
          have HVL := Lib.hid (hvh.1.perm hp)
          have HAM := Lib.hid (hvh.2.perm hp)
          have HND := Lib.hid (costs_need ok hx hp)
          have HW := Lib.hid hw; have OK := Lib.hid ok; have HX := Lib.hid hx; have HPM := Lib.hid hp; have HAD := Lib.hid had
          have HWA := Lib.hid (wtd_adm HND.out.2.2.2.1 (ops_cost OK.out) HND.out.2.2.2.2.1 hff HAM.out)
          clear hvh hw ok hx hp had HCK hf1 hf2
          go_upto_region 6 with fail
          clear f0 f1 y0 y1 hlf x5c x5l hd1 hd2
          obtain ⟨d0, d1, d2, d3⟩ := HB4.out
          have hbx := HB4.out.lt
          go_wp2_with fail
          refine (heuristic_any wc _ _ _ t k (kindH t k) HT4.out).mono ?_
          rintro e w6 ⟨kb, tb, qb, mb, rfl, hhm, h1, h2, h3, h4, h5, hk6⟩
          have kC := (Keeps.refl (fun _ => False) w6).alloc (.cells #[.func (.func 58) #[] #[.pointer (some ⟨kb, 0, none⟩), .pointer (some ⟨tb, 0, none⟩), .pointer (some ⟨qb, 0, none⟩)]] 67)
          have HEU := Lib.hid (heur_is t k ws (kindH t k) HVL.out wc kb tb qb mb wc.heap.size w6.heap.size _ _ _ HT4.out h1 h1 h2 h3 h4 h5)
          have HM7 := Lib.hid (HEU.out.steady hhm kC (fun _ h => h.elim))
          have HX7 := Lib.hid ((hk6.trans kC).heap HX4.out (fun h => h))
          have HBX7 := Lib.hid (heap_alloc_new w6 (.cells #[.func (.func 58) #[] #[.pointer (some ⟨kb, 0, none⟩), .pointer (some ⟨tb, 0, none⟩), .pointer (some ⟨qb, 0, none⟩)]] 67))
          have HK7 := Lib.hid (hk6.trans kC)
          have HB7 := Lib.hid (HB4.out.keeps0 (hk6.trans kC)); have HT7 := Lib.hid (HT4.out.keeps0 (hk6.trans kC)); have HR7 := Lib.hid (HR4.out.keeps0 (hk6.trans kC))
          have HZ7 : (w6.alloc (.cells #[.func (.func 58) #[] #[.pointer (some ⟨kb, 0, none⟩), .pointer (some ⟨tb, 0, none⟩), .pointer (some ⟨qb, 0, none⟩)]] 67)).heap.size = w6.heap.size + 1 := World.size_alloc _ _
          have hz6 := hk6.size
          clear d0 d1 d2 d3 hbx hhm hk6 kC
          go_upto_region 7 with fail
          generalize (w6.alloc (.cells #[.func (.func 58) #[] #[.pointer (some ⟨kb, 0, none⟩), .pointer (some ⟨tb, 0, none⟩), .pointer (some ⟨qb, 0, none⟩)]] 67)) = w7 at HM7 HX7 HBX7 HK7 HB7 HT7 HR7 HZ7 ⊢
          obtain ⟨hb, hhb⟩ : ∃ hb, w6.heap.size = hb := ⟨_, rfl⟩
          rw [hhb] at HBX7 HZ7 h2 h3 h4 h5 HEU hz6 ⊢
          have HWT := Lib.hid (wtd_is ws (kindH t k) f _ wc.heap.size hb w7.heap.size _ _ _ _ hb (w.heap.size + 1) hff HEU.out (fun x hx => (HAM.out.lo x hx).1) (fun e => by have e' : hb = mb := e; omega) (fun e => by have e' : w.heap.size + 1 = mb := e; omega) (by omega) (by omega) (by omega))
          have HWI := Lib.hid (show WtdM (HeurM t k (kindH t k) wc kb tb qb mb _ _ _) hb (w.heap.size + 1) _ f w7 from ⟨HM7.out, HBX7.out, HX7.out⟩)
          clear hhb HM7 HX7 HBX7 HEU
          go_wp2_with fail
          refine (abestF_any f wc w7 b (wd t.init) (wd t.goal) _ v _ ws (wtdH f (kindH t k)) _ _ _ _ _ HW.out HK7.out (wops_ok OK.out) HND.out.2.2.1 HND.out.2.1 HND.out.2.2.2.1 HND.out.2.2.2.2.1 HND.out.2.2.2.2.2.1 (ops_cost OK.out) HND.out.2.2.2.2.2.2.2 HWT.out HWI.out hff.1 HWA.out).mono ?_
          rintro e w8 ⟨hk8, hI8, n, hn, hres⟩
          have KK8 : Keeps (fun _ => False) wc w8 := HK7.out.trans' hk8 (fun k hk => .inr (by rw [hk]; exact h1))
          have HT8 := Lib.hid (HT4.out.keeps0 KK8); have HR8a := Lib.hid (HR4.out.keeps0 KK8); have HB8 := HB4.out.keeps0 KK8
          have HBS := Lib.hid HB8; have HKK := Lib.hid KK8; have HI8 := Lib.hid hI8
          have HN := Lib.hid (show 0 ≤ (n : Int) ∧ (n : Int) ≤ (l.length : Int) from ⟨by omega, by have := HPM.out.length_eq; have := HND.out.2.2.2.2.1; omega⟩)
          have HL2 := HND.out.2.2.2.2.1
          have hz8 := hk8.size
          have hbx := lt_of_heap HR8a.out.res
          have hbx2 : w.heap.size < w8.heap.size := by omega
          obtain ⟨d0, d1, d2, d3⟩ := HB8
          clear hk8 KK8 hI8 HT7 HR7 HB7 HWT HWI HK7 hn
          rcases hres with ⟨hbt, rfl⟩ | ⟨q, y, v2, rfl, hrow, hql, hrun, hacc, hlow, -⟩
          · have HBT := Lib.hid (least_no hbt)
            clear hbt
            have HR7 := HR8a
            go_wp2_with fail
            refine (result_any w8 _ _ _ _ t [] false (n : Int) HT8.out OK.out (Ints.nil _) (fun z hz => by simp at hz)).mono ?_
            rintro e w9 ⟨hk8, hr8⟩
            rcases hr8 with ⟨h60, rfl⟩ | ⟨h60, rfl⟩
            · simp at h60
            have HR8 := Lib.hid (HR7.out.keeps0 hk8)
            obtain ⟨r0, r1, r2, r3, x0, x1, x2, x3, hlR⟩ := HR8.out.cells
            obtain ⟨e0, e1, z0, z1, hF⟩ := HR8.out.flt.cells
            have HFIN := Lib.hid (HR8.out.set (.bool false) (.slice none 0 0) (.int .i64 (costL t [])) (.int .i64 ((n : Int))) (.int .i64 0) (.int .i64 (0)))
            simp only [resV, fltV]
            clear d0 d1 d2 d3 hbx hk8
            go_wp2_with fail
            refine bodyPost_ret (results_cell_cell _ _ (w.heap.size + 1 + 1 + 1) 31 #[.int .i64 0, .int .i64 (0)] (0, 0) _ rfl rfl HFIN.out.2.1 Tryz.underlying31 rfl (by kernel_rfl) rfl HFIN.out.1 Tryz.underlying29 rfl (by kernel_rfl)) rfl ?_
            exact ⟨HFIN.out.2.2.1, false, _, [], 0, (n : Int), 0, 0, rfl, Ints.nil _, .inr ⟨HAD.out, hff, HKZ.out, OK.out, l, HX.out, .inl ⟨HBT.out, rfl, rfl, rfl, HN.out.1, HN.out.2, rfl, rfl⟩⟩⟩
          · rw [show q.length = (intsP q).length from by unfold intsP; rw [List.length_map]] at hrow
            have hi := Ints.of_own hrow
            have HLO := Lib.hid (show ∀ k, v2.ownBlock = some k → w7.heap.size ≤ k from fun k hk => (hrow.lt k hk).1)
            obtain ⟨a3, c3, hv3, _⟩ := hi.form
            subst hv3
            have HI := Lib.hid hi; have HRUN := Lib.hid hrun; have HLW := Lib.hid hlow
            have HPIN := Lib.hid (planIn_run hrun)
            have HQI := Lib.hid (show (intsP q).length = q.length by unfold intsP; rw [List.length_map])
            clear hrow hi hrun hlow
            by_cases h60 : (intsP q).length ≤ 60
            · have H60 := Lib.hid (show q.length ≤ 60 by have := HQI.out; omega)
              have hd60 : decide ((60 : Int) < ((intsP q).length : Int)) = false := by simp; omega
              have HR7 := HR8a
              go_wp2_with fail
              refine (aresult_fit w8 _ _ _ _ t (intsP q) true (n : Int) HT8.out OK.out HI.out HPIN.out h60).mono ?_
              rintro e w9 ⟨rfl, hk8⟩
              have HI9 := Lib.hid (HI.out.keeps0 hk8)
              have HR8 := Lib.hid (HR7.out.keeps0 hk8)
              obtain ⟨r0, r1, r2, r3, x0, x1, x2, x3, hlR⟩ := HR8.out.cells
              obtain ⟨e0, e1, z0, z1, hF⟩ := HR8.out.flt.cells
              have HFIN := Lib.hid (HR8.out.set (.bool true) (.slice a3 (intsP q).length c3) (.int .i64 (costL t (intsP q))) (.int .i64 ((n : Int))) (.int .i64 0) (.int .i64 (0)))
              clear d0 d1 d2 d3 hbx hk8
              go_wp2_with fail
              refine bodyPost_ret (results_cell_cell _ _ (w.heap.size + 1 + 1 + 1) 31 #[.int .i64 0, .int .i64 (0)] (0, 0) _ rfl rfl HFIN.out.2.1 Tryz.underlying31 rfl (by kernel_rfl) rfl HFIN.out.1 Tryz.underlying29 rfl (by kernel_rfl)) rfl ?_
              refine ⟨HFIN.out.2.2.1, true, _, _, _, (n : Int), 0, 0, rfl, ?_, .inr ⟨HAD.out, hff, HKZ.out, OK.out, l, HX.out, .inr (.inl ⟨q, y, HRUN.out, hacc, H60.out, rfl, rfl, rfl, HN.out.1, HN.out.2, rfl, rfl, HLW.out⟩)⟩⟩
              refine HI9.out.keepsS HFIN.out.2.2.2 (fun h0 j hj e' => ?_)
              have h1 := HLO.out j hj
              omega
            · have hd60 : decide ((60 : Int) < ((intsP q).length : Int)) = true := by simp; omega
              have HQ := Lib.hid (And.intro HRUN.out hacc)
              have xhc : w8.cell? ⟨hb, 0, none⟩ = some (.func (.func 58) #[] #[.pointer (some ⟨kb, 0, none⟩), .pointer (some ⟨tb, 0, none⟩), .pointer (some ⟨qb, 0, none⟩)]) := (cell_of_blk HI8.out.2.1).trans rfl
              have xhl := lt_of_heap HI8.out.2.1
              have HEU8 := Lib.hid (heur_is t k ws (kindH t k) HVL.out wc kb tb qb mb wc.heap.size w8.heap.size _ _ _ HT4.out h1 h1 (by omega) (by omega) (by omega) (by omega))
              clear HI HLO HPIN HLW
              go_wp2_with fail
              refine (abest_any wc w8 b (wd t.init) (wd t.goal) _ v _ ws (kindH t k) _ _ _ _ _ HW.out HKK.out (wops_ok OK.out) HND.out.2.2.1 HND.out.2.1 HND.out.2.2.2.1 HND.out.2.2.2.2.1 HND.out.2.2.2.2.2.1 (ops_cost OK.out) HND.out.2.2.2.2.2.2.2 HEU8.out HI8.out.1 HAM.out).mono ?_
              rintro e wf ⟨hkf, n2, hn2, hres⟩
              have KF : Keeps (fun _ => False) wc wf := HKK.out.trans' hkf (fun k hk => .inr (by rw [hk]; exact h1))
              have HTf := Lib.hid (HT4.out.keeps0 KF); have HR7 := Lib.hid (HR4.out.keeps0 KF); have HBf := HB4.out.keeps0 KF
              have hzf := hkf.size
              have hbxf := lt_of_heap HR7.out.res
              have hbx2f : w.heap.size < wf.heap.size := by omega
              clear d0 d1 d2 d3 hkf KF xhc xhl HEU8 hn2
              obtain ⟨d0, d1, d2, d3⟩ := HBf
              rcases hres with ⟨hbt, rfl⟩ | ⟨p, y2, bb, v3, rfl, hrow, hpl, hrun2, hacc2, hway, hp0, hbt, -⟩
              · have h1 := least_no hbt q y HQ.out.1
                rw [HQ.out.2] at h1; cases h1
              · rw [show p.length = (intsP p).length from by unfold intsP; rw [List.length_map]] at hrow
                have hi := Ints.of_own hrow
                have HLO := Lib.hid (show ∀ k, v3.ownBlock = some k → w8.heap.size ≤ k from fun k hk => (hrow.lt k hk).1)
                obtain ⟨a3, c3, hv3, _⟩ := hi.form
                subst hv3
                have hsp := wayN_split (wordsOf t.ops) p
                have HI := Lib.hid hi; have HRN2 := Lib.hid (And.intro hrun2 hacc2); have HBT := Lib.hid hbt; have HWY := Lib.hid hway
                have HPIN := Lib.hid (planIn_run hrun2)
                have HPI := Lib.hid (show (intsP p).length = p.length by unfold intsP; rw [List.length_map])
                have HPL := Lib.hid (show (p.length : Int) = bb % 4096 by omega)
                clear hrow hi hrun2 hacc2 hbt hway hsp
                by_cases h61 : (intsP p).length ≤ 60
                · have H61 := Lib.hid (show p.length ≤ 60 by have := HPI.out; omega)
                  go_wp2_with fail
                  refine (aresult_fit wf _ _ _ _ t (intsP p) true (n : Int) HTf.out OK.out HI.out HPIN.out h61).mono ?_
                  rintro e w9 ⟨rfl, hk8⟩
                  have HI9 := Lib.hid (HI.out.keeps0 hk8)
                  have HR8 := Lib.hid (HR7.out.keeps0 hk8)
                  obtain ⟨r0, r1, r2, r3, x0, x1, x2, x3, hlR⟩ := HR8.out.cells
                  obtain ⟨e0, e1, z0, z1, hF⟩ := HR8.out.flt.cells
                  have HFIN := Lib.hid (HR8.out.set (.bool true) (.slice a3 (intsP p).length c3) (.int .i64 (costL t (intsP p))) (.int .i64 ((n : Int))) (.int .i64 0) (.int .i64 (0)))
                  clear d0 d1 d2 d3 hbx hk8
                  go_wp2_with fail
                  refine bodyPost_ret (results_cell_cell _ _ (w.heap.size + 1 + 1 + 1) 31 #[.int .i64 0, .int .i64 (0)] (0, 0) _ rfl rfl HFIN.out.2.1 Tryz.underlying31 rfl (by kernel_rfl) rfl HFIN.out.1 Tryz.underlying29 rfl (by kernel_rfl)) rfl ?_
                  refine ⟨HFIN.out.2.2.1, true, _, _, _, (n : Int), 0, 0, rfl, ?_, .inr ⟨HAD.out, hff, HKZ.out, OK.out, l, HX.out, .inr (.inl ⟨p, y2, HRN2.out.1, HRN2.out.2, H61.out, rfl, rfl, rfl, HN.out.1, HN.out.2, rfl, rfl, fun r z g1 g2 => ?_⟩)⟩⟩
                  · refine HI9.out.keepsS HFIN.out.2.2.2 (fun h0 j hj e' => ?_)
                    have h1 := HLO.out j hj
                    omega
                  · rcases HBT.out with ⟨g3, _⟩ | ⟨_, _, g3⟩
                    · omega
                    · have g4 := g3 r z g1 g2
                      have g5 := wtd_le (ops_cost OK.out) hff.1 r
                      have g6 := HWY.out
                      omega
                · have H61 := Lib.hid (show 60 < p.length by have := HPI.out; omega)
                  go_wp2_with fail
                  refine (aresult_long wf _ _ _ _ t (intsP p) true (n : Int) HTf.out OK.out HI.out HPIN.out (by omega)).mono ?_
                  rintro e w9 ⟨rfl, hk8⟩
                  have HR8 := Lib.hid (HR7.out.keeps0 hk8)
                  obtain ⟨r0, r1, r2, r3, x0, x1, x2, x3, hlR⟩ := HR8.out.cells
                  obtain ⟨e0, e1, z0, z1, hF⟩ := HR8.out.flt.cells
                  have HFIN := Lib.hid (HR8.out.set (.bool false) (.slice none 0 0) (.int .i64 (0)) (.int .i64 (0)) (.int .i64 10) (.int .i64 (-9)))
                  clear d0 d1 d2 d3 hbx hk8
                  go_wp2_with fail
                  refine bodyPost_ret (results_cell_cell _ _ (w.heap.size + 1 + 1 + 1) 31 #[.int .i64 10, .int .i64 (-9)] (0, 0) _ rfl rfl HFIN.out.2.1 Tryz.underlying31 rfl (by kernel_rfl) rfl HFIN.out.1 Tryz.underlying29 rfl (by kernel_rfl)) rfl ?_
                  exact ⟨HFIN.out.2.2.1, false, _, [], 0, 0, 10, -9, rfl, Ints.nil _, .inr ⟨HAD.out, hff, HKZ.out, OK.out, l, HX.out, .inr (.inr ⟨bb, HBT.out, hp0, by have h1 := H61.out; have h2 := HPL.out; unfold stepsB; rw [if_neg (by omega)]; omega, rfl, rfl, rfl, rfl, rfl, rfl⟩)⟩⟩

end Go.Proofs.YtdokakhgflljgaaGreat

namespace Go.Proofs.YtdokakhgflljgaaGreat
open Go.RowKit

theorem stepT_run {q : List Nat} {x y : Nat} (h : runOps (wordsOf stepT.ops) x q = some y) : costN (wordsOf stepT.ops) q = 3 * (q.length : Int) ∧ ∀ k ∈ q, k = 0 := by
  have hl := runOps_lt h
  have hz : ∀ k ∈ q, k = 0 := fun k hk => by
    have h1 := hl k hk
    have h2 : (wordsOf stepT.ops).length = 1 := rfl
    omega
  refine ⟨?_, hz⟩
  clear h hl
  induction q with
  | nil => rfl
  | cons a r ih =>
    obtain rfl := hz a (by simp)
    have h1 := ih (fun k hk => hz k (by simp [hk]))
    rw [costN, h1, List.length_cons]
    have : ((wordsOf stepT.ops)[0]?.map Wop.cost).getD 0 = 3 := rfl
    rw [this]
    omega

theorem stepT_least : BestT stepT 12289 := by
  refine .inr ⟨by decide, ⟨[0], 1, by decide, by decide, by decide⟩, fun p y hr hy => ?_⟩
  have h1 := (stepT_run hr).1
  rw [wayN_split, h1]
  cases p with
  | nil =>
    simp [runOps] at hr; subst hr
    exact absurd hy (by decide)
  | cons a q => rw [List.length_cons]; omega

theorem stepT_expF : expF stepT = (0, 0) := by unfold expF; rw [if_pos (by rw [stepT_ok]), stepT_reached]

end Go.Proofs.YtdokakhgflljgaaGreat

namespace Go.Proofs.YtdokakhgflljgaaGreat
open Go.RowKit

/-- A plan of the task step, which has one operator. -/
def StepPl (lp : List Int) (m : Nat) : Prop := (∀ x ∈ lp, x = 0) ∧ 0 < lp.length ∧ lp.length ≤ m
theorem stepT_plan {q : List Nat} {y : Nat} {m : Nat} (hr : runOps (wordsOf stepT.ops) (wd stepT.init) q = some y) (ha : goalB (wd stepT.goal) y = true) (hm : q.length ≤ m) : StepPl (intsP q) m ∧ costL stepT (intsP q) = 3 * ((intsP q).length : Int) := by
  have hl : (intsP q).length = q.length := by unfold intsP; rw [List.length_map]
  obtain ⟨h1, h2⟩ := stepT_run hr
  refine ⟨⟨fun x hx => ?_, ?_, by rw [hl]; exact hm⟩, by rw [costL_is, h1, hl]⟩
  · obtain ⟨k, hk, rfl⟩ := List.mem_map.1 hx
    rw [h2 k hk]; rfl
  · cases q with
    | nil => cases hr; exact absurd ha (by decide)
    | cons a r => rw [hl]; simp
theorem gplanStep_any (w : World) (vi vg vo : Value) (h : TaskAt w vi vg vo stepT) :
    Calls Tryz.prog 9 #[.agg #[.int .i64 1, vi, vg, vo], .int .i64 1] w fun e w' => ∃ v lp n, e = .returned (.tuple #[resV true v (3 * (lp.length : Int)) n, fltV 0 0]) ∧ Ints w' v lp ∧ StepPl lp 60 ∧ Keeps (fun _ => False) w w' := by
  refine (gplanM_any w vi vg vo stepT 1 rfl ⟨by omega, by omega⟩ h).mono ?_
  rintro e w' ⟨hk, fnd, vp, lp, c, n, fc, fi, rfl, hi, hr⟩
  rcases hr with ⟨h1, h2, _⟩ | ⟨_, _, _, l, _, hr⟩
  · rw [show decide ((0 : Int) ≤ 1 ∧ (1 : Int) ≤ 5) = true from rfl, kindF_true, stepT_expF] at h2; cases h2; exact absurd rfl h1
  rcases hr with ⟨hb, _⟩ | ⟨q, y, g1, g2, g3, rfl, rfl, rfl, _, _, rfl, rfl⟩ | ⟨p, hb, g1, _⟩
  · have h1 := hb [0] 1 (by decide)
    exact absurd h1 (by decide)
  · obtain ⟨k1, k2⟩ := stepT_plan g1 g2 g3
    exact ⟨vp, _, n, by rw [← k2], hi, k1, hk⟩
  · have h1 := hb.2 [0] 1 (by decide) (by decide)
    rcases h1 with h1 | ⟨h1, _⟩ <;> (simp only [List.length_cons, List.length_nil] at h1; omega)
theorem gweightStep_any (w : World) (vi vg vo : Value) (h : TaskAt w vi vg vo stepT) :
    Calls Tryz.prog 19 #[.agg #[.int .i64 1, vi, vg, vo], .int .i64 1, .int .i64 2] w fun e w' => ∃ v lp n, e = .returned (.tuple #[resV true v (3 * (lp.length : Int)) n, fltV 0 0]) ∧ Ints w' v lp ∧ StepPl lp 2 ∧ Keeps (fun _ => False) w w' := by
  refine (gweight_any w vi vg vo stepT 1 2 h).mono ?_
  rintro e w' ⟨hk, fnd, vp, lp, c, n, fc, fi, rfl, hi, hr⟩
  rcases hr with ⟨h1, h2, _⟩ | ⟨_, _, _, _, l, _, hr⟩
  · rw [show admK 1 = true from rfl, kindF_true, stepT_expF] at h2; cases h2; exact absurd rfl h1
  rcases hr with ⟨hb, _⟩ | ⟨q, y, g1, g2, g3, rfl, rfl, rfl, _, _, rfl, rfl, g4⟩ | ⟨b, hb, g1, g2, _⟩
  · have h1 := hb [0] 1 (by decide)
    exact absurd h1 (by decide)
  · have h1 := g4 [0] 1 (by decide) (by decide)
    rw [wayN_split, (stepT_run g1).1, show wayK 2 (wordsOf stepT.ops) [0] = 24577 by decide] at h1
    obtain ⟨k1, k2⟩ := stepT_plan (m := 2) g1 g2 (by omega)
    exact ⟨vp, _, n, by rw [← k2], hi, k1, hk⟩
  · obtain rfl := LeastOf.unique hb stepT_least
    exact absurd g2 (by decide)

set_option maxRecDepth 100000 in
set_option maxHeartbeats 2000000 in
theorem stepped_any (w : World) (vp : Value) (lp : List Int) (n : Int) (m : Nat) (hm : m ≤ 1000) (h : Ints w vp lp) (hp : StepPl lp m) :
    Calls Tryz.prog 28 #[resV true vp (3 * (lp.length : Int)) n, fltV 0 0, .int .i64 (3 * (m : Int))] w fun e w' => e = .returned (.bool true) ∧ Keeps (fun _ => False) w w' := by
  obtain ⟨ap, cp, h4, hmx⟩ := h.form
  subst h4
  have KA := (Keeps.refl (fun _ => False) w).alloc (.cells #[.bool true, .slice ap lp.length cp, .int .i64 (3 * (lp.length : Int)), .int .i64 n] 29)
  have KB := (Keeps.refl (fun _ => False) (w.alloc (.cells #[.bool true, .slice ap lp.length cp, .int .i64 (3 * (lp.length : Int)), .int .i64 n] 29))).alloc (.cells #[.int .i64 0, .int .i64 0] 31)
  have HK := Lib.hid (KA.trans KB)
  have HX := Lib.hid (KB.heap (heap_alloc_new w (.cells #[.bool true, .slice ap lp.length cp, .int .i64 (3 * (lp.length : Int)), .int .i64 n] 29)) (fun h => h))
  have HF := heap_alloc_new (w.alloc (.cells #[.bool true, .slice ap lp.length cp, .int .i64 (3 * (lp.length : Int)), .int .i64 n] 29)) (.cells #[.int .i64 0, .int .i64 0] 31)
  rw [World.size_alloc] at HF
  have HF := Lib.hid HF
  have HP := Lib.hid (show Ints _ (.slice ap lp.length cp) lp from h.keeps0 (KA.trans KB))
  obtain ⟨hz, hl0, hlm⟩ := hp
  have HZ := Lib.hid hz
  clear KA KB h hz
  unfold resV fltV
  go_enter Tryz.func28, Tryz.ntmps28
  go_upto_region 1 with fail
  generalize (w.alloc (.cells #[.bool true, .slice ap lp.length cp, .int .i64 (3 * (lp.length : Int)), .int .i64 n] 29)).alloc (.cells #[.int .i64 0, .int .i64 0] 31) = w1 at HX HF HK HP ⊢
  go_wp2_with fail
  go_loopw [7] (fun i wr => ∃ j : Nat, j ≤ lp.length ∧ i = .int .i64 (j : Int) ∧ Keeps (fun _ => False) w1 wr) (fun i _ => lp.length - (intOf i).toNat)
  case atStart => exact ⟨0, Nat.zero_le _, rfl, Keeps.refl _ _⟩
  case round =>
    obtain ⟨j, hj, rfl, hB⟩ := hrel
    have HB := Lib.hid hB
    have HX2 := Lib.hid (hB.heap HX.out (fun h => h)); have HF2 := Lib.hid (hB.heap HF.out (fun h => h))
    clear hB
    obtain ⟨s0, s1, s2, s3, sl⟩ := quad_cells HX2.out
    obtain ⟨f0, f1, _, _, fl⟩ := pair_cells HF2.out
    by_cases hlt : j < lp.length
    · have hji : ((j : Int) < (lp.length : Int)) := by omega
      obtain ⟨bl, ol, hbl, hcl⟩ := (HP.out.keeps0 HB.out).cell rfl (by omega)
      subst hbl
      obtain ⟨x, hx⟩ : ∃ x, lp[j]? = some x := ⟨_, List.getElem?_eq_getElem hlt⟩
      have hx0 := HZ.out x (List.mem_of_getElem? hx)
      subst hx0
      have hc1 := hcl j _ hx
      clear hcl hx
      go_wp2_with fail
      go_roundw
      case rel => exact ⟨j + 1, by omega, by go_num, HB.out⟩
      case measure => simp [intOf]; omega
    · have hji : ¬ ((j : Int) < (lp.length : Int)) := by omega
      have hpos : (0 : Int) < (lp.length : Int) := by omega
      have hw3 : IntKind.i64.wrap (3 * (lp.length : Int)) = 3 * (lp.length : Int) := IntWalk.i64_in _ (by omega)
      have hle : 3 * (lp.length : Int) ≤ 3 * (m : Int) := by omega
      go_wp2_with fail
      go_ret
      exact ⟨rfl, HK.out.trans HB.out⟩

set_option maxRecDepth 100000 in
set_option maxHeartbeats 2000000 in
theorem greedyExample_any (w : World) : Calls Tryz.prog 7 #[] w fun e w' => e = .returned (.bool true) ∧ Keeps (fun _ => False) w w' := by
  go_enter Tryz.func7, Tryz.ntmps7
  go_wp2_with fail
  refine (step_any _).mono ?_; rintro e w1 ⟨vi, vg, vo, rfl, ht, hk⟩
  have HT := Lib.hid ht; have K1 := Lib.hid hk
  clear ht hk
  go_wp2_with fail
  refine (gplanStep_any _ _ _ _ HT.out).mono ?_; rintro e w2 ⟨vp, lp, n, rfl, hp, hst, hk⟩
  obtain ⟨ap, cp, hvp, _⟩ := hp.form
  subst hvp
  have HP := Lib.hid hp; have K2 := Lib.hid (K1.out.trans hk); have HST := Lib.hid hst
  clear hp hk hst HT
  simp only [resV, fltV]
  have KA := (Keeps.refl (fun _ => False) w2).alloc (.cells #[.bool true, .slice ap lp.length cp, .int .i64 (3 * (lp.length : Int)), .int .i64 n] 29)
  have KB := (Keeps.refl (fun _ => False) (w2.alloc (.cells #[.bool true, .slice ap lp.length cp, .int .i64 (3 * (lp.length : Int)), .int .i64 n] 29))).alloc (.cells #[.int .i64 0, .int .i64 0] 31)
  have H3 := Lib.hid (KB.heap (heap_alloc_new w2 (.cells #[.bool true, .slice ap lp.length cp, .int .i64 (3 * (lp.length : Int)), .int .i64 n] 29)) (fun h => h))
  have hf := heap_alloc_new (w2.alloc (.cells #[.bool true, .slice ap lp.length cp, .int .i64 (3 * (lp.length : Int)), .int .i64 n] 29)) (.cells #[.int .i64 0, .int .i64 0] 31)
  rw [World.size_alloc] at hf
  have F3 := Lib.hid hf
  have K3 := Lib.hid (K2.out.trans (KA.trans KB)); have HP3 := Lib.hid (HP.out.keeps0 (KA.trans KB))
  clear KA KB hf
  go_upto_region 2 with fail
  generalize (w2.alloc (.cells #[.bool true, .slice ap lp.length cp, .int .i64 (3 * (lp.length : Int)), .int .i64 n] 29)).alloc (.cells #[.int .i64 0, .int .i64 0] 31) = w3 at H3 F3 K3 HP3 ⊢
  generalize w2.heap.size = b3 at H3 F3 ⊢
  go_wp2_with fail
  refine (step_any _).mono ?_; rintro e w4 ⟨vi2, vg2, vo2, rfl, ht, hk⟩
  have HT := Lib.hid ht; have K4 := Lib.hid (K3.out.trans hk); have HP4 := Lib.hid (HP3.out.keeps0 hk); have H4 := Lib.hid (hk.heap H3.out (fun h => h)); have F4 := Lib.hid (hk.heap F3.out (fun h => h))
  clear ht hk
  go_wp2_with fail
  refine (gweightStep_any _ _ _ _ HT.out).mono ?_; rintro e w5 ⟨vp2, lp2, n2, rfl, hp, hst, hk⟩
  obtain ⟨ap2, cp2, hvp, _⟩ := hp.form
  subst hvp
  have HST2 := Lib.hid hst
  simp only [resV, fltV]
  have KA := (Keeps.refl (fun _ => False) w5).alloc (.cells #[.bool true, .slice ap2 lp2.length cp2, .int .i64 (3 * (lp2.length : Int)), .int .i64 n2] 29)
  have KB := (Keeps.refl (fun _ => False) (w5.alloc (.cells #[.bool true, .slice ap2 lp2.length cp2, .int .i64 (3 * (lp2.length : Int)), .int .i64 n2] 29))).alloc (.cells #[.int .i64 0, .int .i64 0] 31)
  have KC := hk.trans (KA.trans KB)
  have G6 := Lib.hid (KB.heap (heap_alloc_new w5 (.cells #[.bool true, .slice ap2 lp2.length cp2, .int .i64 (3 * (lp2.length : Int)), .int .i64 n2] 29)) (fun h => h))
  have hf := heap_alloc_new (w5.alloc (.cells #[.bool true, .slice ap2 lp2.length cp2, .int .i64 (3 * (lp2.length : Int)), .int .i64 n2] 29)) (.cells #[.int .i64 0, .int .i64 0] 31)
  rw [World.size_alloc] at hf
  have J6 := Lib.hid hf
  have HQ6 := Lib.hid (hp.keeps0 (KA.trans KB))
  have K6 := Lib.hid (K4.out.trans KC); have HP6 := Lib.hid (HP4.out.keeps0 KC); have H6 := Lib.hid (KC.heap H4.out (fun h => h)); have F6 := Lib.hid (KC.heap F4.out (fun h => h))
  clear hp hk hst KA KB KC hf
  go_upto_region 3 with fail
  generalize (w5.alloc (.cells #[.bool true, .slice ap2 lp2.length cp2, .int .i64 (3 * (lp2.length : Int)), .int .i64 n2] 29)).alloc (.cells #[.int .i64 0, .int .i64 0] 31) = w6 at G6 J6 HQ6 K6 HP6 H6 F6 ⊢
  generalize w5.heap.size = b6 at G6 J6 ⊢
  obtain ⟨f0, f1, _, _, fl⟩ := pair_cells F6.out
  obtain ⟨r0, r1, r2, r3, rl⟩ := quad_cells H6.out
  go_wp2_with fail
  refine (stepped_any _ _ lp n 60 (by omega) HP6.out HST.out).mono ?_; rintro e w7 ⟨rfl, hk⟩
  have K7 := Lib.hid (K6.out.trans hk)
  have G7 := Lib.hid (hk.heap G6.out (fun h => h)); have J7 := Lib.hid (hk.heap J6.out (fun h => h)); have HQ7 := Lib.hid (HQ6.out.keeps0 hk)
  clear hk f0 f1 fl r0 r1 r2 r3 rl
  obtain ⟨f0, f1, _, _, fl⟩ := pair_cells J7.out
  obtain ⟨r0, r1, r2, r3, rl⟩ := quad_cells G7.out
  go_wp2_with fail
  refine (stepped_any _ _ lp2 n2 2 (by omega) HQ7.out HST2.out).mono ?_; rintro e w8 ⟨rfl, hk⟩
  have K8 := Lib.hid (K7.out.trans hk)
  clear hk
  go_wp2_with fail
  go_ret
  exact ⟨rfl, K8.out⟩

end Go.Proofs.YtdokakhgflljgaaGreat

namespace Go.Proofs.YtdokakhgflljgaaGreat
open Go.RowKit

/-- What a result must be that says of a task whether there is a plan. -/
def GSnd (t : Tsk) (l : List Nat) (fnd : Bool) (lp : List Int) (c n : Int) : Prop := 0 ≤ n ∧ n ≤ (l.length : Int) ∧
  ((fnd = false ∧ lp = [] ∧ c = 0) ∨ (fnd = true ∧ ∃ q y, lp = intsP q ∧ runOps (wordsOf t.ops) (wd t.init) q = some y ∧ goalB (wd t.goal) y = true ∧ q.length ≤ 60 ∧ c = costL t lp))

set_option maxRecDepth 100000 in
set_option maxHeartbeats 4000000 in
theorem sound_any (w : World) (vi vg vo vp : Value) (t : Tsk) (l : List Nat) (fnd : Bool) (lp : List Int) (c n : Int) (h : TaskAt w vi vg vo t) (ok : t.Ok) (hx : explored t = some l) (hp : Ints w vp lp) (hg : GSnd t l fnd lp c n) :
    Calls Tryz.prog 18 #[.agg #[.int .i64 t.n, vi, vg, vo], resV fnd vp c n, .bool fnd] w fun e w' => e = .returned (.bool true) ∧ Keeps (fun _ => False) w w' := by
  obtain ⟨ai, ci, h1, _⟩ := h.init.form
  obtain ⟨ag, cg, h2, _⟩ := h.goal.form
  obtain ⟨ao, co, h3, hmo⟩ := h.ops.form
  obtain ⟨ap, cp, h4, hml⟩ := hp.form
  subst h1 h2 h3 h4
  have K1 := (Keeps.refl (fun _ => False) w).alloc (.cells #[.int .i64 t.n, .slice ai t.init.length ci, .slice ag t.goal.length cg, .slice ao t.ops.length co] 25)
  have K2 := (Keeps.refl (fun _ => False) (w.alloc (.cells #[.int .i64 t.n, .slice ai t.init.length ci, .slice ag t.goal.length cg, .slice ao t.ops.length co] 25))).alloc (.cells #[.bool fnd, .slice ap lp.length cp, .int .i64 c, .int .i64 n] 29)
  have HB := Lib.hid ((Four.new w (.int .i64 t.n) (.slice ai t.init.length ci) (.slice ag t.goal.length cg) (.slice ao t.ops.length co) 25).keeps0 K2)
  have hr := Four.new (w.alloc (.cells #[.int .i64 t.n, .slice ai t.init.length ci, .slice ag t.goal.length cg, .slice ao t.ops.length co] 25)) (.bool fnd) (.slice ap lp.length cp) (.int .i64 c) (.int .i64 n) 29
  rw [World.size_alloc] at hr
  have HR := Lib.hid hr
  have HT := Lib.hid (h.keeps0 (K1.trans K2)); have HP := Lib.hid (hp.keeps0 (K1.trans K2)); have HK := Lib.hid (K1.trans K2)
  have OK := Lib.hid ok; have HX := Lib.hid hx
  obtain ⟨hn0, hn1, hcase⟩ := hg
  have HG := Lib.hid hcase
  have hlL : (0 : Int) ≤ (l.length : Int) := by omega
  clear h K1 K2 hr hp ok hx hcase
  have hfld := fld_fault (.int .i64 0) (.int .i64 0)
  simp only [resV]
  go_enter Tryz.func18, Tryz.ntmps18
  go_upto_region 1 with fail
  generalize ((w.alloc (.cells #[.int .i64 t.n, .slice ai t.init.length ci, .slice ag t.goal.length cg, .slice ao t.ops.length co] 25)).alloc (.cells #[.bool fnd, .slice ap lp.length cp, .int .i64 c, .int .i64 n] 29)) = w1 at HB HR HT HP HK ⊢
  generalize w.heap.size = bt at HB HR ⊢
  have hbx := HB.out.lt
  obtain ⟨d0, d1, d2, d3⟩ := HB.out
  go_wp2_with fail
  refine (reached_any _ _ _ _ t HT.out OK.out).mono ?_; rintro e w2 ⟨hk, hr⟩
  have HB2 := Lib.hid (HB.out.keeps0 hk); have HR2 := Lib.hid (HR.out.keeps0 hk); have HT2 := Lib.hid (HT.out.keeps0 hk); have HP2 := Lib.hid (HP.out.keeps0 hk); have HK2 := Lib.hid (HK.out.trans hk)
  clear d0 d1 d2 d3 hbx hk HB HR HT HP HK
  rcases hr with ⟨hno, _⟩ | ⟨l', hl', v, vw, vs, rfl, hrow⟩
  · have h1 := hno.symm.trans (show reached (wordsOf t.ops) (wd t.init) = some l from HX.out); cases h1
  obtain rfl : l' = l := by have h1 := hl'.symm.trans (show reached (wordsOf t.ops) (wd t.init) = some l from HX.out); cases h1; rfl
  obtain ⟨av, cv, hav⟩ := ownsRow_formS hrow.out
  subst hav
  clear hrow hl'
  obtain ⟨r0, r1, r2, r3⟩ := HR2.out
  have hlr := HR2.out.lt
  have hnn : ¬ n < 0 := by omega
  have hnl : ¬ (l'.length : Int) < n := by omega
  have dn1 : decide (n < 0) = false := by simpa using hn0
  have dn2 : decide ((l'.length : Int) < n) = false := by simpa using hn1
  rcases HG.out with ⟨rfl, rfl, rfl⟩ | ⟨rfl, q, y, rfl, hrun, hacc, hq, rfl⟩
  · go_wp2_with fail
    go_ret
    exact ⟨rfl, HK2.out⟩
  · have hgw := goal_reached OK.out hrun hacc
    have HRUN := Lib.hid hrun; have HIN := Lib.hid (planIn_run hrun)
    have HL := Lib.hid (show (intsP q).length ≤ 60 by unfold intsP; rw [List.length_map]; exact hq)
    clear hrun hacc
    go_upto_region 6 with fail
    have KD : Keeps (fun _ => False) w2 w2.drew := (Keeps.refl (fun _ => False) w2).drew
    have HBD := HB2.out.keeps0 KD; have HRD := HR2.out.keeps0 KD; have HTD := Lib.hid (HT2.out.keeps0 KD); have HPD := Lib.hid (HP2.out.keeps0 KD); have HKD := Lib.hid (HK2.out.trans KD)
    clear r0 r1 r2 r3 hlr
    have hbx := HBD.lt
    have hlr := HRD.lt
    obtain ⟨d0, d1, d2, d3⟩ := HBD
    obtain ⟨_, d4, d5, _⟩ := HRD
    clear KD
    go_region_held3 (fun w' => w'.cell? ⟨bt, 0, none⟩ = some (.int .i64 t.n) ∧ w'.cell? ⟨bt, 1, none⟩ = some (.slice ai t.init.length ci) ∧ w'.cell? ⟨bt, 2, none⟩ = some (.slice ag t.goal.length cg) ∧ w'.cell? ⟨bt, 3, none⟩ = some (.slice ao t.ops.length co) ∧ w'.cell? ⟨bt + 1, 1, none⟩ = some (.slice ap (intsP q).length cp) ∧ w'.cell? ⟨bt + 1, 2, none⟩ = some (.int .i64 (costL t (intsP q)))) (go_keep)
      (first
        | (go_at_call 41; refine (planFaultR_good _ _ _ _ _ t (intsP q) HTD.out OK.out HPD.out HL.out HIN.out).mono ?_; rintro e w3 ⟨rfl, hk⟩; have HT3 := Lib.hid (HTD.out.keeps0 hk); have HP3 := Lib.hid (HPD.out.keeps0 hk); have HK3 := Lib.hid (HKD.out.trans hk); obtain ⟨e0, e1, e2, e3, e4, e5⟩ := And.intro (hk.cell d0 (fun h => h)) (And.intro (hk.cell d1 (fun h => h)) (And.intro (hk.cell d2 (fun h => h)) (And.intro (hk.cell d3 (fun h => h)) (And.intro (hk.cell d4 (fun h => h)) (hk.cell d5 (fun h => h)))))); clear hk)
        | (go_at_call 42; refine (solvesR_good _ _ _ _ _ t y q HT3.out OK.out HP3.out HRUN.out (by omega)).mono ?_; rintro e w4 ⟨rfl, hk⟩; rw [hgw]; have HT4 := Lib.hid (HT3.out.keeps0 hk); have HP4 := Lib.hid (HP3.out.keeps0 hk); have HK4 := Lib.hid (HK3.out.trans hk); obtain ⟨f0, f1, f2, f3, f4, f5⟩ := And.intro (hk.cell e0 (fun h => h)) (And.intro (hk.cell e1 (fun h => h)) (And.intro (hk.cell e2 (fun h => h)) (And.intro (hk.cell e3 (fun h => h)) (And.intro (hk.cell e4 (fun h => h)) (hk.cell e5 (fun h => h)))))); clear hk)
        | (go_at_call 43; refine (costOf_any _ _ _ _ _ t (intsP q) HT4.out OK.out HP4.out HIN.out (by have := HL.out; omega)).mono ?_; rintro e w5 ⟨rfl, hk⟩; have HK5 := Lib.hid (HK4.out.trans hk); obtain ⟨g0, g1, g2, g3, g4, g5⟩ := And.intro (hk.cell f0 (fun h => h)) (And.intro (hk.cell f1 (fun h => h)) (And.intro (hk.cell f2 (fun h => h)) (And.intro (hk.cell f3 (fun h => h)) (And.intro (hk.cell f4 (fun h => h)) (hk.cell f5 (fun h => h)))))); clear hk))
    all_goals
      go_wp2_with fail
      go_ret
      exact ⟨rfl, HK5.out⟩

end Go.Proofs.YtdokakhgflljgaaGreat

namespace Go.Proofs.YtdokakhgflljgaaGreat
open Go.RowKit Go.Shelf

/-- The law's fault, by turns. -/
theorem gw_cases {t : Tsk} {k f : Int} {fnd : Bool} {lp : List Int} {c n fc fi : Int} (hg : GWIs t k f fnd lp c n fc fi) :
    ((taskFault t).1 ≠ 0 ∧ (fc, fi) = taskFault t ∧ fnd = false ∧ lp = [] ∧ c = 0 ∧ n = 0) ∨
    ((taskFault t).1 = 0 ∧ t.Ok ∧ ((admK k = false ∧ fc = 4 ∧ fi = -8 ∧ fnd = false ∧ lp = [] ∧ c = 0 ∧ n = 0) ∨
      (admK k = true ∧ ((inB f 1 10 = false ∧ fc = 3 ∧ fi = -8 ∧ fnd = false ∧ lp = [] ∧ c = 0 ∧ n = 0) ∨
        (inB f 1 10 = true ∧ ((explored t = none ∧ fc = 10 ∧ fi = -7 ∧ fnd = false ∧ lp = [] ∧ c = 0 ∧ n = 0) ∨
          ∃ l, explored t = some l ∧ ∀ b, BestT t b → ((60 < stepsB b ∧ fc = 10 ∧ fi = -9 ∧ fnd = false ∧ lp = [] ∧ c = 0 ∧ n = 0) ∨ (fc = 0 ∧ fi = 0 ∧ fnd = decide (0 ≤ b) ∧ GSnd t l fnd lp c n ∧ (0 ≤ b → c ≤ f * (b / 4096)) ∧ (b < 0 → c = 0) ∧ 1 ≤ f ∧ f ≤ 10 ∧ b ≤ 1000000000)))))))) := by
  by_cases ht : (taskFault t).1 = 0
  case neg =>
    have hkf : kindF t (admK k) = taskFault t := by unfold kindF; rw [if_neg ht]
    rcases hg with ⟨h1, h2, h3⟩ | ⟨_, _, hkz, _⟩
    · rw [hkf] at h2
      unfold wtdF at h2
      rw [if_neg (fun h => h.1.elim (fun h => ht h.1) (taskFault_at7 ht))] at h2
      exact .inl ⟨ht, h2, h3⟩
    · rw [hkf] at hkz; rw [hkz] at ht; exact absurd rfl ht
  case pos =>
    have ok := taskFault_zero.1 ht
    refine .inr ⟨ht, ok, ?_⟩
    cases hk : admK k with
    | false =>
      have hkf : kindF t false = (4, -8) := by unfold kindF; rw [if_pos ht]; rfl
      rcases hg with ⟨h1, h2, h3⟩ | ⟨h1, _⟩
      · rw [hk, hkf] at h2
        unfold wtdF at h2
        rw [if_neg (fun h => h.1.elim (fun h => absurd h.1 (by decide)) (by decide))] at h2
        cases h2
        exact .inl ⟨rfl, rfl, rfl, h3⟩
      · rw [hk] at h1; cases h1
    | true =>
      refine .inr ⟨rfl, ?_⟩
      by_cases hf : 1 ≤ f ∧ f ≤ 10
      case neg =>
        have hi : inB f 1 10 = false := inB_false' hf
        rcases hg with ⟨h1, h2, h3⟩ | ⟨_, h1, _⟩
        · have he : wtdF (kindF t (admK k)) f = (3, -8) := by
            rw [hk, kindF_true]
            cases hx : explored t with
            | none => rw [expF_many ok hx]; unfold wtdF; rw [if_pos ⟨.inr rfl, hf⟩]
            | some l => rw [expF_ok ok hx]; unfold wtdF; rw [if_pos ⟨.inl ⟨rfl, rfl⟩, hf⟩]
          rw [he] at h2; cases h2
          exact .inl ⟨hi, rfl, rfl, h3⟩
        · exact absurd h1 hf
      case pos =>
        have hi : inB f 1 10 = true := by unfold inB; simp [hf]
        refine .inr ⟨hi, ?_⟩
        cases hx : explored t with
        | none =>
          rcases hg with ⟨h1, h2, h3⟩ | ⟨_, _, _, _, l, h1, _⟩
          · rw [hk, kindF_true, expF_many ok hx] at h2
            unfold wtdF at h2
            rw [if_neg (fun h => h.2 hf)] at h2
            cases h2
            exact .inl ⟨rfl, rfl, rfl, h3⟩
          · rw [hx] at h1; cases h1
        | some l =>
          refine .inr ⟨l, rfl, fun b hb => ?_⟩
          have hbs := best_small ok hx hb
          rcases hg with ⟨h1, h2, h3⟩ | ⟨_, _, _, _, l', hl, hg⟩
          · rw [hk, kindF_true, expF_ok ok hx] at h2
            unfold wtdF at h2
            rw [if_neg (fun h => h.2 hf)] at h2
            cases h2; exact absurd rfl h1
          · obtain rfl : l' = l := by rw [hx] at hl; cases hl; rfl
            rcases hg with ⟨hn, rfl, rfl, rfl, h1, h2, rfl, rfl⟩ | ⟨q, y, g1, g2, g3, rfl, rfl, rfl, h1, h2, rfl, rfl, g4⟩ | ⟨b', hb', h1, h2, h3, h4, h5, h6, h7, h8⟩
            · have hneg : b < 0 := by
                rcases hb with ⟨h, _⟩ | ⟨_, ⟨p, z, k1, k2, _⟩, _⟩
                · omega
                · rw [hn p z k1] at k2; cases k2
              exact .inr ⟨rfl, rfl, by symm; rw [decide_eq_false_iff_not]; omega, ⟨h1, h2, .inl ⟨rfl, rfl, rfl⟩⟩, fun h => by omega, fun _ => rfl, hf.1, hf.2, by omega⟩
            · rcases hb with ⟨_, h⟩ | ⟨k0, ⟨p, z, k1, k2, k3⟩, k4⟩
              · rw [h q y g1] at g2; cases g2
              · have hr := reached_some (ops := wordsOf t.ops) (s := wd t.init) (l := l') hx
                obtain ⟨p', m1, m2, m3⟩ := short_run (ops_cost ok) (fun p y h => (hr.2.2.2 y).2 (reach_run p .refl h)) p.length (Nat.le_refl _) k1
                have m4 := k4 p' z m1 k2
                have e1 := wayN_split (wordsOf t.ops) p
                have e2 := wayN_split (wordsOf t.ops) p'
                have e3 := wayN_split (wordsOf t.ops) q
                have m5 := g4 p z k1 k2
                unfold wayK at m5
                have hfew := hr.2.1
                have hbc : b / 4096 = costN (wordsOf t.ops) p := by omega
                refine .inr ⟨rfl, rfl, by symm; rw [decide_eq_true_iff]; exact k0, ⟨h1, h2, .inr ⟨rfl, q, y, rfl, g1, g2, g3, rfl⟩⟩, fun _ => ?_, fun h => by omega, hf.1, hf.2, by omega⟩
                rw [hbc, costL_is]
                omega
            · obtain rfl := LeastOf.unique hb hb'
              exact .inl ⟨h2, h7, h8, h3, h4, h5, h6⟩

set_option maxRecDepth 100000 in
set_option maxHeartbeats 4000000 in
theorem gweightLaw_any (w : World) (vi vg vo : Value) (t : Tsk) (k f : Int) (h : TaskAt w vi vg vo t) :
    Calls Tryz.prog 4 #[.agg #[.int .i64 t.n, vi, vg, vo], .int .i64 k, .int .i64 f] w fun e w' => e = .returned (.bool true) ∧ Keeps (fun _ => False) w w' := by
  obtain ⟨ai, ci, h1, _⟩ := h.init.form
  obtain ⟨ag, cg, h2, _⟩ := h.goal.form
  obtain ⟨ao, co, h3, hmo⟩ := h.ops.form
  subst h1 h2 h3
  have HB := Lib.hid (Four.new w (.int .i64 t.n) (.slice ai t.init.length ci) (.slice ag t.goal.length cg) (.slice ao t.ops.length co) 25)
  have K1 := (Keeps.refl (fun _ => False) w).alloc (.cells #[.int .i64 t.n, .slice ai t.init.length ci, .slice ag t.goal.length cg, .slice ao t.ops.length co] 25)
  have HT := Lib.hid (h.keeps0 K1); have HK := Lib.hid K1
  clear h K1
  go_enter Tryz.func4, Tryz.ntmps4
  go_upto_region 1 with fail
  generalize (w.alloc (.cells #[.int .i64 t.n, .slice ai t.init.length ci, .slice ag t.goal.length cg, .slice ao t.ops.length co] 25)) = w1 at HB HT HK ⊢
  generalize w.heap.size = bt at HB ⊢
  go_wp2_with fail
  refine (greedyExample_any _).mono ?_; rintro e w2 ⟨rfl, hk⟩
  have HB1 := Lib.hid (HB.out.keeps0 hk); have HT1 := Lib.hid (HT.out.keeps0 hk); have HK1 := Lib.hid (HK.out.trans hk)
  clear HB HT HK hk
  have hbxd := HB1.out.lt
  obtain ⟨d0, d1, d2, d3⟩ := HB1.out
  go_wp2_with fail
  refine (wide_any _ _ _ _ t HT1.out).mono ?_; rintro e w3 ⟨rfl, hk⟩
  have HB2 := Lib.hid (HB1.out.keeps0 hk); have HT2 := Lib.hid (HT1.out.keeps0 hk); have HK2 := Lib.hid (HK1.out.trans hk)
  clear hbxd d0 d1 d2 d3 HB1 HT1 HK1 hk
  cases hwd : wideB t with
  | true =>
    go_wp2_with fail
    go_ret
    exact ⟨rfl, HK2.out⟩
  | false =>
    clear hwd
    have hbxd := HB2.out.lt
    obtain ⟨d0, d1, d2, d3⟩ := HB2.out
    go_wp2_with fail
    refine (gweight_any _ _ _ _ t k f HT2.out).mono ?_; rintro e w4 ⟨hk, fndx, vp, lpx, cx, nx, fcx, fix, rfl, hi, hr⟩
    obtain ⟨apx, cpx, hvp, _⟩ := hi.form
    subst hvp
    have HP := Lib.hid (gw_cases hr)
    clear hr hbxd d0 d1 d2 d3
    simp only [resV, fltV]
    have KA := (Keeps.refl (fun _ => False) w4).alloc (.cells #[.bool fndx, .slice apx lpx.length cpx, .int .i64 cx, .int .i64 nx] 29)
    have KB := (Keeps.refl (fun _ => False) (w4.alloc (.cells #[.bool fndx, .slice apx lpx.length cpx, .int .i64 cx, .int .i64 nx] 29))).alloc (.cells #[.int .i64 fcx, .int .i64 fix] 31)
    have KC := hk.trans (KA.trans KB)
    have HB3 := Lib.hid (HB2.out.keeps0 KC); have HT3 := Lib.hid (HT2.out.keeps0 KC); have HK3 := Lib.hid (HK2.out.trans KC)
    have HRx := Lib.hid (KB.heap (heap_alloc_new w4 (.cells #[.bool fndx, .slice apx lpx.length cpx, .int .i64 cx, .int .i64 nx] 29)) (fun h => h))
    have hf := heap_alloc_new (w4.alloc (.cells #[.bool fndx, .slice apx lpx.length cpx, .int .i64 cx, .int .i64 nx] 29)) (.cells #[.int .i64 fcx, .int .i64 fix] 31)
    rw [World.size_alloc] at hf
    have HFx := Lib.hid hf
    have HIx := Lib.hid (hi.keeps0 (KA.trans KB))
    clear HB2 HT2 HK2 hk KA KB KC hf hi
    go_upto_region 6 with fail
    generalize (w4.alloc (.cells #[.bool fndx, .slice apx lpx.length cpx, .int .i64 cx, .int .i64 nx] 29)).alloc (.cells #[.int .i64 fcx, .int .i64 fix] 31) = w5 at HB3 HT3 HK3 HRx HFx HIx  ⊢
    generalize w4.heap.size = bqx at HRx HFx ⊢
    obtain ⟨tc, ti, htf⟩ : ∃ tc ti, taskFault t = (tc, ti) := ⟨_, _, rfl⟩
    have hpx := HP.out
    rw [htf] at hpx
    simp only at hpx
    have HPX := Lib.hid hpx
    clear HP hpx
    have hbxd := HB3.out.lt
    obtain ⟨d0, d1, d2, d3⟩ := HB3.out
    go_wp2_with fail
    refine (taskFault_any _ _ _ _ t HT3.out).mono ?_; rintro e w6 ⟨rfl, hk⟩
    rw [htf]
    simp only
    have KA := (Keeps.refl (fun _ => False) w6).alloc (.cells #[.int .i64 tc, .int .i64 ti] 31)
    have KW0 := Lib.hid (hk.trans KA)
    have HW0 := Lib.hid (heap_alloc_new w6 (.cells #[.int .i64 tc, .int .i64 ti] 31))
    have HBW := Lib.hid (show w5.heap.size ≤ w6.heap.size from hk.size)
    clear hk KA htf hbxd d0 d1 d2 d3
    go_upto_region 7 with fail
    generalize (w6.alloc (.cells #[.int .i64 tc, .int .i64 ti] 31)) = wb0 at HW0 KW0 ⊢
    generalize w6.heap.size = bw at HW0 HBW ⊢
    obtain ⟨g0, g1, z0, z1, gl⟩ := pair_cells HW0.out
    rcases HPX.out with ⟨h1, h2, rfl, rfl, rfl, rfl⟩ | ⟨h1, ok, ⟨ha, rfl, rfl, rfl, rfl, rfl, rfl⟩ | ⟨ha, ⟨hf, rfl, rfl, rfl, rfl, rfl, rfl⟩ | ⟨hf, ⟨hx, rfl, rfl, rfl, rfl, rfl, rfl⟩ | ⟨l, hx, href⟩⟩⟩⟩
    case inl =>
      simp only [Prod.mk.injEq] at h2
      obtain ⟨rfl, rfl⟩ := h2
      have q1 : (fcx != 0) = true := by simpa using h1
      have q2 : (fcx == 0) = false := by simpa using h1
      clear h1 HPX
      have HFn := Lib.hid (KW0.out.heap HFx.out (fun h => h)); have HRn := Lib.hid (KW0.out.heap HRx.out (fun h => h))
      have HKn := Lib.hid (HK3.out.trans KW0.out)
      obtain ⟨f0, f1, _, _, fl⟩ := pair_cells HFn.out
      obtain ⟨r0, r1, r2, r3, rl⟩ := quad_cells HRn.out
      simp only [List.length_nil] at r1 HRn ⊢
      go_wp2_with fail
      refine (noResult_any _ false _ 0 _ 0 0 (by omega)).mono ?_; rintro e w9 ⟨rfl, hk⟩
      have HK9 := Lib.hid (HKn.out.trans hk)
      clear hk
      go_wp2_with fail
      go_ret
      exact ⟨rfl, HK9.out⟩
    case inr.inl =>
      have q1 : (tc == 0) = true := by simpa using h1
      clear HPX
      have HA := Lib.hid ha
      clear ha
      go_wp2_with fail
      refine (refAdm_any k _).mono ?_; rintro e w6 ⟨rfl, rfl⟩
      rw [HA.out]
      go_wp2_with fail
      refine (at_any _ 4 (-8)).mono ?_; rintro e w6 ⟨rfl, hk⟩
      have HV := Lib.hid (hk.heap HW0.out (fun h => h))
      have HW1 := Lib.hid (pair_set HV.out (.int .i64 4) (.int .i64 (-8)))
      have KW1 := Lib.hid ((KW0.out.trans hk).trans' (keeps_pair (w := w6) bw (.int .i64 4) (.int .i64 (-8))) (fun q hq => .inr (by rw [hq]; exact HBW.out)))
      clear hk g0 g1 z0 z1 gl
      obtain ⟨g0, g1, z0, z1, gl⟩ := pair_cells HV.out
      go_upto_region 9 with fail
      generalize (w6.setCell ⟨bw, 0, none⟩ (.int .i64 4)).setCell ⟨bw, 1, none⟩ (.int .i64 (-8)) = wb1 at HW1 KW1 ⊢
      clear g0 g1 z0 z1 gl HV
      obtain ⟨g0, g1, z0, z1, gl⟩ := pair_cells HW1.out
      have HFn := Lib.hid (KW1.out.heap HFx.out (fun h => h)); have HRn := Lib.hid (KW1.out.heap HRx.out (fun h => h))
      have HKn := Lib.hid (HK3.out.trans KW1.out)
      obtain ⟨f0, f1, _, _, fl⟩ := pair_cells HFn.out
      obtain ⟨r0, r1, r2, r3, rl⟩ := quad_cells HRn.out
      simp only [List.length_nil] at r1 HRn ⊢
      go_wp2_with fail
      refine (noResult_any _ false _ 0 _ 0 0 (by omega)).mono ?_; rintro e w9 ⟨rfl, hk⟩
      have HK9 := Lib.hid (HKn.out.trans hk)
      clear hk
      go_wp2_with fail
      go_ret
      exact ⟨rfl, HK9.out⟩
    case inr.inr.inl =>
      have q1 : (tc == 0) = true := by simpa using h1
      clear HPX
      have HA := Lib.hid ha; have HIN := Lib.hid hf
      clear ha hf
      go_wp2_with fail
      refine (refAdm_any k _).mono ?_; rintro e w6 ⟨rfl, rfl⟩
      rw [HA.out]
      go_wp2_with fail
      refine (in_val _ HIN.out).mono ?_; rintro e w6 ⟨rfl, rfl⟩
      go_wp2_with fail
      refine (at_any _ 3 (-8)).mono ?_; rintro e w6 ⟨rfl, hk⟩
      have HV := Lib.hid (hk.heap HW0.out (fun h => h))
      have HW1 := Lib.hid (pair_set HV.out (.int .i64 3) (.int .i64 (-8)))
      have KW1 := Lib.hid ((KW0.out.trans hk).trans' (keeps_pair (w := w6) bw (.int .i64 3) (.int .i64 (-8))) (fun q hq => .inr (by rw [hq]; exact HBW.out)))
      clear hk g0 g1 z0 z1 gl
      obtain ⟨g0, g1, z0, z1, gl⟩ := pair_cells HV.out
      go_upto_region 11 with fail
      generalize (w6.setCell ⟨bw, 0, none⟩ (.int .i64 3)).setCell ⟨bw, 1, none⟩ (.int .i64 (-8)) = wb1 at HW1 KW1 ⊢
      clear g0 g1 z0 z1 gl HV
      obtain ⟨g0, g1, z0, z1, gl⟩ := pair_cells HW1.out
      have HFn := Lib.hid (KW1.out.heap HFx.out (fun h => h)); have HRn := Lib.hid (KW1.out.heap HRx.out (fun h => h))
      have HKn := Lib.hid (HK3.out.trans KW1.out)
      obtain ⟨f0, f1, _, _, fl⟩ := pair_cells HFn.out
      obtain ⟨r0, r1, r2, r3, rl⟩ := quad_cells HRn.out
      simp only [List.length_nil] at r1 HRn ⊢
      go_wp2_with fail
      refine (noResult_any _ false _ 0 _ 0 0 (by omega)).mono ?_; rintro e w9 ⟨rfl, hk⟩
      have HK9 := Lib.hid (HKn.out.trans hk)
      clear hk
      go_wp2_with fail
      go_ret
      exact ⟨rfl, HK9.out⟩
    case inr.inr.inr.inl =>
      have q1 : (tc == 0) = true := by simpa using h1
      clear HPX
      have HA := Lib.hid ha; have HIN := Lib.hid hf; have OK := Lib.hid ok; have HX := Lib.hid hx
      clear ha hf ok hx
      go_wp2_with fail
      refine (refAdm_any k _).mono ?_; rintro e w6 ⟨rfl, rfl⟩
      rw [HA.out]
      go_wp2_with fail
      refine (in_val _ HIN.out).mono ?_; rintro e w6 ⟨rfl, rfl⟩
      have HB0a := Lib.hid (HB3.out.keeps0 KW0.out); have HT0a := Lib.hid (HT3.out.keeps0 KW0.out)
      have hbxd := HB0a.out.lt
      obtain ⟨d0, d1, d2, d3⟩ := HB0a.out
      go_wp2_with fail
      have hE := expF_many OK.out HX.out
      have HC := explored_any _ _ _ _ t HT0a.out
      rw [hE] at HC
      clear hE
      clear hbxd d0 d1 d2 d3
      refine (HC).mono ?_; rintro e w6 ⟨rfl, hk⟩
      have HV := Lib.hid (hk.heap HW0.out (fun h => h))
      have HW1 := Lib.hid (pair_set HV.out (.int .i64 10) (.int .i64 (-7)))
      have KW1 := Lib.hid ((KW0.out.trans hk).trans' (keeps_pair (w := w6) bw (.int .i64 10) (.int .i64 (-7))) (fun q hq => .inr (by rw [hq]; exact HBW.out)))
      clear hk g0 g1 z0 z1 gl
      obtain ⟨g0, g1, z0, z1, gl⟩ := pair_cells HV.out
      go_upto_region 13 with fail
      generalize (w6.setCell ⟨bw, 0, none⟩ (.int .i64 10)).setCell ⟨bw, 1, none⟩ (.int .i64 (-7)) = wb1 at HW1 KW1 ⊢
      clear g0 g1 z0 z1 gl HV
      obtain ⟨g0, g1, z0, z1, gl⟩ := pair_cells HW1.out
      have HFn := Lib.hid (KW1.out.heap HFx.out (fun h => h)); have HRn := Lib.hid (KW1.out.heap HRx.out (fun h => h))
      have HKn := Lib.hid (HK3.out.trans KW1.out)
      obtain ⟨f0, f1, _, _, fl⟩ := pair_cells HFn.out
      obtain ⟨r0, r1, r2, r3, rl⟩ := quad_cells HRn.out
      simp only [List.length_nil] at r1 HRn ⊢
      go_wp2_with fail
      refine (noResult_any _ false _ 0 _ 0 0 (by omega)).mono ?_; rintro e w9 ⟨rfl, hk⟩
      have HK9 := Lib.hid (HKn.out.trans hk)
      clear hk
      go_wp2_with fail
      go_ret
      exact ⟨rfl, HK9.out⟩
    case inr.inr.inr.inr =>
      have HREF := Lib.hid href
      clear href
      have q1 : (tc == 0) = true := by simpa using h1
      clear HPX
      have HA := Lib.hid ha; have HIN := Lib.hid hf; have OK := Lib.hid ok; have HX := Lib.hid hx
      clear ha hf ok hx
      go_wp2_with fail
      refine (refAdm_any k _).mono ?_; rintro e w6 ⟨rfl, rfl⟩
      rw [HA.out]
      go_wp2_with fail
      refine (in_val _ HIN.out).mono ?_; rintro e w6 ⟨rfl, rfl⟩
      have HB0a := Lib.hid (HB3.out.keeps0 KW0.out); have HT0a := Lib.hid (HT3.out.keeps0 KW0.out)
      have hbxd := HB0a.out.lt
      obtain ⟨d0, d1, d2, d3⟩ := HB0a.out
      go_wp2_with fail
      have hE := expF_ok OK.out HX.out
      have HC := explored_any _ _ _ _ t HT0a.out
      rw [hE] at HC
      clear hE
      clear hbxd d0 d1 d2 d3
      refine (HC).mono ?_; rintro e w6 ⟨rfl, hk⟩
      have HV := Lib.hid (hk.heap HW0.out (fun h => h))
      have HW1 := Lib.hid (pair_set HV.out (.int .i64 0) (.int .i64 0))
      have KW1 := Lib.hid ((KW0.out.trans hk).trans' (keeps_pair (w := w6) bw (.int .i64 0) (.int .i64 0)) (fun q hq => .inr (by rw [hq]; exact HBW.out)))
      clear hk g0 g1 z0 z1 gl
      obtain ⟨g0, g1, z0, z1, gl⟩ := pair_cells HV.out
      go_upto_region 13 with fail
      generalize (w6.setCell ⟨bw, 0, none⟩ (.int .i64 0)).setCell ⟨bw, 1, none⟩ (.int .i64 0) = wb1 at HW1 KW1 ⊢
      clear g0 g1 z0 z1 gl HV
      obtain ⟨g0, g1, z0, z1, gl⟩ := pair_cells HW1.out
      have HB1a := Lib.hid (HB3.out.keeps0 KW1.out); have HT1a := Lib.hid (HT3.out.keeps0 KW1.out)
      have hbxd := HB1a.out.lt
      obtain ⟨d0, d1, d2, d3⟩ := HB1a.out
      go_wp2_with fail
      refine (bestPlans_any _ _ _ _ t HT1a.out OK.out HX.out).mono ?_; rintro e w7 ⟨b, rfl, hb, hk⟩
      have HBE := Lib.hid (HREF.out b hb)
      have KW2 := Lib.hid (KW1.out.trans hk); have HW2 := Lib.hid (hk.heap HW1.out (fun h => h))
      clear hk hb hbxd d0 d1 d2 d3 g0 g1 z0 z1 gl HREF q1 HW1
      obtain ⟨g0, g1, z0, z1, gl⟩ := pair_cells HW2.out
      have HFn := Lib.hid (KW2.out.heap HFx.out (fun h => h)); have HRn := Lib.hid (KW2.out.heap HRx.out (fun h => h))
      have HKn := Lib.hid (HK3.out.trans KW2.out)
      obtain ⟨f0, f1, _, _, fl⟩ := pair_cells HFn.out
      obtain ⟨r0, r1, r2, r3, rl⟩ := quad_cells HRn.out
      rcases HBE.out with ⟨hs, rfl, rfl, rfl, rfl, rfl, rfl⟩ | ⟨rfl, rfl, hfd, hsn, hc, hc0, hf1, hf2, hbb⟩
      case inl =>
        have hb0 : ¬ b < 0 := by intro h; unfold stepsB at hs; rw [if_pos h] at hs; omega
        have hs2 : 60 < b % 4096 := by unfold stepsB at hs; rw [if_neg hb0] at hs; exact hs
        have hs3 : decide (60 < b % 4096) = true := by simpa using hs2
        rw [show bestV b = .tuple #[.int .i64 (b / 4096), .int .i64 (b % 4096), .bool true] from by unfold bestV; rw [if_neg hb0]]
        generalize b % 4096 = st at hs2 hs3 ⊢
        generalize b / 4096 = ct
        clear hs hb0 HBE
        simp only [List.length_nil] at r1 HRn ⊢
        go_upto_region 17 with fail
        have KD := (Keeps.refl (fun _ => False) w7).drew
        have HFd := Lib.hid (KD.heap HFn.out (fun h => h)); have HRd := Lib.hid (KD.heap HRn.out (fun h => h)); have HKd := Lib.hid (HKn.out.trans KD)
        clear KD
        go_region_with (first | (go_at_call 22; refine (at_any _ 10 (-9)).mono ?_; rintro e w8 ⟨rfl, hk⟩; have HF8 := Lib.hid (hk.heap HFd.out (fun h => h)); have HR8 := Lib.hid (hk.heap HRd.out (fun h => h)); have HK8 := Lib.hid (HKd.out.trans hk); obtain ⟨f0', f1', _, _, fl'⟩ := pair_cells HF8.out; obtain ⟨r0', r1', r2', r3', rl'⟩ := quad_cells HR8.out; clear hk) | (go_at_call 12; refine (noResult_any _ false _ 0 _ 0 0 (by omega)).mono ?_; rintro e w9 ⟨rfl, hk⟩; have HK9 := Lib.hid (HK8.out.trans hk); clear hk))
        all_goals
          go_wp2_with fail
          go_ret
          exact ⟨rfl, HK9.out⟩
      case inr =>
        have HSN := Lib.hid hsn
        have HI2 := Lib.hid (HIx.out.keeps0 KW2.out)
        obtain ⟨ct, st, hbv, hct⟩ : ∃ ct st, bestV b = .tuple #[.int .i64 ct, .int .i64 st, .bool fndx] ∧ cx ≤ f * ct ∧ 0 ≤ ct ∧ ct ≤ 1000000000 := by
          by_cases hb0 : b < 0
          · refine ⟨0, 0, ?_, ?_, by omega, by omega⟩
            · unfold bestV; rw [if_pos hb0, hfd, decide_eq_false_iff_not.2 (by omega)]
            · rw [hc0 hb0]; simp
          · refine ⟨b / 4096, b % 4096, ?_, hc (by omega), by omega, by omega⟩
            unfold bestV; rw [if_neg hb0, hfd, decide_eq_true_iff.2 (by omega)]
        obtain ⟨h1, h2, h3⟩ := hct
        have h8 : f * ct ≤ 10 * ct := Int.mul_le_mul_of_nonneg_right hf2 h2
        have h9 : 0 ≤ f * ct := Int.mul_nonneg (by omega) h2
        have hw : IntKind.i64.wrap (f * ct) = f * ct := IntWalk.i64_in _ (by omega)
        have hle : decide (cx ≤ f * ct) = true := by simpa using h1
        rw [hbv]
        clear hbv hfd hsn hc hc0 HBE h8 h9 h1 h2 h3
        have HB2a := Lib.hid (HB3.out.keeps0 KW2.out); have HT2a := Lib.hid (HT3.out.keeps0 KW2.out)
        have hbxd := HB2a.out.lt
        obtain ⟨d0, d1, d2, d3⟩ := HB2a.out
        go_wp2_with fail
        refine (sound_any _ _ _ _ _ t l fndx lpx cx nx HT2a.out OK.out HX.out HI2.out HSN.out).mono ?_; rintro e w8 ⟨rfl, hk⟩
        have HR8 := Lib.hid (hk.heap HRn.out (fun h => h)); have HK8 := Lib.hid (HKn.out.trans hk)
        clear f0 f1 fl r0 r1 r2 r3 rl hk hbxd d0 d1 d2 d3
        obtain ⟨r0, r1, r2, r3, rl⟩ := quad_cells HR8.out
        go_wp2_with fail
        go_ret
        exact ⟨rfl, HK8.out⟩

end Go.Proofs.YtdokakhgflljgaaGreat

namespace Go.Proofs.YtdokakhgflljgaaGreat
open Go.RowKit Go.Shelf

theorem gone_cases {t : Tsk} {k : Int} {fx fy : Bool} {px py : List Int} {cx cy nx ny fcx fix fcy fiy : Int} (hx : GWIs t k 1 fx px cx nx fcx fix) (hy : PlanIsK t (admK k) fy py cy ny fcy fiy) :
    fcx ≠ 0 ∨ fcy ≠ 0 ∨ (fcx = 0 ∧ fcy = 0 ∧ fy = fx ∧ cy = cx) := by
  by_cases h0 : fcx = 0
  · by_cases h1 : fcy = 0
    · refine .inr (.inr ⟨h0, h1, ?_⟩)
      subst h0 h1
      rcases hx with ⟨h, _⟩ | ⟨had, _, hkz, ok, l, hl, hx⟩
      · exact absurd rfl h
      have hy' : BPlanIs t fy py cy ny 0 fiy := hy.elim (fun h => h.2) (fun h => by have h1 := h.1; rw [had] at h1; cases h1)
      rcases hy' with ⟨h, _⟩ | ⟨_, _, l', b, _, hb, hh⟩
      · exact absurd rfl h
      rcases hh with ⟨_, h, _⟩ | ⟨hs, _, _, hg⟩
      · cases h
      rcases hx with ⟨hn, rfl, rfl, rfl, _⟩ | ⟨q, y, g1, g2, g3, rfl, rfl, rfl, _, _, _, _, g4⟩ | ⟨_, _, _, _, _, _, _, _, h, _⟩
      · by_cases hneg : b < 0
        · obtain ⟨rfl, _, rfl⟩ := hg.none_ hneg
          exact ⟨rfl, rfl⟩
        · rcases hb with ⟨h, _⟩ | ⟨_, ⟨p, y, h1, h2, _⟩, _⟩
          · omega
          · rw [hn p y h1] at h2; cases h2
      · rcases hb with ⟨_, h⟩ | ⟨h0, ⟨p, z, h1, h2, h3⟩, h4⟩
        · rw [h q y g1] at g2; cases g2
        · obtain ⟨rfl, q', y', rfl, _, _, _, hcost, rfl⟩ := hg.some_ h0
          have k1 := h4 q y g1 g2
          have k2 := g4 p z h1 h2
          rw [wayK_one, h3] at k2
          have k3 := wayN_split (wordsOf t.ops) q
          refine ⟨rfl, ?_⟩
          rw [costL_is, costL_is, hcost]
          omega
      · cases h
    · exact .inr (.inl h1)
  · exact .inl h0
theorem gweight1_any (w : World) (vi vg vo : Value) (t : Tsk) (k : Int) (h : TaskAt w vi vg vo t) :
    Calls Tryz.prog 19 #[.agg #[.int .i64 t.n, vi, vg, vo], .int .i64 k, .int .i64 1] w (GWPost t k 1 w) := gweight_any w vi vg vo t k 1 h

set_option maxRecDepth 100000 in
set_option maxHeartbeats 4000000 in
theorem goneLaw_any (w : World) (vi vg vo : Value) (t : Tsk) (k : Int) (h : TaskAt w vi vg vo t) :
    Calls Tryz.prog 5 #[.agg #[.int .i64 t.n, vi, vg, vo], .int .i64 k] w fun e w' => e = .returned (.bool true) ∧ Keeps (fun _ => False) w w' := by
  obtain ⟨ai, ci, h1, _⟩ := h.init.form
  obtain ⟨ag, cg, h2, _⟩ := h.goal.form
  obtain ⟨ao, co, h3, hmo⟩ := h.ops.form
  subst h1 h2 h3
  have HB := Lib.hid (Four.new w (.int .i64 t.n) (.slice ai t.init.length ci) (.slice ag t.goal.length cg) (.slice ao t.ops.length co) 25)
  have K1 := (Keeps.refl (fun _ => False) w).alloc (.cells #[.int .i64 t.n, .slice ai t.init.length ci, .slice ag t.goal.length cg, .slice ao t.ops.length co] 25)
  have HT := Lib.hid (h.keeps0 K1); have HK := Lib.hid K1
  clear h K1
  go_enter Tryz.func5, Tryz.ntmps5
  go_upto_region 1 with fail
  generalize (w.alloc (.cells #[.int .i64 t.n, .slice ai t.init.length ci, .slice ag t.goal.length cg, .slice ao t.ops.length co] 25)) = w1 at HB HT HK ⊢
  generalize w.heap.size = bt at HB ⊢
  go_wp2_with fail
  refine (greedyExample_any _).mono ?_; rintro e w2 ⟨rfl, hk⟩
  have HB1 := Lib.hid (HB.out.keeps0 hk); have HT1 := Lib.hid (HT.out.keeps0 hk); have HK1 := Lib.hid (HK.out.trans hk)
  clear HB HT HK hk
  have hbxd := HB1.out.lt
  obtain ⟨d0, d1, d2, d3⟩ := HB1.out
  go_wp2_with fail
  refine (gweight1_any _ _ _ _ t k HT1.out).mono ?_; rintro e w4 ⟨hk, fndx, vp, lpx, cx, nx, fcx, fix, rfl, hi, hr⟩
  obtain ⟨apx, cpx, hvp, _⟩ := hi.form
  subst hvp
  have HPX := Lib.hid hr
  clear hr hbxd d0 d1 d2 d3
  simp only [resV, fltV]
  have KA := (Keeps.refl (fun _ => False) w4).alloc (.cells #[.bool fndx, .slice apx lpx.length cpx, .int .i64 cx, .int .i64 nx] 29)
  have KB := (Keeps.refl (fun _ => False) (w4.alloc (.cells #[.bool fndx, .slice apx lpx.length cpx, .int .i64 cx, .int .i64 nx] 29))).alloc (.cells #[.int .i64 fcx, .int .i64 fix] 31)
  have KC := hk.trans (KA.trans KB)
  have HB2 := Lib.hid (HB1.out.keeps0 KC); have HT2 := Lib.hid (HT1.out.keeps0 KC); have HK2 := Lib.hid (HK1.out.trans KC)
  have HRx := Lib.hid (KB.heap (heap_alloc_new w4 (.cells #[.bool fndx, .slice apx lpx.length cpx, .int .i64 cx, .int .i64 nx] 29)) (fun h => h))
  have hf := heap_alloc_new (w4.alloc (.cells #[.bool fndx, .slice apx lpx.length cpx, .int .i64 cx, .int .i64 nx] 29)) (.cells #[.int .i64 fcx, .int .i64 fix] 31)
  rw [World.size_alloc] at hf
  have HFx := Lib.hid hf
  have HIx := Lib.hid (hi.keeps0 (KA.trans KB))
  clear HB1 HT1 HK1 hk KA KB KC hf hi
  go_upto_region 4 with fail
  generalize (w4.alloc (.cells #[.bool fndx, .slice apx lpx.length cpx, .int .i64 cx, .int .i64 nx] 29)).alloc (.cells #[.int .i64 fcx, .int .i64 fix] 31) = w5 at HB2 HT2 HK2 HRx HFx HIx  ⊢
  generalize w4.heap.size = bqx at HRx HFx ⊢
  have hbxd := HB2.out.lt
  obtain ⟨d0, d1, d2, d3⟩ := HB2.out
  go_wp2_with fail
  refine (aplanK_any _ _ _ _ t k HT2.out).mono ?_; rintro e w4 ⟨hk, fndy, vp, lpy, cy, ny, fcy, fiy, rfl, hi, hr, _⟩
  obtain ⟨apy, cpy, hvp, _⟩ := hi.form
  subst hvp
  have HPY := Lib.hid hr
  clear hr hbxd d0 d1 d2 d3
  simp only [resV, fltV]
  have KA := (Keeps.refl (fun _ => False) w4).alloc (.cells #[.bool fndy, .slice apy lpy.length cpy, .int .i64 cy, .int .i64 ny] 29)
  have KB := (Keeps.refl (fun _ => False) (w4.alloc (.cells #[.bool fndy, .slice apy lpy.length cpy, .int .i64 cy, .int .i64 ny] 29))).alloc (.cells #[.int .i64 fcy, .int .i64 fiy] 31)
  have KC := hk.trans (KA.trans KB)
  have HB3 := Lib.hid (HB2.out.keeps0 KC); have HT3 := Lib.hid (HT2.out.keeps0 KC); have HK3 := Lib.hid (HK2.out.trans KC)
  have HRy := Lib.hid (KB.heap (heap_alloc_new w4 (.cells #[.bool fndy, .slice apy lpy.length cpy, .int .i64 cy, .int .i64 ny] 29)) (fun h => h))
  have hf := heap_alloc_new (w4.alloc (.cells #[.bool fndy, .slice apy lpy.length cpy, .int .i64 cy, .int .i64 ny] 29)) (.cells #[.int .i64 fcy, .int .i64 fiy] 31)
  rw [World.size_alloc] at hf
  have HFy := Lib.hid hf
  have HIy := Lib.hid (hi.keeps0 (KA.trans KB))
  have HRx' := Lib.hid (KC.heap HRx.out (fun h => h)); have HFx' := Lib.hid (KC.heap HFx.out (fun h => h))
  clear HB2 HT2 HK2 hk KA KB KC hf hi
  clear HRx
  have HRx := HRx'
  clear HRx'
  clear HFx
  have HFx := HFx'
  clear HFx'
  go_upto_region 5 with fail
  generalize (w4.alloc (.cells #[.bool fndy, .slice apy lpy.length cpy, .int .i64 cy, .int .i64 ny] 29)).alloc (.cells #[.int .i64 fcy, .int .i64 fiy] 31) = w5 at HB3 HT3 HK3 HRy HFy HIy HRx HFx ⊢
  generalize w4.heap.size = bqy at HRy HFy ⊢
  obtain ⟨r0, r1, r2, r3, rl⟩ := quad_cells HRx.out
  obtain ⟨f0, f1, _, _, fl⟩ := pair_cells HFx.out
  obtain ⟨s0, s1, s2, s3, sl⟩ := quad_cells HRy.out
  obtain ⟨e0, e1, _, _, el⟩ := pair_cells HFy.out
  have hcs := gone_cases HPX.out HPY.out
  clear HPX HPY HIx HIy
  by_cases hx0 : fcx = 0
  case neg =>
    have q1 : (fcx != 0) = true := by simpa using hx0
    clear hcs
    go_wp2_with fail
    go_ret
    exact ⟨rfl, HK3.out⟩
  case pos =>
    have q1 : (fcx != 0) = false := by simpa using hx0
    by_cases hy0 : fcy = 0
    case neg =>
      have q2 : (fcy != 0) = true := by simpa using hy0
      clear hcs
      go_wp2_with fail
      go_ret
      exact ⟨rfl, HK3.out⟩
    case pos =>
      have q2 : (fcy != 0) = false := by simpa using hy0
      obtain ⟨rfl, rfl⟩ : fndy = fndx ∧ cy = cx := by
        rcases hcs with h | h | ⟨_, _, h1, h2⟩
        · exact absurd hx0 h
        · exact absurd hy0 h
        · exact ⟨h1, h2⟩
      clear hcs
      go_wp2_with fail
      go_ret
      exact ⟨rfl, HK3.out⟩

end Go.Proofs.YtdokakhgflljgaaGreat
