/- greedy.Weighted. bothends: the example of the laws. greedy: the example of the laws. greedy: the laws' sound. AstarValuesMatchSpec walked. GreedyPlanMatchesSpec walked. No condition beyond what each theorem says. -/
import Derived.Test.YtdokakhgflljgaaGreatM8
import Derived.Test.YtdokakhgflljgaaGreatM14
import Derived.Deep.Cut
import Derived.Test.YtdokakhgflljgaaGreatM12
import Derived.Test.YtdokakhgflljgaaGreatM13
import Derived.Test.YtdokakhgflljgaaGreatM6
import Derived.Test.YtdokakhgflljgaaGreatM3
import Derived.BigQuiet

namespace Go.Proofs.YtdokakhgflljgaaGreat
open Go.RowKit Go.Shelf

theorem RFl.keepsS {w w1 w2 : World} {R F : Nat} {S : Nat → Prop} (h : RFl w w1 R F) (hk : Keeps S w1 w2) (h1 : ¬ S R) (h2 : ¬ S F) (h3 : ∀ i, S i → w.heap.size ≤ i) : RFl w w2 R F := ⟨hk.heap h.res h1, h.flt.keepsS hk h2 h3, h.base, h.ne⟩
/-- The fault of a factor, behind that of Checked. -/
def wtdF (p : Int × Int) (f : Int) : Int × Int := if ((p.1 = 0 ∧ p.2 = 0) ∨ p.2 = -7) ∧ ¬ (1 ≤ f ∧ f ≤ 10) then (3, -8) else p
/-- What Weighted hands back. -/
def GWIs (t : Tsk) (k f : Int) (fnd : Bool) (lp : List Int) (c n fc fi : Int) : Prop :=
 (fc ≠ 0 ∧ (fc, fi) = wtdF (kindF t (admK k)) f ∧ fnd = false ∧ lp = [] ∧ c = 0 ∧ n = 0) ∨
 (admK k = true ∧ (1 ≤ f ∧ f ≤ 10) ∧ kindF t (admK k) = (0, 0) ∧ t.Ok ∧ ∃ l, explored t = some l ∧
  ((Best (wordsOf t.ops) (wd t.init) (goalB (wd t.goal)) none ∧ fnd = false ∧ lp = [] ∧ c = 0 ∧ 0 ≤ n ∧ n ≤ (l.length : Int) ∧ fc = 0 ∧ fi = 0) ∨
    (∃ q y, runOps (wordsOf t.ops) (wd t.init) q = some y ∧ goalB (wd t.goal) y = true ∧ q.length ≤ 60 ∧ fnd = true ∧ lp = intsP q ∧ c = costL t lp ∧ 0 ≤ n ∧ n ≤ (l.length : Int) ∧ fc = 0 ∧ fi = 0 ∧
    ∀ r z, runOps (wordsOf t.ops) (wd t.init) r = some z → goalB (wd t.goal) z = true → wayN 4096 1 (wordsOf t.ops) q ≤ wayK f (wordsOf t.ops) r) ∨
    (∃ b, BestT t b ∧ 0 ≤ b ∧ 60 < stepsB b ∧ fnd = false ∧ lp = [] ∧ c = 0 ∧ n = 0 ∧ fc = 10 ∧ fi = -9)))
def GWPost (t : Tsk) (k f : Int) (w : World) (e : Ending) (w' : World) : Prop := Keeps (fun _ => False) w w' ∧ ∃ fnd vp lp c n fc fi, e = .returned (.tuple #[resV fnd vp c n, fltV fc fi]) ∧ Ints w' vp lp ∧ GWIs t k f fnd lp c n fc fi
theorem wtd_le {f : Int} {ops : List Wop} (h0 : ∀ o ∈ ops, 0 ≤ o.cost ∧ o.cost ≤ 100) (hf : 1 ≤ f) (q : List Nat) : wayN 4096 1 ops q ≤ wayK f ops q := by
 have h5 : 1 * costN ops q ≤ f * costN ops q := Int.mul_le_mul_of_nonneg_right hf (costN_bound h0 q).1
 rw [wayN_split]; unfold wayK; omega
theorem least_no {ops : List Wop} {s : Nat} {acc : Nat → Bool} (h : LeastOf 4096 1 ops s acc (-1)) : Best ops s acc none := by
 rcases h with ⟨_, h⟩ | ⟨h, _⟩
 ·exact h
 ·omega

set_option maxRecDepth 100000 in
set_option maxHeartbeats 8000000 in
theorem gweight_any (w : World) (vi vg vo : Value) (t : Tsk) (k f : Int) (h : TaskAt w vi vg vo t) :
  Calls Tryz.prog 19 #[.agg #[.int .i64 t.n, vi, vg, vo], .int .i64 k, .int .i64 f] w (GWPost t k f w) := by
 obtain ⟨ai, ci, h1, _⟩ := h.init.form
 obtain ⟨ag, cg, h2, _⟩ := h.goal.form
 obtain ⟨ao, co, h3, hmo⟩ := h.ops.form
 subst h1 h2 h3
 have hsf : ∀ (a : Addr) (fn : Fn) (first cap : Array Value) (m : Mode) (w : World), (store a (.func fn first cap) m).run Tryz.prog w = stored Tryz.prog w a (.func fn first cap) m := fun a fn first cap m w => run_store Tryz.prog w a _ m rfl
 have hmf : ∀ (fn : Fn) (first cap : Array Value) (w : World), (Instr.makeFunc fn first cap).run Tryz.prog w = .ok (.func fn first cap) w := fun _ _ _ _ => rfl
 have K1 := (Keeps.refl (fun _ => False) w).alloc (.cells #[.int .i64 t.n, .slice ai t.init.length ci, .slice ag t.goal.length cg, .slice ao t.ops.length co] 25)
 have KX := (Keeps.refl (fun _ => False) (w.alloc (.cells #[.int .i64 t.n, .slice ai t.init.length ci, .slice ag t.goal.length cg, .slice ao t.ops.length co] 25))).alloc (.cells #[.int .i64 f] 3)
 have KA := (Keeps.refl (fun _ => False) ((w.alloc (.cells #[.int .i64 t.n, .slice ai t.init.length ci, .slice ag t.goal.length cg, .slice ao t.ops.length co] 25)).alloc (.cells #[.int .i64 f] 3))).alloc (.cells #[.bool false, .slice none 0 0, .int .i64 0, .int .i64 0] 29)
 have KB := (Keeps.refl (fun _ => False) (((w.alloc (.cells #[.int .i64 t.n, .slice ai t.init.length ci, .slice ag t.goal.length cg, .slice ao t.ops.length co] 25)).alloc (.cells #[.int .i64 f] 3)).alloc (.cells #[.bool false, .slice none 0 0, .int .i64 0, .int .i64 0] 29))).alloc (.cells #[.int .i64 0, .int .i64 0] 31)
 have HB := Lib.hid ((Four.new w (.int .i64 t.n) (.slice ai t.init.length ci) (.slice ag t.goal.length cg) (.slice ao t.ops.length co) 25).keeps0 (KX.trans (KA.trans KB)))
 have hx := (KA.trans KB).heap (heap_alloc_new (w.alloc (.cells #[.int .i64 t.n, .slice ai t.init.length ci, .slice ag t.goal.length cg, .slice ao t.ops.length co] 25)) (.cells #[.int .i64 f] 3)) (fun h => h)
 have hr := KB.heap (heap_alloc_new ((w.alloc (.cells #[.int .i64 t.n, .slice ai t.init.length ci, .slice ag t.goal.length cg, .slice ao t.ops.length co] 25)).alloc (.cells #[.int .i64 f] 3)) (.cells #[.bool false, .slice none 0 0, .int .i64 0, .int .i64 0] 29)) (fun h => h)
 have hf : Flt w _ _ 31 := ⟨heap_alloc_new (((w.alloc (.cells #[.int .i64 t.n, .slice ai t.init.length ci, .slice ag t.goal.length cg, .slice ao t.ops.length co] 25)).alloc (.cells #[.int .i64 f] 3)).alloc (.cells #[.bool false, .slice none 0 0, .int .i64 0, .int .i64 0] 29)) (.cells #[.int .i64 0, .int .i64 0] 31), by simp; omega, K1.trans (KX.trans (KA.trans KB))⟩
 have HT := Lib.hid (h.keeps0 (K1.trans (KX.trans (KA.trans KB))))
 simp only [World.size_alloc] at hr hf hx
 have HR := Lib.hid (show RFl w _ (w.heap.size + 1 + 1) (w.heap.size + 1 + 1 + 1) from ⟨hr, hf, by omega, by omega⟩)
 have HX5 := Lib.hid hx
 clear h K1 KX KA KB hr hf hx
 go_enter Tryz.func19, Tryz.ntmps19
 go_upto_region 1 with fail
 generalize ((((w.alloc (.cells #[.int .i64 t.n, .slice ai t.init.length ci, .slice ag t.goal.length cg, .slice ao t.ops.length co] 25)).alloc (.cells #[.int .i64 f] 3)).alloc (.cells #[.bool false, .slice none 0 0, .int .i64 0, .int .i64 0] 29)).alloc (.cells #[.int .i64 0, .int .i64 0] 31)) = w1 at HB HR HT HX5 ⊢
 go_cut [8, 10] from 15 (fun s8 s10 wc => ∃ (b10 : Nat) (c i : Int), s10 = .pointer (some ⟨b10, 0, none⟩) ∧ wc.heap[b10]? = some (.cells #[.int .i64 c, .int .i64 i] 31 (0, 0)) ∧ w1.heap.size ≤ b10 ∧ CkR t (admK k) w1 s8 c i wc)
 case first =>
  have KD : Keeps (fun _ => False) w1 w1.drew := (Keeps.refl (fun _ => False) w1).drew
  have KA : Keeps (fun _ => False) w1.drew (w1.alloc (.cells #[.int .i64 0, .int .i64 0] 31)).drew := by
   have h := (Keeps.refl (fun _ => False) w1.drew).alloc (.cells #[.int .i64 0, .int .i64 0] 31)
   exact h
  have HTD := Lib.hid (HT.out.keeps0 KD); have HKD := Lib.hid KD; have HKA := Lib.hid KA
  have HZ8 := Lib.hid (show (w1.alloc (.cells #[.int .i64 0, .int .i64 0] 31)).drew.heap[w1.heap.size]? = some (.cells #[.int .i64 0, .int .i64 0] 31 (0, 0)) from heap_alloc_new w1 _)
  have HB1 := HB.out.keeps0 KD
  have hbx := HB1.lt
  have HBX := Lib.hid (show w.heap.size < w1.heap.size from HB.out.lt)
  have HWZ := Lib.hid (show w1.heap.size ≤ (w1.drew).heap.size from Nat.le_refl _)
  obtain ⟨d0, d1, d2, d3⟩ := HB1
  obtain ⟨d0', d1', d2', d3'⟩ := (HB.out.keeps0 KD).keeps0 KA
  clear KD KA
  go_region_held3 (fun w' => w'.cell? ⟨w.heap.size, 0, none⟩ = some (.int .i64 t.n) ∧ w'.cell? ⟨w.heap.size, 1, none⟩ = some (.slice ai t.init.length ci) ∧ w'.cell? ⟨w.heap.size, 2, none⟩ = some (.slice ag t.goal.length cg) ∧ w'.cell? ⟨w.heap.size, 3, none⟩ = some (.slice ao t.ops.length co))
   (first | go_keep | with_reducible exact ⟨(keeps_pair (w := w9) w1.heap.size (.int .i64 fc) (.int .i64 fi)).cell t0 (show ¬ w.heap.size = w1.heap.size by have := HBX.out; omega), (keeps_pair (w := w9) w1.heap.size (.int .i64 fc) (.int .i64 fi)).cell t1 (show ¬ w.heap.size = w1.heap.size by have := HBX.out; omega), (keeps_pair (w := w9) w1.heap.size (.int .i64 fc) (.int .i64 fi)).cell t2 (show ¬ w.heap.size = w1.heap.size by have := HBX.out; omega), (keeps_pair (w := w9) w1.heap.size (.int .i64 fc) (.int .i64 fi)).cell t3 (show ¬ w.heap.size = w1.heap.size by have := HBX.out; omega)⟩)
   (first
    | (go_at_call 44; refine (admissible_any k _).mono ?_; rintro e wq ⟨rfl, rfl⟩)
    | (go_at_call 29; refine (acheckB_any _ _ _ _ t (admK k) HTD.out).mono ?_; rintro e w9 ⟨pv, lv, fc, fi, rfl, hr⟩; have HCP := Lib.hid hr; have hk := hr.1; have HKZ := Lib.hid hk.size; have t0 := hk.cell d0 (fun h => h); have t1 := hk.cell d1 (fun h => h); have t2 := hk.cell d2 (fun h => h); have t3 := hk.cell d3 (fun h => h); clear hk hr)
    | (go_at_call 29; refine (acheckB_any _ _ _ _ t (admK k) (HTD.out.keeps0 HKA.out)).mono ?_; rintro e w9 ⟨pv, lv, fc, fi, rfl, hr⟩; have HCP := Lib.hid hr; have hk := hr.1; have HZ9 := Lib.hid (hk.heap HZ8.out (fun h => h)); obtain ⟨q0, q1, y0, y1, hl6⟩ := pair_cells HZ9.out; have t0 := hk.cell d0' (fun h => h); have t1 := hk.cell d1' (fun h => h); have t2 := hk.cell d2' (fun h => h); have t3 := hk.cell d3' (fun h => h); clear hk hr))
  all_goals
   first
    | (have HFI := Lib.hid (And.intro (pair_set HZ9.out (.int .i64 fc) (.int .i64 fi)) (And.intro (Nat.le_refl w1.heap.size) (HCP.out.past1 (w := w1) (b := w1.heap.size) (x := .int .i64 fc) (y := .int .i64 fi) (Nat.le_refl _) (lt_of_heap HZ8.out) (HKD.out.trans HKA.out))))
       clear t0 t1 t2 t3 q0 q1 y0 y1 HZ9 hl6 HCP
       go_wp2
       go_meet
       case rel => exact ⟨_, fc, fi, rfl, HFI.out⟩)
    | (have HFI := Lib.hid (And.intro (heap_alloc_new w9 (.cells #[.int .i64 fc, .int .i64 fi] 31)) (And.intro (show w1.heap.size ≤ w9.heap.size from HKZ.out) (HCP.out.past2 (w := w1) (o := .cells #[.int .i64 fc, .int .i64 fi] 31) HKD.out)))
       clear t0 t1 t2 t3 HCP
       go_wp2
       go_meet
       case rel => exact ⟨_, fc, fi, rfl, HFI.out⟩)
 case rest =>
  obtain ⟨b10, c, i, rfl, hb10, hl10, hck⟩ := hcut
  have HB10 := Lib.hid hb10
  have HB4 := Lib.hid (HB.out.keeps0 hck.1); have HT4 := Lib.hid (HT.out.keeps0 hck.1); have HR4 := Lib.hid (HR.out.keeps0 hck.1); have HX4 := Lib.hid (hck.1.heap HX5.out (fun h => h))
  have HCK := Lib.hid hck.2
  have hw1 := lt_of_heap HR.out.flt.blk
  have hwc := hck.1.size
  obtain ⟨f0, f1, y0, y1, hlf⟩ := pair_cells hb10
  have x5c : wc.cell? ⟨w.heap.size + 1, 0, none⟩ = some (.int .i64 f) := (cell_of_blk HX4.out).trans rfl
  have x5l := lt_of_heap HX4.out
  clear hb10 hck HB HT HR HX5
  rcases HCK.out with ⟨hc, hke⟩ | ⟨rfl, rfl, had, ok, l, hx, b, v, ws, rfl, hw, hp⟩
  ·have hcb : (c == 0) = false := by simpa using hc
   have HKE := Lib.hid (And.intro hc hke)
   clear hc hke HCK
   by_cases h7 : i = -7
   ·subst h7
    by_cases hf1 : f < 1
    ·have hd1 : decide (f < 1) = true := by simpa using hf1
     have HPF := Lib.hid (show (3, -8) = wtdF (kindF t (admK k)) f from by rw [← HKE.out.2]; unfold wtdF; rw [if_pos ⟨.inr rfl, by omega⟩])
     have HF0 := Lib.hid (pair_set HB10.out (.int .i64 3) (.int .i64 (-8)))
     have HR5 := Lib.hid (HR4.out.keepsS (keeps_pair (w := wc) b10 (.int .i64 3) (.int .i64 (-8))) (fun e => by have e' : w.heap.size + 1 + 1 = b10 := e; omega) (fun e => by have e' : w.heap.size + 1 + 1 + 1 = b10 := e; omega) (fun i hi => by rw [hi]; omega))
     go_upto_region 4 with fail
     clear f0 f1 y0 y1 hlf HR4
     generalize (wc.setCell ⟨b10, 0, none⟩ (.int .i64 3)).setCell ⟨b10, 1, none⟩ (.int .i64 (-8)) = wd3 at HF0 HR5 ⊢
     have HR4 := HR5
     obtain ⟨f0, f1, _, _, hlf⟩ := pair_cells HF0.out
     clear HR5
     have HFIN := Lib.hid (HR4.out.fin (.int .i64 (3)) (.int .i64 (-8)))
     obtain ⟨r0, r1, r2, r3, y0, y1, y2, y3, hlR⟩ := HR4.out.cells
     obtain ⟨e0, e1, z0, z1, hF⟩ := HR4.out.flt.cells
     obtain ⟨s0, s1, s2, s3⟩ := HR4.out.ids
     go_wp2_with fail
     go_region
     all_goals
      go_wp2
      refine bodyPost_ret (results_cell_cell _ _ (w.heap.size + 1 + 1 + 1) 31 #[.int .i64 (3), .int .i64 (-8)] (0, 0) _ rfl rfl HFIN.out.2.1 Tryz.underlying31 rfl (by kernel_rfl) rfl HFIN.out.1 Tryz.underlying29 rfl (by kernel_rfl)) rfl ?_
      exact ⟨HFIN.out.2.2, false, _, [], 0, 0, 3, -8, rfl, Ints.nil _, .inl ⟨by decide, HPF.out, rfl, rfl, rfl, rfl⟩⟩
    ·have hd1 : decide (f < 1) = false := by simpa using hf1
     by_cases hf2 : 10 < f
     ·have hd2 : decide (10 < f) = true := by simpa using hf2
      have HPF := Lib.hid (show (3, -8) = wtdF (kindF t (admK k)) f from by rw [← HKE.out.2]; unfold wtdF; rw [if_pos ⟨.inr rfl, by omega⟩])
      have HF0 := Lib.hid (pair_set HB10.out (.int .i64 3) (.int .i64 (-8)))
      have HR5 := Lib.hid (HR4.out.keepsS (keeps_pair (w := wc) b10 (.int .i64 3) (.int .i64 (-8))) (fun e => by have e' : w.heap.size + 1 + 1 = b10 := e; omega) (fun e => by have e' : w.heap.size + 1 + 1 + 1 = b10 := e; omega) (fun i hi => by rw [hi]; omega))
      go_upto_region 4 with fail
      clear f0 f1 y0 y1 hlf HR4
      generalize (wc.setCell ⟨b10, 0, none⟩ (.int .i64 3)).setCell ⟨b10, 1, none⟩ (.int .i64 (-8)) = wd3 at HF0 HR5 ⊢
      have HR4 := HR5
      obtain ⟨f0, f1, _, _, hlf⟩ := pair_cells HF0.out
      clear HR5
      have HFIN := Lib.hid (HR4.out.fin (.int .i64 (3)) (.int .i64 (-8)))
      obtain ⟨r0, r1, r2, r3, y0, y1, y2, y3, hlR⟩ := HR4.out.cells
      obtain ⟨e0, e1, z0, z1, hF⟩ := HR4.out.flt.cells
      obtain ⟨s0, s1, s2, s3⟩ := HR4.out.ids
      go_wp2_with fail
      go_region
      all_goals
       go_wp2
       refine bodyPost_ret (results_cell_cell _ _ (w.heap.size + 1 + 1 + 1) 31 #[.int .i64 (3), .int .i64 (-8)] (0, 0) _ rfl rfl HFIN.out.2.1 Tryz.underlying31 rfl (by kernel_rfl) rfl HFIN.out.1 Tryz.underlying29 rfl (by kernel_rfl)) rfl ?_
       exact ⟨HFIN.out.2.2, false, _, [], 0, 0, 3, -8, rfl, Ints.nil _, .inl ⟨by decide, HPF.out, rfl, rfl, rfl, rfl⟩⟩
     ·have hd2 : decide (10 < f) = false := by simpa using hf2
      have HPF := Lib.hid (show (c, -7) = wtdF (kindF t (admK k)) f from by rw [← HKE.out.2]; unfold wtdF; rw [if_neg (fun h => h.2 (by omega))])
      have HFIN := Lib.hid (HR4.out.fin (.int .i64 (c)) (.int .i64 (-7)))
      obtain ⟨r0, r1, r2, r3, y0, y1, y2, y3, hlR⟩ := HR4.out.cells
      obtain ⟨e0, e1, z0, z1, hF⟩ := HR4.out.flt.cells
      obtain ⟨s0, s1, s2, s3⟩ := HR4.out.ids
      go_wp2_with fail
      go_region
      all_goals
       go_wp2
       refine bodyPost_ret (results_cell_cell _ _ (w.heap.size + 1 + 1 + 1) 31 #[.int .i64 (c), .int .i64 (-7)] (0, 0) _ rfl rfl HFIN.out.2.1 Tryz.underlying31 rfl (by kernel_rfl) rfl HFIN.out.1 Tryz.underlying29 rfl (by kernel_rfl)) rfl ?_
       exact ⟨HFIN.out.2.2, false, _, [], 0, 0, c, -7, rfl, Ints.nil _, .inl ⟨HKE.out.1, HPF.out, rfl, rfl, rfl, rfl⟩⟩
   ·have h7b : (i == -7) = false := by simpa using h7
    have HPF := Lib.hid (show (c, i) = wtdF (kindF t (admK k)) f from by rw [← HKE.out.2]; unfold wtdF; rw [if_neg (fun h => h.1.elim (fun h => HKE.out.1 h.1) h7)])
    clear h7
    have HFIN := Lib.hid (HR4.out.fin (.int .i64 (c)) (.int .i64 (i)))
    obtain ⟨r0, r1, r2, r3, y0, y1, y2, y3, hlR⟩ := HR4.out.cells
    obtain ⟨e0, e1, z0, z1, hF⟩ := HR4.out.flt.cells
    obtain ⟨s0, s1, s2, s3⟩ := HR4.out.ids
    go_wp2_with fail
    go_region
    all_goals
     go_wp2
     refine bodyPost_ret (results_cell_cell _ _ (w.heap.size + 1 + 1 + 1) 31 #[.int .i64 (c), .int .i64 (i)] (0, 0) _ rfl rfl HFIN.out.2.1 Tryz.underlying31 rfl (by kernel_rfl) rfl HFIN.out.1 Tryz.underlying29 rfl (by kernel_rfl)) rfl ?_
     exact ⟨HFIN.out.2.2, false, _, [], 0, 0, c, i, rfl, Ints.nil _, .inl ⟨HKE.out.1, HPF.out, rfl, rfl, rfl, rfl⟩⟩
  ·have HKZ := Lib.hid (show kindF t (admK k) = (0, 0) from by rw [had, kindF_true]; exact expF_ok ok hx)
   by_cases hf1 : f < 1
   ·have hd1 : decide (f < 1) = true := by simpa using hf1
    have HPF := Lib.hid (show (3, -8) = wtdF (kindF t (admK k)) f from by rw [HKZ.out]; unfold wtdF; rw [if_pos ⟨.inl ⟨rfl, rfl⟩, by omega⟩])
    clear HCK ok hx hw hp
    have HF0 := Lib.hid (pair_set HB10.out (.int .i64 3) (.int .i64 (-8)))
    have HR5 := Lib.hid (HR4.out.keepsS (keeps_pair (w := wc) b10 (.int .i64 3) (.int .i64 (-8))) (fun e => by have e' : w.heap.size + 1 + 1 = b10 := e; omega) (fun e => by have e' : w.heap.size + 1 + 1 + 1 = b10 := e; omega) (fun i hi => by rw [hi]; omega))
    go_upto_region 4 with fail
    clear f0 f1 y0 y1 hlf HR4
    generalize (wc.setCell ⟨b10, 0, none⟩ (.int .i64 3)).setCell ⟨b10, 1, none⟩ (.int .i64 (-8)) = wd3 at HF0 HR5 ⊢
    have HR4 := HR5
    obtain ⟨f0, f1, _, _, hlf⟩ := pair_cells HF0.out
    clear HR5
    have HFIN := Lib.hid (HR4.out.fin (.int .i64 (3)) (.int .i64 (-8)))
    obtain ⟨r0, r1, r2, r3, y0, y1, y2, y3, hlR⟩ := HR4.out.cells
    obtain ⟨e0, e1, z0, z1, hF⟩ := HR4.out.flt.cells
    obtain ⟨s0, s1, s2, s3⟩ := HR4.out.ids
    go_wp2_with fail
    go_region
    all_goals
     go_wp2
     refine bodyPost_ret (results_cell_cell _ _ (w.heap.size + 1 + 1 + 1) 31 #[.int .i64 (3), .int .i64 (-8)] (0, 0) _ rfl rfl HFIN.out.2.1 Tryz.underlying31 rfl (by kernel_rfl) rfl HFIN.out.1 Tryz.underlying29 rfl (by kernel_rfl)) rfl ?_
     exact ⟨HFIN.out.2.2, false, _, [], 0, 0, 3, -8, rfl, Ints.nil _, .inl ⟨by decide, HPF.out, rfl, rfl, rfl, rfl⟩⟩
   ·have hd1 : decide (f < 1) = false := by simpa using hf1
    by_cases hf2 : 10 < f
    ·have hd2 : decide (10 < f) = true := by simpa using hf2
     have HPF := Lib.hid (show (3, -8) = wtdF (kindF t (admK k)) f from by rw [HKZ.out]; unfold wtdF; rw [if_pos ⟨.inl ⟨rfl, rfl⟩, by omega⟩])
     clear HCK ok hx hw hp
     have HF0 := Lib.hid (pair_set HB10.out (.int .i64 3) (.int .i64 (-8)))
     have HR5 := Lib.hid (HR4.out.keepsS (keeps_pair (w := wc) b10 (.int .i64 3) (.int .i64 (-8))) (fun e => by have e' : w.heap.size + 1 + 1 = b10 := e; omega) (fun e => by have e' : w.heap.size + 1 + 1 + 1 = b10 := e; omega) (fun i hi => by rw [hi]; omega))
     go_upto_region 4 with fail
     clear f0 f1 y0 y1 hlf HR4
     generalize (wc.setCell ⟨b10, 0, none⟩ (.int .i64 3)).setCell ⟨b10, 1, none⟩ (.int .i64 (-8)) = wd3 at HF0 HR5 ⊢
     have HR4 := HR5
     obtain ⟨f0, f1, _, _, hlf⟩ := pair_cells HF0.out
     clear HR5
     have HFIN := Lib.hid (HR4.out.fin (.int .i64 (3)) (.int .i64 (-8)))
     obtain ⟨r0, r1, r2, r3, y0, y1, y2, y3, hlR⟩ := HR4.out.cells
     obtain ⟨e0, e1, z0, z1, hF⟩ := HR4.out.flt.cells
     obtain ⟨s0, s1, s2, s3⟩ := HR4.out.ids
     go_wp2_with fail
     go_region
     all_goals
      go_wp2
      refine bodyPost_ret (results_cell_cell _ _ (w.heap.size + 1 + 1 + 1) 31 #[.int .i64 (3), .int .i64 (-8)] (0, 0) _ rfl rfl HFIN.out.2.1 Tryz.underlying31 rfl (by kernel_rfl) rfl HFIN.out.1 Tryz.underlying29 rfl (by kernel_rfl)) rfl ?_
      exact ⟨HFIN.out.2.2, false, _, [], 0, 0, 3, -8, rfl, Ints.nil _, .inl ⟨by decide, HPF.out, rfl, rfl, rfl, rfl⟩⟩
    ·have hd2 : decide (10 < f) = false := by simpa using hf2
     have hff : 1 ≤ f ∧ f ≤ 10 := by omega
     have hvh := says_kind had t l ok hx
     have HVL := Lib.hid (hvh.1.perm hp)
     have HAM := Lib.hid (hvh.2.perm hp)
     have HND := Lib.hid (costs_need ok hx hp)
     have HW := Lib.hid hw; have OK := Lib.hid ok; have HX := Lib.hid hx; have HPM := Lib.hid hp; have HAD := Lib.hid had
     have HWA := Lib.hid (wtd_adm HND.out.2.2.2.1 (ops_cost OK.out) HND.out.2.2.2.2.1 hff HAM.out)
     clear hvh hw ok hx hp had HCK hf1 hf2
     go_upto_region 6 with fail
     clear f0 f1 y0 y1 hlf x5c x5l hd1 hd2
     obtain ⟨d0, d1, d2, d3⟩ := HB4.out
     have hbx := HB4.out.lt
     go_wp2_with fail
     refine (heuristic_any wc _ _ _ t k (kindH t k) HT4.out).mono ?_
     rintro e w6 ⟨kb, tb, qb, mb, rfl, hhm, h1, h2, h3, h4, h5, hk6⟩
     have kC := (Keeps.refl (fun _ => False) w6).alloc (.cells #[.func (.func 58) #[] #[.pointer (some ⟨kb, 0, none⟩), .pointer (some ⟨tb, 0, none⟩), .pointer (some ⟨qb, 0, none⟩)]] 67)
     have HEU := Lib.hid (heur_is t k ws (kindH t k) HVL.out wc kb tb qb mb wc.heap.size w6.heap.size _ _ _ HT4.out h1 h1 h2 h3 h4 h5)
     have HM7 := Lib.hid (HEU.out.steady hhm kC (fun _ h => h.elim))
     have HX7 := Lib.hid ((hk6.trans kC).heap HX4.out (fun h => h))
     have HBX7 := Lib.hid (heap_alloc_new w6 (.cells #[.func (.func 58) #[] #[.pointer (some ⟨kb, 0, none⟩), .pointer (some ⟨tb, 0, none⟩), .pointer (some ⟨qb, 0, none⟩)]] 67))
     have HK7 := Lib.hid (hk6.trans kC)
     have HB7 := Lib.hid (HB4.out.keeps0 (hk6.trans kC)); have HT7 := Lib.hid (HT4.out.keeps0 (hk6.trans kC)); have HR7 := Lib.hid (HR4.out.keeps0 (hk6.trans kC))
     have HZ7 : (w6.alloc (.cells #[.func (.func 58) #[] #[.pointer (some ⟨kb, 0, none⟩), .pointer (some ⟨tb, 0, none⟩), .pointer (some ⟨qb, 0, none⟩)]] 67)).heap.size = w6.heap.size + 1 := World.size_alloc _ _
     have hz6 := hk6.size
     clear d0 d1 d2 d3 hbx hhm hk6 kC
     go_upto_region 7 with fail
     generalize (w6.alloc (.cells #[.func (.func 58) #[] #[.pointer (some ⟨kb, 0, none⟩), .pointer (some ⟨tb, 0, none⟩), .pointer (some ⟨qb, 0, none⟩)]] 67)) = w7 at HM7 HX7 HBX7 HK7 HB7 HT7 HR7 HZ7 ⊢
     obtain ⟨hb, hhb⟩ : ∃ hb, w6.heap.size = hb := ⟨_, rfl⟩
     rw [hhb] at HBX7 HZ7 h2 h3 h4 h5 HEU hz6 ⊢
     have HWT := Lib.hid (wtd_is ws (kindH t k) f _ wc.heap.size hb w7.heap.size _ _ _ _ hb (w.heap.size + 1) hff HEU.out (fun x hx => (HAM.out.lo x hx).1) (fun e => by have e' : hb = mb := e; omega) (fun e => by have e' : w.heap.size + 1 = mb := e; omega) (by omega) (by omega) (by omega))
     have HWI := Lib.hid (show WtdM (HeurM t k (kindH t k) wc kb tb qb mb _ _ _) hb (w.heap.size + 1) _ f w7 from ⟨HM7.out, HBX7.out, HX7.out⟩)
     clear hhb HM7 HX7 HBX7 HEU
     go_wp2_with fail
     refine (abestF_any f wc w7 b (wd t.init) (wd t.goal) _ v _ ws (wtdH f (kindH t k)) _ _ _ _ _ HW.out HK7.out (wops_ok OK.out) HND.out.2.2.1 HND.out.2.1 HND.out.2.2.2.1 HND.out.2.2.2.2.1 HND.out.2.2.2.2.2.1 (ops_cost OK.out) HND.out.2.2.2.2.2.2.2 HWT.out HWI.out hff.1 HWA.out).mono ?_
     rintro e w8 ⟨hk8, hI8, n, hn, hres⟩
     have KK8 : Keeps (fun _ => False) wc w8 := HK7.out.trans' hk8 (fun k hk => .inr (by rw [hk]; exact h1))
     have HT8 := Lib.hid (HT4.out.keeps0 KK8); have HR8a := Lib.hid (HR4.out.keeps0 KK8); have HB8 := HB4.out.keeps0 KK8
     have HBS := Lib.hid HB8; have HKK := Lib.hid KK8; have HI8 := Lib.hid hI8
     have HN := Lib.hid (show 0 ≤ (n : Int) ∧ (n : Int) ≤ (l.length : Int) from ⟨by omega, by have := HPM.out.length_eq; have := HND.out.2.2.2.2.1; omega⟩)
     have HL2 := HND.out.2.2.2.2.1
     have hz8 := hk8.size
     have hbx := lt_of_heap HR8a.out.res
     have hbx2 : w.heap.size < w8.heap.size := by omega
     obtain ⟨d0, d1, d2, d3⟩ := HB8
     clear hk8 KK8 hI8 HT7 HR7 HB7 HWT HWI HK7 hn
     rcases hres with ⟨hbt, rfl⟩ | ⟨q, y, v2, rfl, hrow, hql, hrun, hacc, hlow, -⟩
     ·have HBT := Lib.hid (least_no hbt)
      clear hbt
      have HR7 := HR8a
      go_wp2_with fail
      refine (result_any w8 _ _ _ _ t [] false (n : Int) HT8.out OK.out (Ints.nil _) (fun z hz => by simp at hz)).mono ?_
      rintro e w9 ⟨hk8, hr8⟩
      rcases hr8 with ⟨h60, rfl⟩ | ⟨h60, rfl⟩
      ·simp at h60
      have HR8 := Lib.hid (HR7.out.keeps0 hk8)
      obtain ⟨r0, r1, r2, r3, x0, x1, x2, x3, hlR⟩ := HR8.out.cells
      obtain ⟨e0, e1, z0, z1, hF⟩ := HR8.out.flt.cells
      have HFIN := Lib.hid (HR8.out.set (.bool false) (.slice none 0 0) (.int .i64 (costL t [])) (.int .i64 ((n : Int))) (.int .i64 0) (.int .i64 (0)))
      simp only [resV, fltV]
      clear d0 d1 d2 d3 hbx hk8
      go_wp2_with fail
      refine bodyPost_ret (results_cell_cell _ _ (w.heap.size + 1 + 1 + 1) 31 #[.int .i64 0, .int .i64 (0)] (0, 0) _ rfl rfl HFIN.out.2.1 Tryz.underlying31 rfl (by kernel_rfl) rfl HFIN.out.1 Tryz.underlying29 rfl (by kernel_rfl)) rfl ?_
      exact ⟨HFIN.out.2.2.1, false, _, [], 0, (n : Int), 0, 0, rfl, Ints.nil _, .inr ⟨HAD.out, hff, HKZ.out, OK.out, l, HX.out, .inl ⟨HBT.out, rfl, rfl, rfl, HN.out.1, HN.out.2, rfl, rfl⟩⟩⟩
     ·rw [show q.length = (intsP q).length from by unfold intsP; rw [List.length_map]] at hrow
      have hi := Ints.of_own hrow
      have HLO := Lib.hid (show ∀ k, v2.ownBlock = some k → w7.heap.size ≤ k from fun k hk => (hrow.lt k hk).1)
      obtain ⟨a3, c3, hv3, _⟩ := hi.form
      subst hv3
      have HI := Lib.hid hi; have HRUN := Lib.hid hrun; have HLW := Lib.hid hlow
      have HPIN := Lib.hid (planIn_run hrun)
      have HQI := Lib.hid (show (intsP q).length = q.length by unfold intsP; rw [List.length_map])
      clear hrow hi hrun hlow
      by_cases h60 : (intsP q).length ≤ 60
      ·have H60 := Lib.hid (show q.length ≤ 60 by have := HQI.out; omega)
       have hd60 : decide ((60 : Int) < ((intsP q).length : Int)) = false := by simp; omega
       have HR7 := HR8a
       go_wp2_with fail
       refine (aresult_fit w8 _ _ _ _ t (intsP q) true (n : Int) HT8.out OK.out HI.out HPIN.out h60).mono ?_
       rintro e w9 ⟨rfl, hk8⟩
       have HI9 := Lib.hid (HI.out.keeps0 hk8)
       have HR8 := Lib.hid (HR7.out.keeps0 hk8)
       obtain ⟨r0, r1, r2, r3, x0, x1, x2, x3, hlR⟩ := HR8.out.cells
       obtain ⟨e0, e1, z0, z1, hF⟩ := HR8.out.flt.cells
       have HFIN := Lib.hid (HR8.out.set (.bool true) (.slice a3 (intsP q).length c3) (.int .i64 (costL t (intsP q))) (.int .i64 ((n : Int))) (.int .i64 0) (.int .i64 (0)))
       clear d0 d1 d2 d3 hbx hk8
       go_wp2_with fail
       refine bodyPost_ret (results_cell_cell _ _ (w.heap.size + 1 + 1 + 1) 31 #[.int .i64 0, .int .i64 (0)] (0, 0) _ rfl rfl HFIN.out.2.1 Tryz.underlying31 rfl (by kernel_rfl) rfl HFIN.out.1 Tryz.underlying29 rfl (by kernel_rfl)) rfl ?_
       refine ⟨HFIN.out.2.2.1, true, _, _, _, (n : Int), 0, 0, rfl, ?_, .inr ⟨HAD.out, hff, HKZ.out, OK.out, l, HX.out, .inr (.inl ⟨q, y, HRUN.out, hacc, H60.out, rfl, rfl, rfl, HN.out.1, HN.out.2, rfl, rfl, HLW.out⟩)⟩⟩
       refine HI9.out.keepsS HFIN.out.2.2.2 (fun h0 j hj e' => ?_)
       have h1 := HLO.out j hj
       omega
      ·have hd60 : decide ((60 : Int) < ((intsP q).length : Int)) = true := by simp; omega
       have HQ := Lib.hid (And.intro HRUN.out hacc)
       have xhc : w8.cell? ⟨hb, 0, none⟩ = some (.func (.func 58) #[] #[.pointer (some ⟨kb, 0, none⟩), .pointer (some ⟨tb, 0, none⟩), .pointer (some ⟨qb, 0, none⟩)]) := (cell_of_blk HI8.out.2.1).trans rfl
       have xhl := lt_of_heap HI8.out.2.1
       have HEU8 := Lib.hid (heur_is t k ws (kindH t k) HVL.out wc kb tb qb mb wc.heap.size w8.heap.size _ _ _ HT4.out h1 h1 (by omega) (by omega) (by omega) (by omega))
       clear HI HLO HPIN HLW
       go_wp2_with fail
       refine (abest_any wc w8 b (wd t.init) (wd t.goal) _ v _ ws (kindH t k) _ _ _ _ _ HW.out HKK.out (wops_ok OK.out) HND.out.2.2.1 HND.out.2.1 HND.out.2.2.2.1 HND.out.2.2.2.2.1 HND.out.2.2.2.2.2.1 (ops_cost OK.out) HND.out.2.2.2.2.2.2.2 HEU8.out HI8.out.1 HAM.out).mono ?_
       rintro e wf ⟨hkf, n2, hn2, hres⟩
       have KF : Keeps (fun _ => False) wc wf := HKK.out.trans' hkf (fun k hk => .inr (by rw [hk]; exact h1))
       have HTf := Lib.hid (HT4.out.keeps0 KF); have HR7 := Lib.hid (HR4.out.keeps0 KF); have HBf := HB4.out.keeps0 KF
       have hzf := hkf.size
       have hbxf := lt_of_heap HR7.out.res
       have hbx2f : w.heap.size < wf.heap.size := by omega
       clear d0 d1 d2 d3 hkf KF xhc xhl HEU8 hn2
       obtain ⟨d0, d1, d2, d3⟩ := HBf
       rcases hres with ⟨hbt, rfl⟩ | ⟨p, y2, bb, v3, rfl, hrow, hpl, hrun2, hacc2, hway, hp0, hbt, -⟩
       ·have h1 := least_no hbt q y HQ.out.1
        rw [HQ.out.2] at h1; cases h1
       ·rw [show p.length = (intsP p).length from by unfold intsP; rw [List.length_map]] at hrow
        have hi := Ints.of_own hrow
        have HLO := Lib.hid (show ∀ k, v3.ownBlock = some k → w8.heap.size ≤ k from fun k hk => (hrow.lt k hk).1)
        obtain ⟨a3, c3, hv3, _⟩ := hi.form
        subst hv3
        have hsp := wayN_split (wordsOf t.ops) p
        have HI := Lib.hid hi; have HRN2 := Lib.hid (And.intro hrun2 hacc2); have HBT := Lib.hid hbt; have HWY := Lib.hid hway
        have HPIN := Lib.hid (planIn_run hrun2)
        have HPI := Lib.hid (show (intsP p).length = p.length by unfold intsP; rw [List.length_map])
        have HPL := Lib.hid (show (p.length : Int) = bb % 4096 by omega)
        clear hrow hi hrun2 hacc2 hbt hway hsp
        by_cases h61 : (intsP p).length ≤ 60
        ·have H61 := Lib.hid (show p.length ≤ 60 by have := HPI.out; omega)
         go_wp2_with fail
         refine (aresult_fit wf _ _ _ _ t (intsP p) true (n : Int) HTf.out OK.out HI.out HPIN.out h61).mono ?_
         rintro e w9 ⟨rfl, hk8⟩
         have HI9 := Lib.hid (HI.out.keeps0 hk8)
         have HR8 := Lib.hid (HR7.out.keeps0 hk8)
         obtain ⟨r0, r1, r2, r3, x0, x1, x2, x3, hlR⟩ := HR8.out.cells
         obtain ⟨e0, e1, z0, z1, hF⟩ := HR8.out.flt.cells
         have HFIN := Lib.hid (HR8.out.set (.bool true) (.slice a3 (intsP p).length c3) (.int .i64 (costL t (intsP p))) (.int .i64 ((n : Int))) (.int .i64 0) (.int .i64 (0)))
         clear d0 d1 d2 d3 hbx hk8
         go_wp2_with fail
         refine bodyPost_ret (results_cell_cell _ _ (w.heap.size + 1 + 1 + 1) 31 #[.int .i64 0, .int .i64 (0)] (0, 0) _ rfl rfl HFIN.out.2.1 Tryz.underlying31 rfl (by kernel_rfl) rfl HFIN.out.1 Tryz.underlying29 rfl (by kernel_rfl)) rfl ?_
         refine ⟨HFIN.out.2.2.1, true, _, _, _, (n : Int), 0, 0, rfl, ?_, .inr ⟨HAD.out, hff, HKZ.out, OK.out, l, HX.out, .inr (.inl ⟨p, y2, HRN2.out.1, HRN2.out.2, H61.out, rfl, rfl, rfl, HN.out.1, HN.out.2, rfl, rfl, fun r z g1 g2 => ?_⟩)⟩⟩
         ·refine HI9.out.keepsS HFIN.out.2.2.2 (fun h0 j hj e' => ?_)
          have h1 := HLO.out j hj
          omega
         ·rcases HBT.out with ⟨g3, _⟩ | ⟨_, _, g3⟩
          ·omega
          ·have g4 := g3 r z g1 g2
           have g5 := wtd_le (ops_cost OK.out) hff.1 r
           have g6 := HWY.out
           omega
        ·have H61 := Lib.hid (show 60 < p.length by have := HPI.out; omega)
         go_wp2_with fail
         refine (aresult_long wf _ _ _ _ t (intsP p) true (n : Int) HTf.out OK.out HI.out HPIN.out (by omega)).mono ?_
         rintro e w9 ⟨rfl, hk8⟩
         have HR8 := Lib.hid (HR7.out.keeps0 hk8)
         obtain ⟨r0, r1, r2, r3, x0, x1, x2, x3, hlR⟩ := HR8.out.cells
         obtain ⟨e0, e1, z0, z1, hF⟩ := HR8.out.flt.cells
         have HFIN := Lib.hid (HR8.out.set (.bool false) (.slice none 0 0) (.int .i64 (0)) (.int .i64 (0)) (.int .i64 10) (.int .i64 (-9)))
         clear d0 d1 d2 d3 hbx hk8
         go_wp2_with fail
         refine bodyPost_ret (results_cell_cell _ _ (w.heap.size + 1 + 1 + 1) 31 #[.int .i64 10, .int .i64 (-9)] (0, 0) _ rfl rfl HFIN.out.2.1 Tryz.underlying31 rfl (by kernel_rfl) rfl HFIN.out.1 Tryz.underlying29 rfl (by kernel_rfl)) rfl ?_
         exact ⟨HFIN.out.2.2.1, false, _, [], 0, 0, 10, -9, rfl, Ints.nil _, .inr ⟨HAD.out, hff, HKZ.out, OK.out, l, HX.out, .inr (.inr ⟨bb, HBT.out, hp0, by have h1 := H61.out; have h2 := HPL.out; unfold stepsB; rw [if_neg (by omega)]; omega, rfl, rfl, rfl, rfl, rfl, rfl⟩)⟩⟩

end Go.Proofs.YtdokakhgflljgaaGreat

namespace Go.Proofs.YtdokakhgflljgaaGreat
open Go.RowKit

theorem stepT_run {q : List Nat} {x y : Nat} (h : runOps (wordsOf stepT.ops) x q = some y) : costN (wordsOf stepT.ops) q = 3 * (q.length : Int) ∧ ∀ k ∈ q, k = 0 := by
 have hl := runOps_lt h
 have hz : ∀ k ∈ q, k = 0 := fun k hk => by
  have h1 := hl k hk
  have h2 : (wordsOf stepT.ops).length = 1 := rfl
  omega
 refine ⟨?_, hz⟩
 clear h hl
 induction q with
 | nil => rfl
 | cons a r ih =>
  obtain rfl := hz a (by simp)
  have h1 := ih (fun k hk => hz k (by simp [hk]))
  rw [costN, h1, List.length_cons]
  have : ((wordsOf stepT.ops)[0]?.map Wop.cost).getD 0 = 3 := rfl
  rw [this]
  omega

theorem stepT_least : BestT stepT 12289 := by
 refine .inr ⟨by decide, ⟨[0], 1, by decide, by decide, by decide⟩, fun p y hr hy => ?_⟩
 have h1 := (stepT_run hr).1
 rw [wayN_split, h1]
 cases p with
 | nil =>
  simp [runOps] at hr; subst hr
  exact absurd hy (by decide)
 | cons a q => rw [List.length_cons]; omega

theorem stepT_expF : expF stepT = (0, 0) := by unfold expF; rw [if_pos (by rw [stepT_ok]), stepT_reached]

end Go.Proofs.YtdokakhgflljgaaGreat

namespace Go.Proofs.YtdokakhgflljgaaGreat
open Go.RowKit

/-- A plan of the task step, which has one operator. -/
def StepPl (lp : List Int) (m : Nat) : Prop := (∀ x ∈ lp, x = 0) ∧ 0 < lp.length ∧ lp.length ≤ m
theorem stepT_plan {q : List Nat} {y : Nat} {m : Nat} (hr : runOps (wordsOf stepT.ops) (wd stepT.init) q = some y) (ha : goalB (wd stepT.goal) y = true) (hm : q.length ≤ m) : StepPl (intsP q) m ∧ costL stepT (intsP q) = 3 * ((intsP q).length : Int) := by
 have hl : (intsP q).length = q.length := by unfold intsP; rw [List.length_map]
 obtain ⟨h1, h2⟩ := stepT_run hr
 refine ⟨⟨fun x hx => ?_, ?_, by rw [hl]; exact hm⟩, by rw [costL_is, h1, hl]⟩
 ·obtain ⟨k, hk, rfl⟩ := List.mem_map.1 hx
  rw [h2 k hk]; rfl
 ·cases q with
  | nil => cases hr; exact absurd ha (by decide)
  | cons a r => rw [hl]; simp
theorem gplanStep_any (w : World) (vi vg vo : Value) (h : TaskAt w vi vg vo stepT) :
  Calls Tryz.prog 9 #[.agg #[.int .i64 1, vi, vg, vo], .int .i64 1] w fun e w' => ∃ v lp n, e = .returned (.tuple #[resV true v (3 * (lp.length : Int)) n, fltV 0 0]) ∧ Ints w' v lp ∧ StepPl lp 60 ∧ Keeps (fun _ => False) w w' := by
 refine (gplanM_any w vi vg vo stepT 1 rfl ⟨by omega, by omega⟩ h).mono ?_
 rintro e w' ⟨hk, fnd, vp, lp, c, n, fc, fi, rfl, hi, hr⟩
 rcases hr with ⟨h1, h2, _⟩ | ⟨_, _, _, l, _, hr⟩
 ·rw [show decide ((0 : Int) ≤ 1 ∧ (1 : Int) ≤ 5) = true from rfl, kindF_true, stepT_expF] at h2; cases h2; exact absurd rfl h1
 rcases hr with ⟨hb, _⟩ | ⟨q, y, g1, g2, g3, rfl, rfl, rfl, _, _, rfl, rfl⟩ | ⟨p, hb, g1, _⟩
 ·have h1 := hb [0] 1 (by decide)
  exact absurd h1 (by decide)
 ·obtain ⟨k1, k2⟩ := stepT_plan g1 g2 g3
  exact ⟨vp, _, n, by rw [← k2], hi, k1, hk⟩
 ·have h1 := hb.2 [0] 1 (by decide) (by decide)
  rcases h1 with h1 | ⟨h1, _⟩ <;> (simp only [List.length_cons, List.length_nil] at h1; omega)
theorem gweightStep_any (w : World) (vi vg vo : Value) (h : TaskAt w vi vg vo stepT) :
  Calls Tryz.prog 19 #[.agg #[.int .i64 1, vi, vg, vo], .int .i64 1, .int .i64 2] w fun e w' => ∃ v lp n, e = .returned (.tuple #[resV true v (3 * (lp.length : Int)) n, fltV 0 0]) ∧ Ints w' v lp ∧ StepPl lp 2 ∧ Keeps (fun _ => False) w w' := by
 refine (gweight_any w vi vg vo stepT 1 2 h).mono ?_
 rintro e w' ⟨hk, fnd, vp, lp, c, n, fc, fi, rfl, hi, hr⟩
 rcases hr with ⟨h1, h2, _⟩ | ⟨_, _, _, _, l, _, hr⟩
 ·rw [show admK 1 = true from rfl, kindF_true, stepT_expF] at h2; cases h2; exact absurd rfl h1
 rcases hr with ⟨hb, _⟩ | ⟨q, y, g1, g2, g3, rfl, rfl, rfl, _, _, rfl, rfl, g4⟩ | ⟨b, hb, g1, g2, _⟩
 ·have h1 := hb [0] 1 (by decide)
  exact absurd h1 (by decide)
 ·have h1 := g4 [0] 1 (by decide) (by decide)
  rw [wayN_split, (stepT_run g1).1, show wayK 2 (wordsOf stepT.ops) [0] = 24577 by decide] at h1
  obtain ⟨k1, k2⟩ := stepT_plan (m := 2) g1 g2 (by omega)
  exact ⟨vp, _, n, by rw [← k2], hi, k1, hk⟩
 ·obtain rfl := LeastOf.unique hb stepT_least
  exact absurd g2 (by decide)

set_option maxRecDepth 100000 in
set_option maxHeartbeats 2000000 in
theorem stepped_any (w : World) (vp : Value) (lp : List Int) (n : Int) (m : Nat) (hm : m ≤ 1000) (h : Ints w vp lp) (hp : StepPl lp m) :
  Calls Tryz.prog 28 #[resV true vp (3 * (lp.length : Int)) n, fltV 0 0, .int .i64 (3 * (m : Int))] w fun e w' => e = .returned (.bool true) ∧ Keeps (fun _ => False) w w' := by
 obtain ⟨ap, cp, h4, hmx⟩ := h.form
 subst h4
 have KA := (Keeps.refl (fun _ => False) w).alloc (.cells #[.bool true, .slice ap lp.length cp, .int .i64 (3 * (lp.length : Int)), .int .i64 n] 29)
 have KB := (Keeps.refl (fun _ => False) (w.alloc (.cells #[.bool true, .slice ap lp.length cp, .int .i64 (3 * (lp.length : Int)), .int .i64 n] 29))).alloc (.cells #[.int .i64 0, .int .i64 0] 31)
 have HK := Lib.hid (KA.trans KB)
 have HX := Lib.hid (KB.heap (heap_alloc_new w (.cells #[.bool true, .slice ap lp.length cp, .int .i64 (3 * (lp.length : Int)), .int .i64 n] 29)) (fun h => h))
 have HF := heap_alloc_new (w.alloc (.cells #[.bool true, .slice ap lp.length cp, .int .i64 (3 * (lp.length : Int)), .int .i64 n] 29)) (.cells #[.int .i64 0, .int .i64 0] 31)
 rw [World.size_alloc] at HF
 have HF := Lib.hid HF
 have HP := Lib.hid (show Ints _ (.slice ap lp.length cp) lp from h.keeps0 (KA.trans KB))
 obtain ⟨hz, hl0, hlm⟩ := hp
 have HZ := Lib.hid hz
 clear KA KB h hz
 unfold resV fltV
 go_enter Tryz.func28, Tryz.ntmps28
 go_upto_region 1 with fail
 generalize (w.alloc (.cells #[.bool true, .slice ap lp.length cp, .int .i64 (3 * (lp.length : Int)), .int .i64 n] 29)).alloc (.cells #[.int .i64 0, .int .i64 0] 31) = w1 at HX HF HK HP ⊢
 go_wp2_with fail
 go_loopw [7] (fun i wr => ∃ j : Nat, j ≤ lp.length ∧ i = .int .i64 (j : Int) ∧ Keeps (fun _ => False) w1 wr) (fun i _ => lp.length - (intOf i).toNat)
 case atStart => exact ⟨0, Nat.zero_le _, rfl, Keeps.refl _ _⟩
 case round =>
  obtain ⟨j, hj, rfl, hB⟩ := hrel
  have HB := Lib.hid hB
  have HX2 := Lib.hid (hB.heap HX.out (fun h => h)); have HF2 := Lib.hid (hB.heap HF.out (fun h => h))
  clear hB
  obtain ⟨s0, s1, s2, s3, sl⟩ := quad_cells HX2.out
  obtain ⟨f0, f1, _, _, fl⟩ := pair_cells HF2.out
  by_cases hlt : j < lp.length
  ·have hji : ((j : Int) < (lp.length : Int)) := by omega
   obtain ⟨bl, ol, hbl, hcl⟩ := (HP.out.keeps0 HB.out).cell rfl (by omega)
   subst hbl
   obtain ⟨x, hx⟩ : ∃ x, lp[j]? = some x := ⟨_, List.getElem?_eq_getElem hlt⟩
   have hx0 := HZ.out x (List.mem_of_getElem? hx)
   subst hx0
   have hc1 := hcl j _ hx
   clear hcl hx
   go_wp2_with fail
   go_roundw
   case rel => exact ⟨j + 1, by omega, by go_num, HB.out⟩
   case measure => simp [intOf]; omega
  ·have hji : ¬ ((j : Int) < (lp.length : Int)) := by omega
   have hpos : (0 : Int) < (lp.length : Int) := by omega
   have hw3 : IntKind.i64.wrap (3 * (lp.length : Int)) = 3 * (lp.length : Int) := IntWalk.i64_in _ (by omega)
   have hle : 3 * (lp.length : Int) ≤ 3 * (m : Int) := by omega
   go_wp2_with fail
   go_ret
   exact ⟨rfl, HK.out.trans HB.out⟩

set_option maxRecDepth 100000 in
set_option maxHeartbeats 2000000 in
theorem greedyExample_any (w : World) : Calls Tryz.prog 7 #[] w fun e w' => e = .returned (.bool true) ∧ Keeps (fun _ => False) w w' := by
 go_enter Tryz.func7, Tryz.ntmps7
 go_wp2_with fail
 refine (step_any _).mono ?_; rintro e w1 ⟨vi, vg, vo, rfl, ht, hk⟩
 have HT := Lib.hid ht; have K1 := Lib.hid hk
 clear ht hk
 go_wp2_with fail
 refine (gplanStep_any _ _ _ _ HT.out).mono ?_; rintro e w2 ⟨vp, lp, n, rfl, hp, hst, hk⟩
 obtain ⟨ap, cp, hvp, _⟩ := hp.form
 subst hvp
 have HP := Lib.hid hp; have K2 := Lib.hid (K1.out.trans hk); have HST := Lib.hid hst
 clear hp hk hst HT
 simp only [resV, fltV]
 have KA := (Keeps.refl (fun _ => False) w2).alloc (.cells #[.bool true, .slice ap lp.length cp, .int .i64 (3 * (lp.length : Int)), .int .i64 n] 29)
 have KB := (Keeps.refl (fun _ => False) (w2.alloc (.cells #[.bool true, .slice ap lp.length cp, .int .i64 (3 * (lp.length : Int)), .int .i64 n] 29))).alloc (.cells #[.int .i64 0, .int .i64 0] 31)
 have H3 := Lib.hid (KB.heap (heap_alloc_new w2 (.cells #[.bool true, .slice ap lp.length cp, .int .i64 (3 * (lp.length : Int)), .int .i64 n] 29)) (fun h => h))
 have hf := heap_alloc_new (w2.alloc (.cells #[.bool true, .slice ap lp.length cp, .int .i64 (3 * (lp.length : Int)), .int .i64 n] 29)) (.cells #[.int .i64 0, .int .i64 0] 31)
 rw [World.size_alloc] at hf
 have F3 := Lib.hid hf
 have K3 := Lib.hid (K2.out.trans (KA.trans KB)); have HP3 := Lib.hid (HP.out.keeps0 (KA.trans KB))
 clear KA KB hf
 go_upto_region 2 with fail
 generalize (w2.alloc (.cells #[.bool true, .slice ap lp.length cp, .int .i64 (3 * (lp.length : Int)), .int .i64 n] 29)).alloc (.cells #[.int .i64 0, .int .i64 0] 31) = w3 at H3 F3 K3 HP3 ⊢
 generalize w2.heap.size = b3 at H3 F3 ⊢
 go_wp2_with fail
 refine (step_any _).mono ?_; rintro e w4 ⟨vi2, vg2, vo2, rfl, ht, hk⟩
 have HT := Lib.hid ht; have K4 := Lib.hid (K3.out.trans hk); have HP4 := Lib.hid (HP3.out.keeps0 hk); have H4 := Lib.hid (hk.heap H3.out (fun h => h)); have F4 := Lib.hid (hk.heap F3.out (fun h => h))
 clear ht hk
 go_wp2_with fail
 refine (gweightStep_any _ _ _ _ HT.out).mono ?_; rintro e w5 ⟨vp2, lp2, n2, rfl, hp, hst, hk⟩
 obtain ⟨ap2, cp2, hvp, _⟩ := hp.form
 subst hvp
 have HST2 := Lib.hid hst
 simp only [resV, fltV]
 have KA := (Keeps.refl (fun _ => False) w5).alloc (.cells #[.bool true, .slice ap2 lp2.length cp2, .int .i64 (3 * (lp2.length : Int)), .int .i64 n2] 29)
 have KB := (Keeps.refl (fun _ => False) (w5.alloc (.cells #[.bool true, .slice ap2 lp2.length cp2, .int .i64 (3 * (lp2.length : Int)), .int .i64 n2] 29))).alloc (.cells #[.int .i64 0, .int .i64 0] 31)
 have KC := hk.trans (KA.trans KB)
 have G6 := Lib.hid (KB.heap (heap_alloc_new w5 (.cells #[.bool true, .slice ap2 lp2.length cp2, .int .i64 (3 * (lp2.length : Int)), .int .i64 n2] 29)) (fun h => h))
 have hf := heap_alloc_new (w5.alloc (.cells #[.bool true, .slice ap2 lp2.length cp2, .int .i64 (3 * (lp2.length : Int)), .int .i64 n2] 29)) (.cells #[.int .i64 0, .int .i64 0] 31)
 rw [World.size_alloc] at hf
 have J6 := Lib.hid hf
 have HQ6 := Lib.hid (hp.keeps0 (KA.trans KB))
 have K6 := Lib.hid (K4.out.trans KC); have HP6 := Lib.hid (HP4.out.keeps0 KC); have H6 := Lib.hid (KC.heap H4.out (fun h => h)); have F6 := Lib.hid (KC.heap F4.out (fun h => h))
 clear hp hk hst KA KB KC hf
 go_upto_region 3 with fail
 generalize (w5.alloc (.cells #[.bool true, .slice ap2 lp2.length cp2, .int .i64 (3 * (lp2.length : Int)), .int .i64 n2] 29)).alloc (.cells #[.int .i64 0, .int .i64 0] 31) = w6 at G6 J6 HQ6 K6 HP6 H6 F6 ⊢
 generalize w5.heap.size = b6 at G6 J6 ⊢
 obtain ⟨f0, f1, _, _, fl⟩ := pair_cells F6.out
 obtain ⟨r0, r1, r2, r3, rl⟩ := quad_cells H6.out
 go_wp2_with fail
 refine (stepped_any _ _ lp n 60 (by omega) HP6.out HST.out).mono ?_; rintro e w7 ⟨rfl, hk⟩
 have K7 := Lib.hid (K6.out.trans hk)
 have G7 := Lib.hid (hk.heap G6.out (fun h => h)); have J7 := Lib.hid (hk.heap J6.out (fun h => h)); have HQ7 := Lib.hid (HQ6.out.keeps0 hk)
 clear hk f0 f1 fl r0 r1 r2 r3 rl
 obtain ⟨f0, f1, _, _, fl⟩ := pair_cells J7.out
 obtain ⟨r0, r1, r2, r3, rl⟩ := quad_cells G7.out
 go_wp2_with fail
 refine (stepped_any _ _ lp2 n2 2 (by omega) HQ7.out HST2.out).mono ?_; rintro e w8 ⟨rfl, hk⟩
 have K8 := Lib.hid (K7.out.trans hk)
 clear hk
 go_wp2_with fail
 go_ret
 exact ⟨rfl, K8.out⟩

end Go.Proofs.YtdokakhgflljgaaGreat

namespace Go.Proofs.YtdokakhgflljgaaGreat
open Go.RowKit

/-- What a result must be that says of a task whether there is a plan. -/
def GSnd (t : Tsk) (l : List Nat) (fnd : Bool) (lp : List Int) (c n : Int) : Prop := 0 ≤ n ∧ n ≤ (l.length : Int) ∧
 ((fnd = false ∧ lp = [] ∧ c = 0) ∨ (fnd = true ∧ ∃ q y, lp = intsP q ∧ runOps (wordsOf t.ops) (wd t.init) q = some y ∧ goalB (wd t.goal) y = true ∧ q.length ≤ 60 ∧ c = costL t lp))

set_option maxRecDepth 100000 in
set_option maxHeartbeats 4000000 in
theorem sound_any (w : World) (vi vg vo vp : Value) (t : Tsk) (l : List Nat) (fnd : Bool) (lp : List Int) (c n : Int) (h : TaskAt w vi vg vo t) (ok : t.Ok) (hx : explored t = some l) (hp : Ints w vp lp) (hg : GSnd t l fnd lp c n) :
  Calls Tryz.prog 18 #[.agg #[.int .i64 t.n, vi, vg, vo], resV fnd vp c n, .bool fnd] w fun e w' => e = .returned (.bool true) ∧ Keeps (fun _ => False) w w' := by
 obtain ⟨ai, ci, h1, _⟩ := h.init.form
 obtain ⟨ag, cg, h2, _⟩ := h.goal.form
 obtain ⟨ao, co, h3, hmo⟩ := h.ops.form
 obtain ⟨ap, cp, h4, hml⟩ := hp.form
 subst h1 h2 h3 h4
 have K1 := (Keeps.refl (fun _ => False) w).alloc (.cells #[.int .i64 t.n, .slice ai t.init.length ci, .slice ag t.goal.length cg, .slice ao t.ops.length co] 25)
 have K2 := (Keeps.refl (fun _ => False) (w.alloc (.cells #[.int .i64 t.n, .slice ai t.init.length ci, .slice ag t.goal.length cg, .slice ao t.ops.length co] 25))).alloc (.cells #[.bool fnd, .slice ap lp.length cp, .int .i64 c, .int .i64 n] 29)
 have HB := Lib.hid ((Four.new w (.int .i64 t.n) (.slice ai t.init.length ci) (.slice ag t.goal.length cg) (.slice ao t.ops.length co) 25).keeps0 K2)
 have hr := Four.new (w.alloc (.cells #[.int .i64 t.n, .slice ai t.init.length ci, .slice ag t.goal.length cg, .slice ao t.ops.length co] 25)) (.bool fnd) (.slice ap lp.length cp) (.int .i64 c) (.int .i64 n) 29
 rw [World.size_alloc] at hr
 have HR := Lib.hid hr
 have HT := Lib.hid (h.keeps0 (K1.trans K2)); have HP := Lib.hid (hp.keeps0 (K1.trans K2)); have HK := Lib.hid (K1.trans K2)
 have OK := Lib.hid ok; have HX := Lib.hid hx
 obtain ⟨hn0, hn1, hcase⟩ := hg
 have HG := Lib.hid hcase
 have hlL : (0 : Int) ≤ (l.length : Int) := by omega
 clear h K1 K2 hr hp ok hx hcase
 have hfld := fld_fault (.int .i64 0) (.int .i64 0)
 simp only [resV]
 go_enter Tryz.func18, Tryz.ntmps18
 go_upto_region 1 with fail
 generalize ((w.alloc (.cells #[.int .i64 t.n, .slice ai t.init.length ci, .slice ag t.goal.length cg, .slice ao t.ops.length co] 25)).alloc (.cells #[.bool fnd, .slice ap lp.length cp, .int .i64 c, .int .i64 n] 29)) = w1 at HB HR HT HP HK ⊢
 generalize w.heap.size = bt at HB HR ⊢
 have hbx := HB.out.lt
 obtain ⟨d0, d1, d2, d3⟩ := HB.out
 go_wp2_with fail
 refine (reached_any _ _ _ _ t HT.out OK.out).mono ?_; rintro e w2 ⟨hk, hr⟩
 have HB2 := Lib.hid (HB.out.keeps0 hk); have HR2 := Lib.hid (HR.out.keeps0 hk); have HT2 := Lib.hid (HT.out.keeps0 hk); have HP2 := Lib.hid (HP.out.keeps0 hk); have HK2 := Lib.hid (HK.out.trans hk)
 clear d0 d1 d2 d3 hbx hk HB HR HT HP HK
 rcases hr with ⟨hno, _⟩ | ⟨l', hl', v, vw, vs, rfl, hrow⟩
 ·have h1 := hno.symm.trans (show reached (wordsOf t.ops) (wd t.init) = some l from HX.out); cases h1
 obtain rfl : l' = l := by have h1 := hl'.symm.trans (show reached (wordsOf t.ops) (wd t.init) = some l from HX.out); cases h1; rfl
 obtain ⟨av, cv, hav⟩ := ownsRow_formS hrow.out
 subst hav
 clear hrow hl'
 obtain ⟨r0, r1, r2, r3⟩ := HR2.out
 have hlr := HR2.out.lt
 have hnn : ¬ n < 0 := by omega
 have hnl : ¬ (l'.length : Int) < n := by omega
 have dn1 : decide (n < 0) = false := by simpa using hn0
 have dn2 : decide ((l'.length : Int) < n) = false := by simpa using hn1
 rcases HG.out with ⟨rfl, rfl, rfl⟩ | ⟨rfl, q, y, rfl, hrun, hacc, hq, rfl⟩
 ·go_wp2_with fail
  go_ret
  exact ⟨rfl, HK2.out⟩
 ·have hgw := goal_reached OK.out hrun hacc
  have HRUN := Lib.hid hrun; have HIN := Lib.hid (planIn_run hrun)
  have HL := Lib.hid (show (intsP q).length ≤ 60 by unfold intsP; rw [List.length_map]; exact hq)
  clear hrun hacc
  go_upto_region 6 with fail
  have KD : Keeps (fun _ => False) w2 w2.drew := (Keeps.refl (fun _ => False) w2).drew
  have HBD := HB2.out.keeps0 KD; have HRD := HR2.out.keeps0 KD; have HTD := Lib.hid (HT2.out.keeps0 KD); have HPD := Lib.hid (HP2.out.keeps0 KD); have HKD := Lib.hid (HK2.out.trans KD)
  clear r0 r1 r2 r3 hlr
  have hbx := HBD.lt
  have hlr := HRD.lt
  obtain ⟨d0, d1, d2, d3⟩ := HBD
  obtain ⟨_, d4, d5, _⟩ := HRD
  clear KD
  go_region_held3 (fun w' => w'.cell? ⟨bt, 0, none⟩ = some (.int .i64 t.n) ∧ w'.cell? ⟨bt, 1, none⟩ = some (.slice ai t.init.length ci) ∧ w'.cell? ⟨bt, 2, none⟩ = some (.slice ag t.goal.length cg) ∧ w'.cell? ⟨bt, 3, none⟩ = some (.slice ao t.ops.length co) ∧ w'.cell? ⟨bt + 1, 1, none⟩ = some (.slice ap (intsP q).length cp) ∧ w'.cell? ⟨bt + 1, 2, none⟩ = some (.int .i64 (costL t (intsP q)))) (go_keep)
   (first
    | (go_at_call 41; refine (planFaultR_good _ _ _ _ _ t (intsP q) HTD.out OK.out HPD.out HL.out HIN.out).mono ?_; rintro e w3 ⟨rfl, hk⟩; have HT3 := Lib.hid (HTD.out.keeps0 hk); have HP3 := Lib.hid (HPD.out.keeps0 hk); have HK3 := Lib.hid (HKD.out.trans hk); obtain ⟨e0, e1, e2, e3, e4, e5⟩ := And.intro (hk.cell d0 (fun h => h)) (And.intro (hk.cell d1 (fun h => h)) (And.intro (hk.cell d2 (fun h => h)) (And.intro (hk.cell d3 (fun h => h)) (And.intro (hk.cell d4 (fun h => h)) (hk.cell d5 (fun h => h)))))); clear hk)
    | (go_at_call 42; refine (solvesR_good _ _ _ _ _ t y q HT3.out OK.out HP3.out HRUN.out (by omega)).mono ?_; rintro e w4 ⟨rfl, hk⟩; rw [hgw]; have HT4 := Lib.hid (HT3.out.keeps0 hk); have HP4 := Lib.hid (HP3.out.keeps0 hk); have HK4 := Lib.hid (HK3.out.trans hk); obtain ⟨f0, f1, f2, f3, f4, f5⟩ := And.intro (hk.cell e0 (fun h => h)) (And.intro (hk.cell e1 (fun h => h)) (And.intro (hk.cell e2 (fun h => h)) (And.intro (hk.cell e3 (fun h => h)) (And.intro (hk.cell e4 (fun h => h)) (hk.cell e5 (fun h => h)))))); clear hk)
    | (go_at_call 43; refine (costOf_any _ _ _ _ _ t (intsP q) HT4.out OK.out HP4.out HIN.out (by have := HL.out; omega)).mono ?_; rintro e w5 ⟨rfl, hk⟩; have HK5 := Lib.hid (HK4.out.trans hk); obtain ⟨g0, g1, g2, g3, g4, g5⟩ := And.intro (hk.cell f0 (fun h => h)) (And.intro (hk.cell f1 (fun h => h)) (And.intro (hk.cell f2 (fun h => h)) (And.intro (hk.cell f3 (fun h => h)) (And.intro (hk.cell f4 (fun h => h)) (hk.cell f5 (fun h => h)))))); clear hk))
  all_goals
   go_wp2_with fail
   go_ret
   exact ⟨rfl, HK5.out⟩

end Go.Proofs.YtdokakhgflljgaaGreat

namespace Go.Proofs.YtdokakhgflljgaaGreat
open Go.RowKit Go.Shelf

theorem inB_kind (k : Int) : inB k 0 5 = decide (0 ≤ k ∧ k ≤ 5) := by
 unfold inB
 simp

end Go.Proofs.YtdokakhgflljgaaGreat

namespace Go.Proofs.YtdokakhgflljgaaGreat
open Go.RowKit Go.Shelf

/-- Against the reference's shortest plan. -/
theorem gplan_ref {t : Tsk} {k : Int} {fnd : Bool} {lp : List Int} {c n fc fi : Int} (hg : GPlanIs t k fnd lp c n fc fi) :
  (fc ≠ 0 ∧ (fc, fi) = kindF t (decide (0 ≤ k ∧ k ≤ 5)) ∧ fnd = false ∧ lp = [] ∧ c = 0 ∧ n = 0) ∨
  (kindF t (decide (0 ≤ k ∧ k ≤ 5)) = (0, 0) ∧ t.Ok ∧ ∃ l, explored t = some l ∧ ∀ o, Best (wordsOf t.ops) (wd t.init) (goalB (wd t.goal)) o →
   (wayF (o.getD []).length (0, 0) = (0, 0) ∧ fc = 0 ∧ fi = 0 ∧ fnd = o.isSome ∧ GSnd t l fnd lp c n) ∨ (wayF (o.getD []).length (0, 0) = (10, -9) ∧ fc = 10 ∧ fi = -9 ∧ fnd = false ∧ lp = [] ∧ c = 0 ∧ n = 0)) := by
 rcases hg with h | ⟨_, hkz, ok, l, hx, hg⟩
 ·exact .inl h
 refine .inr ⟨hkz, ok, l, hx, fun o ho => ?_⟩
 rcases hg with ⟨hn, rfl, rfl, rfl, h1, h2, rfl, rfl⟩ | ⟨q, y, g1, g2, g3, rfl, rfl, rfl, h1, h2, rfl, rfl⟩ | ⟨p, hp, h1, h2⟩
 ·obtain rfl := Best.unique ho hn
  exact .inl ⟨rfl, rfl, rfl, rfl, h1, h2, .inl ⟨rfl, rfl, rfl⟩⟩
 ·cases o with
  | none => have h3 := ho q y g1; rw [g2] at h3; cases h3
  | some p =>
   have h3 : p.length ≤ q.length := by rcases ho.2 q y g1 g2 with h | ⟨h, _⟩ <;> omega
   refine .inl ⟨?_, rfl, rfl, rfl, h1, h2, .inr ⟨rfl, q, y, rfl, g1, g2, g3, rfl⟩⟩
   show wayF p.length (0, 0) = (0, 0)
   unfold wayF
   rw [if_neg (fun h => by have := h.2; omega)]
 ·obtain rfl := Best.unique ho hp
  obtain ⟨rfl, rfl, rfl, rfl, rfl, rfl⟩ := h2
  refine .inr ⟨?_, rfl, rfl, rfl, rfl, rfl, rfl⟩
  show wayF p.length (0, 0) = (10, -9)
  unfold wayF
  rw [if_pos ⟨rfl, h1⟩]

set_option maxRecDepth 100000 in
set_option maxHeartbeats 4000000 in
theorem gplanLaw_any (w : World) (vi vg vo : Value) (t : Tsk) (k : Int) (h : TaskAt w vi vg vo t) :
  Calls Tryz.prog 3 #[.agg #[.int .i64 t.n, vi, vg, vo], .int .i64 k] w fun e w' => e = .returned (.bool true) ∧ Keeps (fun _ => False) w w' := by
 obtain ⟨ai, ci, h1, _⟩ := h.init.form
 obtain ⟨ag, cg, h2, _⟩ := h.goal.form
 obtain ⟨ao, co, h3, hmo⟩ := h.ops.form
 subst h1 h2 h3
 have HB := Lib.hid (Four.new w (.int .i64 t.n) (.slice ai t.init.length ci) (.slice ag t.goal.length cg) (.slice ao t.ops.length co) 25)
 have K1 := (Keeps.refl (fun _ => False) w).alloc (.cells #[.int .i64 t.n, .slice ai t.init.length ci, .slice ag t.goal.length cg, .slice ao t.ops.length co] 25)
 have HT := Lib.hid (h.keeps0 K1); have HK := Lib.hid K1
 clear h K1
 go_enter Tryz.func3, Tryz.ntmps3
 go_upto_region 1 with fail
 generalize (w.alloc (.cells #[.int .i64 t.n, .slice ai t.init.length ci, .slice ag t.goal.length cg, .slice ao t.ops.length co] 25)) = w1 at HB HT HK ⊢
 generalize w.heap.size = bt at HB ⊢
 go_wp2_with fail
 refine (greedyExample_any _).mono ?_; rintro e w2 ⟨rfl, hk⟩
 have HB1 := Lib.hid (HB.out.keeps0 hk); have HT1 := Lib.hid (HT.out.keeps0 hk); have HK1 := Lib.hid (HK.out.trans hk)
 clear HB HT HK hk
 have hbxd := HB1.out.lt
 obtain ⟨d0, d1, d2, d3⟩ := HB1.out
 go_wp2_with fail
 refine (wide_any _ _ _ _ t HT1.out).mono ?_; rintro e w3 ⟨rfl, hk⟩
 have HB2 := Lib.hid (HB1.out.keeps0 hk); have HT2 := Lib.hid (HT1.out.keeps0 hk); have HK2 := Lib.hid (HK1.out.trans hk)
 clear hbxd d0 d1 d2 d3 HB1 HT1 HK1 hk
 cases hwd : wideB t with
 | true =>
  go_wp2_with fail
  go_ret
  exact ⟨rfl, HK2.out⟩
 | false =>
  clear hwd
  have hbxd := HB2.out.lt
  obtain ⟨d0, d1, d2, d3⟩ := HB2.out
  go_wp2_with fail
  refine (gplan_any _ _ _ _ t k HT2.out).mono ?_; rintro e w4 ⟨hk, fndx, vp, lpx, cx, nx, fcx, fix, rfl, hi, hr⟩
  obtain ⟨apx, cpx, hvp, _⟩ := hi.form
  subst hvp
  obtain ⟨pb, hpb⟩ : ∃ pb, decide (0 ≤ k ∧ k ≤ 5) = pb := ⟨_, rfl⟩
  have hpx := gplan_ref hr
  rw [hpb] at hpx
  have HP := Lib.hid hpx
  have HIN := Lib.hid ((inB_kind k).trans hpb)
  clear hpx hpb
  clear hr hbxd d0 d1 d2 d3
  simp only [resV, fltV]
  have KA := (Keeps.refl (fun _ => False) w4).alloc (.cells #[.bool fndx, .slice apx lpx.length cpx, .int .i64 cx, .int .i64 nx] 29)
  have KB := (Keeps.refl (fun _ => False) (w4.alloc (.cells #[.bool fndx, .slice apx lpx.length cpx, .int .i64 cx, .int .i64 nx] 29))).alloc (.cells #[.int .i64 fcx, .int .i64 fix] 31)
  have KC := hk.trans (KA.trans KB)
  have HB3 := Lib.hid (HB2.out.keeps0 KC); have HT3 := Lib.hid (HT2.out.keeps0 KC); have HK3 := Lib.hid (HK2.out.trans KC)
  have HRx := Lib.hid (KB.heap (heap_alloc_new w4 (.cells #[.bool fndx, .slice apx lpx.length cpx, .int .i64 cx, .int .i64 nx] 29)) (fun h => h))
  have hf := heap_alloc_new (w4.alloc (.cells #[.bool fndx, .slice apx lpx.length cpx, .int .i64 cx, .int .i64 nx] 29)) (.cells #[.int .i64 fcx, .int .i64 fix] 31)
  rw [World.size_alloc] at hf
  have HFx := Lib.hid hf
  have HIx := Lib.hid (hi.keeps0 (KA.trans KB))
  clear HB2 HT2 HK2 hk KA KB KC hf hi
  go_upto_region 6 with fail
  generalize (w4.alloc (.cells #[.bool fndx, .slice apx lpx.length cpx, .int .i64 cx, .int .i64 nx] 29)).alloc (.cells #[.int .i64 fcx, .int .i64 fix] 31) = w5 at HB3 HT3 HK3 HRx HFx HIx  ⊢
  generalize w4.heap.size = bqx at HRx HFx ⊢
  obtain ⟨z5, hz5⟩ : ∃ z5, w5.heap.size = z5 := ⟨_, rfl⟩
  have HZ5 := Lib.hid hz5
  clear hz5
  obtain ⟨c', i', hci⟩ : ∃ c' i', kindF t pb = (c', i') := ⟨_, _, rfl⟩
  have HCI := Lib.hid hci
  clear hci
  have KD : Keeps (fun _ => False) w5 w5.drew := (Keeps.refl (fun _ => False) w5).drew
  have KA : Keeps (fun _ => False) w5.drew (w5.alloc (.cells #[.int .i64 0, .int .i64 0] 31)).drew := by
   have h := (Keeps.refl (fun _ => False) w5.drew).alloc (.cells #[.int .i64 0, .int .i64 0] 31)
   exact h
  have HTD := Lib.hid (HT3.out.keeps0 KD); have HKD := Lib.hid KD; have HKA := Lib.hid KA
  have HZ8 := Lib.hid (show (w5.alloc (.cells #[.int .i64 0, .int .i64 0] 31)).drew.heap[w5.heap.size]? = some (.cells #[.int .i64 0, .int .i64 0] 31 (0, 0)) from heap_alloc_new w5 _)
  have HB1x := HB3.out.keeps0 KD
  have hbx := HB1x.lt
  have HBX := Lib.hid (show bt < w5.heap.size from HB3.out.lt)
  obtain ⟨d0, d1, d2, d3⟩ := HB1x
  obtain ⟨d0', d1', d2', d3'⟩ := (HB3.out.keeps0 KD).keeps0 KA
  clear KD KA
  go_region_held3 (fun w' => w'.cell? ⟨bt, 0, none⟩ = some (.int .i64 t.n) ∧ w'.cell? ⟨bt, 1, none⟩ = some (.slice ai t.init.length ci) ∧ w'.cell? ⟨bt, 2, none⟩ = some (.slice ag t.goal.length cg) ∧ w'.cell? ⟨bt, 3, none⟩ = some (.slice ao t.ops.length co))
   (first | go_keep | with_reducible exact ⟨(keeps_pair (w := w9) w5.heap.size (.int .i64 c') (.int .i64 i')).cell t0 (show ¬ bt = w5.heap.size by have := HBX.out; omega), (keeps_pair (w := w9) w5.heap.size (.int .i64 c') (.int .i64 i')).cell t1 (show ¬ bt = w5.heap.size by have := HBX.out; omega), (keeps_pair (w := w9) w5.heap.size (.int .i64 c') (.int .i64 i')).cell t2 (show ¬ bt = w5.heap.size by have := HBX.out; omega), (keeps_pair (w := w9) w5.heap.size (.int .i64 c') (.int .i64 i')).cell t3 (show ¬ bt = w5.heap.size by have := HBX.out; omega)⟩)
   (first
    | (go_at_call 11; refine (in_val _ HIN.out).mono ?_; rintro en wq ⟨rfl, rfl⟩)
    | (go_at_call 10; refine (kindFault_any _ _ _ _ t pb HTD.out).mono ?_; rintro en w9 ⟨rfl, hk⟩; rw [HCI.out]; have HK9 := Lib.hid hk; have t0 := hk.cell d0 (fun h => h); have t1 := hk.cell d1 (fun h => h); have t2 := hk.cell d2 (fun h => h); have t3 := hk.cell d3 (fun h => h); clear hk)
    | (go_at_call 10; refine (kindFault_any _ _ _ _ t pb (HTD.out.keeps0 HKA.out)).mono ?_; rintro en w9 ⟨rfl, hk⟩; rw [HCI.out]; have HK9 := Lib.hid hk; have HZ9 := Lib.hid (hk.heap HZ8.out (fun h => h)); obtain ⟨q0, q1, y0, y1, hl6⟩ := pair_cells HZ9.out; have t0 := hk.cell d0' (fun h => h); have t1 := hk.cell d1' (fun h => h); have t2 := hk.cell d2' (fun h => h); have t3 := hk.cell d3' (fun h => h); clear hk))
  all_goals
   first
    | (have HFZ := Lib.hid (pair_set HZ9.out (.int .i64 c') (.int .i64 i'))
       have HC := Lib.hid (show Keeps (fun _ => False) w5 ((w9.setCell ⟨w5.heap.size, 0, none⟩ (.int .i64 c')).setCell ⟨w5.heap.size, 1, none⟩ (.int .i64 i')) from ((HKD.out.trans HKA.out).trans HK9.out).trans' (keeps_pair (w := w9) w5.heap.size (.int .i64 c') (.int .i64 i')) (fun k hk => .inr (Nat.le_of_eq hk.symm)))
       clear t0 t1 t2 t3 q0 q1 y0 y1 HZ9 hl6 HK9
       generalize (w9.setCell ⟨w5.heap.size, 0, none⟩ (.int .i64 c')).setCell ⟨w5.heap.size, 1, none⟩ (.int .i64 i') = wz at HFZ HC ⊢
       have HBW := Lib.hid (show z5 ≤ w5.heap.size from Nat.le_of_eq HZ5.out.symm)
       generalize w5.heap.size = b8 at HFZ HBW ⊢)
    | (have HFZ := Lib.hid (heap_alloc_new w9 (.cells #[.int .i64 c', .int .i64 i'] 31))
       have HC := Lib.hid (show Keeps (fun _ => False) w5 (w9.alloc (.cells #[.int .i64 c', .int .i64 i'] 31)) from (HKD.out.trans HK9.out).trans ((Keeps.refl (fun _ => False) w9).alloc _))
       clear t0 t1 t2 t3
       generalize w9.alloc (.cells #[.int .i64 c', .int .i64 i'] 31) = wz at HFZ HC ⊢
       have HBW := Lib.hid (show z5 ≤ w9.heap.size from by rw [← HZ5.out]; exact (HKD.out.trans HK9.out).size)
       clear HK9
       generalize w9.heap.size = b8 at HFZ HBW ⊢)
  all_goals
   have HFx4 := Lib.hid (HC.out.heap HFx.out (fun h => h)); have HRx4 := Lib.hid (HC.out.heap HRx.out (fun h => h)); have HI4 := Lib.hid (HIx.out.keeps0 HC.out)
   have HB4 := Lib.hid (HB3.out.keeps0 HC.out); have HT4 := Lib.hid (HT3.out.keeps0 HC.out); have HK4 := Lib.hid (HK3.out.trans HC.out)
   obtain ⟨f0, f1, _, _, fl⟩ := pair_cells HFx4.out
   obtain ⟨g0, g1, z0, z1, gl⟩ := pair_cells HFZ.out
   obtain ⟨r0, r1, r2, r3, rl⟩ := quad_cells HRx4.out
   clear d0 d1 d2 d3 d0' d1' d2' d3' hbx
   have HNE := Lib.hid (show ¬ bqx + 1 = b8 ∧ ¬ bqx = b8 from by
    have h1 := lt_of_heap HFx.out; have h2 := HBW.out; rw [HZ5.out] at h1; omega)
   have HBZ := Lib.hid (show w.heap.size ≤ b8 from by
    have h1 := HK3.out.size; have h2 := HBW.out; rw [HZ5.out] at h1; omega)
   have HBW5 := Lib.hid (show w5.heap.size ≤ b8 from by rw [HZ5.out]; exact HBW.out)
   rcases HP.out with ⟨hz, he, rfl, rfl, rfl, rfl⟩ | ⟨hz, ok, l, hx, href⟩
   ·have e2 : (fcx, fix) = (c', i') := he.trans HCI.out
    simp only [Prod.mk.injEq] at e2
    obtain ⟨rfl, rfl⟩ := e2
    have q1 : (fcx != 0) = true := by simpa using hz
    have q2 : (fcx == 0) = false := by simpa using hz
    clear hz he HP HCI z0 z1
    simp only [List.length_nil] at r1 HRx4 ⊢
    go_wp2_with fail
    refine (noResult_any _ false _ 0 _ 0 0 (by omega)).mono ?_; rintro e w6 ⟨rfl, hk⟩
    have HK5 := Lib.hid (HK4.out.trans hk)
    clear hk
    go_wp2_with fail
    go_ret
    exact ⟨rfl, HK5.out⟩
   ·have e2 : (0, 0) = (c', i') := hz.symm.trans HCI.out
    simp only [Prod.mk.injEq] at e2
    obtain ⟨rfl, rfl⟩ := e2
    have OK := Lib.hid ok; have HX := Lib.hid hx; have HREF := Lib.hid href
    clear hz ok hx href HP HCI
    have hbx := HB4.out.lt
    obtain ⟨d0, d1, d2, d3⟩ := HB4.out
    go_wp2_with fail
    refine (reached_any _ _ _ _ t HT4.out OK.out).mono ?_; rintro e w8 ⟨hk, hr⟩
    rcases hr with ⟨hn, rfl⟩ | ⟨l', hn, vl, vw, vs, rfl, hr⟩
    ·have hx := HX.out
     unfold explored at hx
     rw [hx] at hn; cases hn
    obtain rfl : l' = l := by
     have hx := HX.out
     unfold explored at hx
     rw [hx] at hn; exact (Option.some.inj hn).symm
    have HLS := Lib.hid hr.lists
    have hfew := (reached_some hn).2.1
    have HG := Lib.hid (good_explored OK.out HX.out)
    obtain ⟨al, cl, hvl⟩ := ownsRow_form1 hr.out
    subst hvl
    have HFZ8 := Lib.hid (hk.heap HFZ.out (fun h => h)); have HFx8 := Lib.hid (hk.heap HFx4.out (fun h => h)); have HRx8 := Lib.hid (hk.heap HRx4.out (fun h => h))
    have HB8 := Lib.hid (HB4.out.keeps0 hk); have HT8 := Lib.hid (HT4.out.keeps0 hk); have K8 := Lib.hid (HK4.out.trans hk); have HI8 := Lib.hid (HI4.out.keeps0 hk); have KW8 := Lib.hid (HC.out.trans hk)
    clear hk hr hn f0 f1 fl g0 g1 z0 z1 gl r0 r1 r2 r3 rl d0 d1 d2 d3 hbx
    go_upto_region 10 with fail
    have hl0 : 0 < l'.length := by
     have := (reached_some (show reached (wordsOf t.ops) (wd t.init) = some l' from HX.out)).2.2.1
     exact (List.getElem?_eq_some_iff.1 this).1
    have hbx := HB8.out.lt
    obtain ⟨d0, d1, d2, d3⟩ := HB8.out
    have KD := (Keeps.refl (fun _ => False) w8).drew
    have HTD := Lib.hid (HT8.out.keeps0 KD); have HLD := Lib.hid (HLS.out.keeps0 KD)
    have KDH := Lib.hid KD
    clear KD
    go_region_with (first | (go_at_call 15; refine (arcs_any _ _ _ _ _ t l' HTD.out OK.out HLD.out HG.out hfew).mono ?_; rintro e w9 ⟨va, rfl, hoa, hk9⟩; obtain ⟨aa, ca, haa⟩ := ownsRow_formS hoa; subst haa; have HA9 := Lib.hid hoa.at; have HT9 := Lib.hid (HTD.out.keeps0 hk9); have HL9 := Lib.hid (HLD.out.keeps0 hk9); have K9 := Lib.hid (KDH.out.trans hk9); obtain ⟨d0', d1', d2', d3'⟩ := HB8.out.keeps0 K9.out; clear hoa hk9) | (go_at_call 16; refine (goals_any _ _ _ _ _ t l' HT9.out HL9.out hfew).mono ?_; rintro e w10 ⟨vb, rfl, hob, hk10⟩; obtain ⟨ab, cb, hab⟩ := ownsRow_form1 hob; subst hab; have HA10 := Lib.hid (HA9.out.keeps0 hk10); have HO10 := Lib.hid (show Bools w10 (.slice ab l'.length cb) (l'.map (goalB (wd t.goal))) by (rw [← goals_eq OK.out HG.out]; unfold Bools; rw [List.length_map]; exact Sl.of_own hob)); have K10 := Lib.hid (K9.out.trans hk10); clear hob hk10) | (go_at_call 14; refine (shortest_any _ _ _ (arcs (wordsOf t.ops) l') (l'.map (goalB (wd t.goal))) 0 HA10.out HO10.out (by (rw [List.length_map]; omega)) (fun a ha => by (rw [List.length_map]; exact ⟨(arcs_lt ha).1, (arcs_lt ha).2.1⟩)) (by (rw [List.length_map]; omega))).mono ?_; rintro e w11 hs; obtain ⟨hk11, o', v', hb, rfl, hi, hlow⟩ := short_best HX.out hs; have HLOW := Lib.hid (fun k hk => Nat.le_trans K10.out.size (hlow k hk)); have HB11 := Lib.hid hb; have HI11 := Lib.hid hi; have K11 := Lib.hid (K10.out.trans hk11); clear hs hk11 hb hi hlow))
    all_goals
     have HRES := Lib.hid (HREF.out _ HB11.out)
     have HLQ := Lib.hid (show (o'.getD []).length = (intsP (o'.getD [])).length by unfold intsP; rw [List.length_map])
     obtain ⟨aq, cq, hq, _⟩ := HI11.out.form
     subst hq
     have HFZ11 := Lib.hid (K11.out.heap HFZ8.out (fun h => h)); have HFx11 := Lib.hid (K11.out.heap HFx8.out (fun h => h)); have HRx11 := Lib.hid (K11.out.heap HRx8.out (fun h => h))
     have KW11 := Lib.hid (KW8.out.trans K11.out)
     have KK := Lib.hid (K8.out.trans K11.out); have HI11x := Lib.hid (HI8.out.keeps0 K11.out); have HT11 := Lib.hid (HT8.out.keeps0 K11.out); have HB11x := Lib.hid (HB8.out.keeps0 K11.out)
     obtain ⟨g0, g1, z0, z1, gl⟩ := pair_cells HFZ11.out
     clear d0 d1 d2 d3 hbx d0' d1' d2' d3' HI11 HB11 HREF
     go_wp2_with fail
     refine (wayFault_any _ _ _ _ _ _).mono ?_; rintro e w12 ⟨rfl, hk⟩
     rw [← HLQ.out]
     have HFZ12 := Lib.hid (hk.heap HFZ11.out (fun h => h)); have HFx12 := Lib.hid (hk.heap HFx11.out (fun h => h)); have HRx12 := Lib.hid (hk.heap HRx11.out (fun h => h))
     have KW12 := Lib.hid (KW11.out.trans hk)
     have K12 := Lib.hid (KK.out.trans hk); have HI12 := Lib.hid (HI11x.out.keeps0 hk); have HT12 := Lib.hid (HT11.out.keeps0 hk); have HB12 := Lib.hid (HB11x.out.keeps0 hk)
     clear hk g0 g1 z0 z1 gl
     obtain ⟨g0, g1, z0, z1, gl⟩ := pair_cells HFZ12.out
     obtain ⟨c2, i2, hci2⟩ : ∃ c2 i2, wayF (o'.getD []).length (0, 0) = (c2, i2) := ⟨_, _, rfl⟩
     rw [hci2]
     simp only
     have kp := keeps_pair (w := w12) b8 (.int .i64 c2) (.int .i64 i2)
     have hb8 : w.heap.size ≤ b8 := HBZ.out
     have HFZ13 := Lib.hid (pair_set HFZ12.out (.int .i64 c2) (.int .i64 i2))
     have HFx13 := Lib.hid (kp.heap HFx12.out HNE.out.1); have HRx13 := Lib.hid (kp.heap HRx12.out HNE.out.2)
     have K13 := Lib.hid (K12.out.trans' kp (fun i hi => .inr (by omega)))
     have KP := Lib.hid kp
     clear kp
     go_upto_region 12 with fail
     clear g0 g1 z0 z1 gl
     rcases HRES.out with ⟨hwf, rfl, rfl, rfl, hsnd⟩ | ⟨hwf, rfl, rfl, rfl, rfl, rfl, rfl⟩
     ·have e3 : (c2, i2) = (0, 0) := hci2.symm.trans hwf
      simp only [Prod.mk.injEq] at e3
      obtain ⟨rfl, rfl⟩ := e3
      have HSN := Lib.hid hsnd
      have KW := Lib.hid (KW12.out.trans' KP.out (fun q hq => .inr (by rw [hq]; exact HBW5.out)))
      have HB13 := Lib.hid (HB3.out.keeps0 KW.out); have HT13 := Lib.hid (HT3.out.keeps0 KW.out); have HI13 := Lib.hid (HIx.out.keeps0 KW.out)
      clear hci2 hwf HRES hsnd KW
      generalize (w12.setCell ⟨b8, 0, none⟩ (.int .i64 0)).setCell ⟨b8, 1, none⟩ (.int .i64 0) = w13 at HFZ13 HFx13 HRx13 K13 KP HB13 HT13 HI13 ⊢
      obtain ⟨f0, f1, _, _, fl⟩ := pair_cells HFx13.out
      obtain ⟨g0, g1, _, _, gl⟩ := pair_cells HFZ13.out
      obtain ⟨r0, r1, r2, r3, rl⟩ := quad_cells HRx13.out
      have hbxd := HB13.out.lt
      obtain ⟨d0, d1, d2, d3⟩ := HB13.out
      go_wp2_with fail
      refine (sound_any _ _ _ _ _ t l' o'.isSome lpx cx nx HT13.out OK.out HX.out HI13.out HSN.out).mono ?_; rintro e w14 ⟨rfl, hk⟩
      have HK5 := Lib.hid (K13.out.trans hk)
      clear hk
      go_wp2_with fail
      go_ret
      exact ⟨rfl, HK5.out⟩
     ·have e3 : (c2, i2) = (10, -9) := hci2.symm.trans hwf
      simp only [Prod.mk.injEq] at e3
      obtain ⟨rfl, rfl⟩ := e3
      clear hci2 hwf HRES
      generalize (w12.setCell ⟨b8, 0, none⟩ (.int .i64 10)).setCell ⟨b8, 1, none⟩ (.int .i64 (-9)) = w13 at HFZ13 HFx13 HRx13 K13 KP ⊢
      simp only [List.length_nil] at HRx13 ⊢
      obtain ⟨f0, f1, _, _, fl⟩ := pair_cells HFx13.out
      obtain ⟨g0, g1, _, _, gl⟩ := pair_cells HFZ13.out
      obtain ⟨r0, r1, r2, r3, rl⟩ := quad_cells HRx13.out
      go_wp2_with fail
      refine (noResult_any _ false _ 0 _ 0 0 (by omega)).mono ?_; rintro e w14 ⟨rfl, hk⟩
      have HK5 := Lib.hid (K13.out.trans hk)
      clear hk
      go_wp2_with fail
      go_ret
      exact ⟨rfl, HK5.out⟩

end Go.Proofs.YtdokakhgflljgaaGreat
