/- space.Distances, space.Optimal. strips: sets, states and plans in plain words. strips.Contains, Update, Can, Next. strips.Successors and its iterator; strips.Applicable. strips.Applicable, Apply. No condition beyond what each theorem says. -/
import Derived.Test.YtdonadeodioplaaGreatK7
import Derived.Test.YtdonadeodioplaaGreatK8
import Derived.Lib.SlicesCompact
import Derived.Sort.OwnSortedInts
import Derived.Test.YtdonadeodioplaaGreatK1

namespace Go.Proofs.YtdonadeodioplaaGreat
open Go.RowKit

def DistPost (t : Tsk) (w : World) (e : Ending) (w' : World) : Prop := Keeps (fun _ => False) w w' ∧
  ((∃ c i, c ≠ 0 ∧ expF t = (c, i) ∧ e = .returned (.tuple #[.slice none 0 0, fltV c i])) ∨
   (t.Ok ∧ ∃ (l ws : List Nat) (v : Value) (D : Nat → Int), explored t = some l ∧ ws.Perm l ∧ ws.Pairwise ordW ∧ CostOk (arcs (wordsOf t.ops) ws) (ws.map (goalB (wd t.goal))) (ws.map D) ∧ e = .returned (.tuple #[v, fltV 0 0]) ∧ Ints w' v (ws.map D)))
def OptPost (t : Tsk) (w : World) (e : Ending) (w' : World) : Prop := Keeps (fun _ => False) w w' ∧
  ((∃ c i, c ≠ 0 ∧ expF t = (c, i) ∧ e = .returned (.tuple #[.int .i64 0, fltV c i])) ∨
   (t.Ok ∧ ∃ (l ws : List Nat) (D : Nat → Int), explored t = some l ∧ ws.Perm l ∧ ws.Pairwise ordW ∧ CostOk (arcs (wordsOf t.ops) ws) (ws.map (goalB (wd t.goal))) (ws.map D) ∧ e = .returned (.tuple #[.int .i64 (D (wd t.init)), fltV 0 0])))

/-- What Costs asks for. -/
theorem costs_need {t : Tsk} (ok : t.Ok) {l ws : List Nat} (hx : explored t = some l) (hp : ws.Perm l) :
    wd t.init < 4294967296 ∧ wd t.goal < 4294967296 ∧ (wordsOf t.ops).length ≤ 40 ∧ Shut (wordsOf t.ops) ws ∧ ws.length ≤ 2000 ∧ (∀ x ∈ ws, x < 4294967296) ∧ (∀ o ∈ wordsOf t.ops, 0 ≤ o.cost ∧ o.cost ≤ 1000000) ∧ wd t.init ∈ ws := by
  have hs32 : wd t.init < 4294967296 := wd_lt32 (by have := ok.n1; omega : t.n ≤ 32) ok.init
  have hg32 : wd t.goal < 4294967296 := wd_lt32 (by have := ok.n1; omega : t.n ≤ 32) ok.goal
  have hsh := shut_reached (ops := wordsOf t.ops) (s := wd t.init) (L := l) hx
  have hr := reached_some (ops := wordsOf t.ops) (s := wd t.init) (l := l) hx
  refine ⟨hs32, hg32, by unfold wordsOf; rw [List.length_map]; exact ok.few, ⟨hp.nodup_iff.2 hsh.1, fun x h o ho hc => hp.mem_iff.2 (hsh.2 x (hp.mem_iff.1 h) o ho hc)⟩, by rw [hp.length_eq]; exact hr.2.1, fun x h => reach_small (wops_ok ok) hs32 ((hr.2.2.2 x).1 (hp.mem_iff.1 h)), fun o ho => ?_, hp.mem_iff.2 (List.mem_of_getElem? hr.2.2.1)⟩
  unfold wordsOf at ho
  obtain ⟨o', ho', rfl⟩ := List.mem_map.1 ho
  have h := ok.ops o' ho'
  have hc : o'.word.cost = o'.cost := rfl
  rw [hc]
  exact ⟨h.cost0, by have := h.cost1; omega⟩

set_option maxRecDepth 100000 in
set_option maxHeartbeats 2000000 in
theorem distances_any (w : World) (vi vg vo : Value) (t : Tsk) (h : TaskAt w vi vg vo t) :
    Calls Tryz.prog 12 #[.agg #[.int .i64 t.n, vi, vg, vo]] w (DistPost t w) := by
  obtain ⟨j0, hj0, jz0, jz1, jz2⟩ := info_parts Tryz.info3
  obtain ⟨ai, ci, h1, _⟩ := h.init.form
  obtain ⟨ag, cg, h2, _⟩ := h.goal.form
  obtain ⟨ao, co, h3, hmo⟩ := h.ops.form
  subst h1 h2 h3
  have K1 := (Keeps.refl (fun _ => False) w).alloc (.cells #[.int .i64 t.n, .slice ai t.init.length ci, .slice ag t.goal.length cg, .slice ao t.ops.length co] 25)
  have HT := h.keeps0 (K1.alloc (.cells #[.int .i64 0, .int .i64 0] 30))
  have HB := (Four.new w (.int .i64 t.n) (.slice ai t.init.length ci) (.slice ag t.goal.length cg) (.slice ao t.ops.length co) 25).keeps0 ((Keeps.refl _ _).alloc (.cells #[.int .i64 0, .int .i64 0] 30))
  have HF : Flt w ((w.alloc (.cells #[.int .i64 t.n, .slice ai t.init.length ci, .slice ag t.goal.length cg, .slice ao t.ops.length co] 25)).alloc (.cells #[.int .i64 0, .int .i64 0] 30)) (w.heap.size + 1) 30 :=
    ⟨by have := heap_alloc_new (w.alloc (.cells #[.int .i64 t.n, .slice ai t.init.length ci, .slice ag t.goal.length cg, .slice ao t.ops.length co] 25)) (.cells #[.int .i64 0, .int .i64 0] 30); rwa [World.size_alloc] at this, by omega, K1.alloc _⟩
  replace HT := Lib.hid HT; replace HB := Lib.hid HB; replace HF := Lib.hid HF
  clear h K1
  go_enter Tryz.func12, Tryz.ntmps12
  go_upto_region 1 with fail
  generalize ((w.alloc (.cells #[.int .i64 t.n, .slice ai t.init.length ci, .slice ag t.goal.length cg, .slice ao t.ops.length co] 25)).alloc (.cells #[.int .i64 0, .int .i64 0] 30)) = w1 at HT HB HF ⊢
  have hbx := HB.out.lt
  obtain ⟨d0, d1, d2, d3⟩ := HB.out
  go_wp2_with fail
  refine (checked_any _ _ _ _ t HT.out).mono ?_; rintro e w2 ⟨hk, hr⟩
  have HF2 := Lib.hid (HF.out.keeps0 hk)
  clear d0 d1 d2 d3 hk
  have hb0 := HF2.out.keep.size
  rcases hr with ⟨hc, rfl⟩ | ⟨hok, hx, rfl⟩ | ⟨hok, l, hx, b, v, vl, ws, rfl, hw, hperm, hord, hown⟩
  · have hc2 : ((taskFault t).1 == 0) = false := by simpa using hc
    have HE := Lib.hid (show expF t = taskFault t by unfold expF; rw [if_neg hc])
    have HC := Lib.hid hc
    clear hc
    generalize hfe : taskFault t = f at hc2 HC HE ⊢
    clear hfe
    have HF3 := Lib.hid (HF2.out.keeps0 ((Keeps.refl _ _).alloc (.cells #[.int .i64 f.1, .int .i64 f.2] 30)))
    obtain ⟨e0, e1, z0, z1, hF⟩ := HF3.out.cells
    go_wp2_with fail
    go_region
    all_goals
      go_wp2
      refine bodyPost_ret (results_tmp_cell _ _ (w.heap.size + 1) 30 #[.int .i64 f.1, .int .i64 f.2] (0, 0) _ rfl rfl (((Keeps.refl (fun _ => False) _).drew).heap (HF3.out.set (.int .i64 f.1) (.int .i64 f.2)).1 (fun h => h)) Tryz.underlying30 rfl (by kernel_rfl)) rfl ?_
      exact ⟨((HF3.out.set (.int .i64 f.1) (.int .i64 f.2)).2).drew, .inl ⟨f.1, f.2, HC.out, HE.out, rfl⟩⟩
  · have HE := Lib.hid (show expF t = (10, -7) by unfold expF; rw [if_pos (taskFault_zero.2 hok), hx])
    clear hx hok
    have HF3 := Lib.hid (HF2.out.keeps0 ((Keeps.refl _ _).alloc (.cells #[.int .i64 10, .int .i64 (-7)] 30)))
    obtain ⟨e0, e1, z0, z1, hF⟩ := HF3.out.cells
    go_wp2_with fail
    go_region
    all_goals
      go_wp2
      refine bodyPost_ret (results_tmp_cell _ _ (w.heap.size + 1) 30 #[.int .i64 10, .int .i64 (-7)] (0, 0) _ rfl rfl (((Keeps.refl (fun _ => False) _).drew).heap (HF3.out.set (.int .i64 10) (.int .i64 (-7))).1 (fun h => h)) Tryz.underlying30 rfl (by kernel_rfl)) rfl ?_
      exact ⟨((HF3.out.set (.int .i64 10) (.int .i64 (-7))).2).drew, .inl ⟨10, -7, by decide, HE.out, rfl⟩⟩
  · have HX := Lib.hid hx; have OK := Lib.hid hok; have PERM := Lib.hid hperm; have ORD := Lib.hid (show ws.Pairwise ordW from hord)
    obtain ⟨n1, n2, n3, n4, hfew, n6, n7, n8⟩ := costs_need hok hx hperm
    have KA := (Keeps.refl (fun _ => False) w2).alloc (.cells #[.int .i64 0, .int .i64 0] 30)
    have HV := Lib.hid (show Sl _ vl ws.length (ws.map encW) from (Sl.of_own hown).keeps0 KA)
    have HWA := Lib.hid (hw.keeps0 KA)
    have HF3 := Lib.hid (HF2.out.keeps0 KA)
    obtain ⟨av, cv, hav⟩ := ownsRow_form1 hown
    subst hav
    have HN := Lib.hid (And.intro n2 (And.intro n3 (And.intro n4 (And.intro n6 n7))))
    clear hx hok hw KA hperm hord hown n1 n2 n3 n4 n6 n7 n8
    have F0 := heap_alloc_new w2 (.cells #[.int .i64 0, .int .i64 0] 30)
    go_upto_region 2 with fail
    generalize w2.alloc (.cells #[.int .i64 0, .int .i64 0] 30) = w3 at HV HF3 HWA F0 ⊢
    have f0 : w3.cell? ⟨w2.heap.size, 0, none⟩ = some (.int .i64 0) := by rw [cell_of_blk F0]; rfl
    have f1 : w3.cell? ⟨w2.heap.size, 1, none⟩ = some (.int .i64 0) := by rw [cell_of_blk F0]; rfl
    clear F0
    have hb2 := HF3.out.keep.size
    have hbF := HF3.out.blk
    go_wp2_with fail
    refine (costs_any w3 b (wd t.init) (wd t.goal) _ v (.slice av ws.length cv) (wordsOf t.ops) ws HWA.out (wops_ok OK.out) HN.out.2.1 HN.out.1 HN.out.2.2.1 hfew HN.out.2.2.2.1 HN.out.2.2.2.2 HV.out).mono ?_
    rintro e w4 ⟨hk4, bo, D, rfl, hbo, hI, hco⟩
    have HI := Lib.hid hI; have HCO := Lib.hid hco; have HV4 := Lib.hid (HV.out.keeps0 hk4); have HF4 := Lib.hid (HF3.out.keeps0 hk4)
    have HCV := Lib.hid (Sl.cellN HV4.out rfl)
    have hb4 := hk4.size
    clear hI hco hk4 f0 f1 hbF HF3 HV HWA
    go_wp2_with fail
    go_loopw [8, 26] (fun v8 v26 wr => ∃ k : Nat, k ≤ ws.length ∧ v26 = .int .i64 (k : Int) ∧ wr.ownsRow w4.heap.size 3 1 v8 k ((ws.take k).map fun x : Nat => Value.int .i64 (D x)) ∧ Keeps (fun _ => False) w4 wr) (fun _ v26 _ => ws.length - (intOf v26).toNat)
    case atStart => exact ⟨0, Nat.zero_le _, rfl, World.ownsRow_nil _ _ _ _, Keeps.refl _ _⟩
    case round =>
      obtain ⟨k, hk, rfl, hrow, hkr⟩ := hrel
      have HR := Lib.hid hrow; have HKR := Lib.hid hkr
      have hsz := hkr.size
      obtain ⟨ar, cr, har⟩ := ownsRow_form1 hrow
      subst har
      clear hrow hkr
      by_cases hlt : k < ws.length
      · obtain ⟨bl, ol, rfl, hx'⟩ := HCV.out (by omega)
        obtain ⟨x, hx⟩ : ∃ x, ws[k]? = some x := ⟨_, List.getElem?_eq_getElem hlt⟩
        have hu := HKR.out.cell (hx' k (.int .u32 (x : Int)) (by rw [List.getElem?_map, hx]; rfl)) (fun h => h)
        have hlk := ((HI.out.keeps HKR.out (fun h => h)).run_lookup_hit (P := Tryz.prog) Tryz.underlying59 Tryz.underlying50 (outV_nodup HN.out.2.2.1.1 D) (outV_mem D (List.mem_of_getElem? hx))).2
        have HTK := Lib.hid (show (ws.take (k + 1)).map (fun x : Nat => Value.int .i64 (D x)) = (ws.take k).map (fun x : Nat => Value.int .i64 (D x)) ++ [.int .i64 (D x)] by
          rw [take_getS hx, List.map_append]; rfl)
        clear hx' hx
        go_wp2_with (at_builtin; refine wpList_append_d rfl _ _ _ rfl w4.heap.size 3 j0 _ 1 8 Tryz.underlying22 hj0 jz0 jz1 jz2 rfl (by omega) _ k ((ws.take k).map fun x : Nat => Value.int .i64 (D x)) (by rfl) (World.ownsRow.alloc HR.out (.cells #[.int .i64 (D x)] 3)) ⟨wr.heap.size, 0, none⟩ 1 1 [.int .i64 (D x)] (by rfl) (by rfl) (World.news_of_block (cs := #[.int .i64 (D x)]) (t := 3) (fr := (0, 0)) (heap_alloc_new _ _)) (by simp [Value.oneCell']) (by omega) (by unfold maxLen; omega) (by omega) (by simp; omega) (wr.heap.size + 1) (by simp) ?_)
        intro gg cap2 w5 hown hgrow hat hlt5 hd5
        have HO := Lib.hid hown
        have HK5 := Lib.hid (own_grown HR.out HKR.out ((Keeps.refl _ wr).alloc (.cells #[.int .i64 (D x)] 3)) hgrow)
        clear hown hgrow hat hd5 hu hlk
        go_wp2_with fail
        go_roundw
        case rel => exact ⟨k + 1, by omega, by go_num, by rw [HTK.out, List.map_take]; exact HO.out, HK5.out⟩
        case measure => simp only [intOf]; omega
      · have hie : k = ws.length := by omega
        subst hie
        have HFr := Lib.hid (HF4.out.keeps0 HKR.out)
        obtain ⟨e0, e1, z0, z1, hF⟩ := HFr.out.cells
        have s0 := setCell_id e0
        have s1 := setCell_id e1
        have HR2 := Lib.hid (show Ints wr (.slice ar ws.length cr) (ws.map D) by
          have h := HR.out
          rw [List.take_length] at h
          refine Ints.of_own (base := w4.heap.size) (e := 3) ?_
          rw [List.length_map, List.map_map]
          exact h)
        go_wp2_with fail
        refine bodyPost_ret (results_tmp_cell _ _ (w.heap.size + 1) 30 #[.int .i64 0, .int .i64 0] (0, 0) _ rfl rfl HFr.out.blk Tryz.underlying30 rfl (by kernel_rfl)) rfl ?_
        exact ⟨HFr.out.keep, .inr ⟨OK.out, l, ws, _, D, HX.out, PERM.out, ORD.out, HCO.out, rfl, HR2.out⟩⟩

set_option maxRecDepth 100000 in
set_option maxHeartbeats 2000000 in
theorem optimal_any (w : World) (vi vg vo : Value) (t : Tsk) (h : TaskAt w vi vg vo t) :
    Calls Tryz.prog 13 #[.agg #[.int .i64 t.n, vi, vg, vo]] w (OptPost t w) := by
  obtain ⟨j0, hj0, jz0, jz1, jz2⟩ := info_parts Tryz.info3
  obtain ⟨ai, ci, h1, _⟩ := h.init.form
  obtain ⟨ag, cg, h2, _⟩ := h.goal.form
  obtain ⟨ao, co, h3, hmo⟩ := h.ops.form
  subst h1 h2 h3
  have K1 := (Keeps.refl (fun _ => False) w).alloc (.cells #[.int .i64 t.n, .slice ai t.init.length ci, .slice ag t.goal.length cg, .slice ao t.ops.length co] 25)
  have HT := h.keeps0 (K1.alloc (.cells #[.int .i64 0, .int .i64 0] 30))
  have HB := (Four.new w (.int .i64 t.n) (.slice ai t.init.length ci) (.slice ag t.goal.length cg) (.slice ao t.ops.length co) 25).keeps0 ((Keeps.refl _ _).alloc (.cells #[.int .i64 0, .int .i64 0] 30))
  have HF : Flt w ((w.alloc (.cells #[.int .i64 t.n, .slice ai t.init.length ci, .slice ag t.goal.length cg, .slice ao t.ops.length co] 25)).alloc (.cells #[.int .i64 0, .int .i64 0] 30)) (w.heap.size + 1) 30 :=
    ⟨by have := heap_alloc_new (w.alloc (.cells #[.int .i64 t.n, .slice ai t.init.length ci, .slice ag t.goal.length cg, .slice ao t.ops.length co] 25)) (.cells #[.int .i64 0, .int .i64 0] 30); rwa [World.size_alloc] at this, by omega, K1.alloc _⟩
  replace HT := Lib.hid HT; replace HB := Lib.hid HB; replace HF := Lib.hid HF
  clear h K1
  go_enter Tryz.func13, Tryz.ntmps13
  go_upto_region 1 with fail
  generalize ((w.alloc (.cells #[.int .i64 t.n, .slice ai t.init.length ci, .slice ag t.goal.length cg, .slice ao t.ops.length co] 25)).alloc (.cells #[.int .i64 0, .int .i64 0] 30)) = w1 at HT HB HF ⊢
  have hbx := HB.out.lt
  obtain ⟨d0, d1, d2, d3⟩ := HB.out
  go_wp2_with fail
  refine (checked_any _ _ _ _ t HT.out).mono ?_; rintro e w2 ⟨hk, hr⟩
  have HF2 := Lib.hid (HF.out.keeps0 hk)
  clear d0 d1 d2 d3 hk
  have hb0 := HF2.out.keep.size
  rcases hr with ⟨hc, rfl⟩ | ⟨hok, hx, rfl⟩ | ⟨hok, l, hx, b, v, vl, ws, rfl, hw, hperm, hord, hown⟩
  · have hc2 : ((taskFault t).1 == 0) = false := by simpa using hc
    have HE := Lib.hid (show expF t = taskFault t by unfold expF; rw [if_neg hc])
    have HC := Lib.hid hc
    clear hc
    generalize hfe : taskFault t = f at hc2 HC HE ⊢
    clear hfe
    have HF3 := Lib.hid (HF2.out.keeps0 ((Keeps.refl _ _).alloc (.cells #[.int .i64 f.1, .int .i64 f.2] 30)))
    obtain ⟨e0, e1, z0, z1, hF⟩ := HF3.out.cells
    go_wp2_with fail
    go_region
    all_goals
      go_wp2
      refine bodyPost_ret (results_tmp_cell _ _ (w.heap.size + 1) 30 #[.int .i64 f.1, .int .i64 f.2] (0, 0) _ rfl rfl (((Keeps.refl (fun _ => False) _).drew).heap (HF3.out.set (.int .i64 f.1) (.int .i64 f.2)).1 (fun h => h)) Tryz.underlying30 rfl (by kernel_rfl)) rfl ?_
      exact ⟨((HF3.out.set (.int .i64 f.1) (.int .i64 f.2)).2).drew, .inl ⟨f.1, f.2, HC.out, HE.out, rfl⟩⟩
  · have HE := Lib.hid (show expF t = (10, -7) by unfold expF; rw [if_pos (taskFault_zero.2 hok), hx])
    clear hx hok
    have HF3 := Lib.hid (HF2.out.keeps0 ((Keeps.refl _ _).alloc (.cells #[.int .i64 10, .int .i64 (-7)] 30)))
    obtain ⟨e0, e1, z0, z1, hF⟩ := HF3.out.cells
    go_wp2_with fail
    go_region
    all_goals
      go_wp2
      refine bodyPost_ret (results_tmp_cell _ _ (w.heap.size + 1) 30 #[.int .i64 10, .int .i64 (-7)] (0, 0) _ rfl rfl (((Keeps.refl (fun _ => False) _).drew).heap (HF3.out.set (.int .i64 10) (.int .i64 (-7))).1 (fun h => h)) Tryz.underlying30 rfl (by kernel_rfl)) rfl ?_
      exact ⟨((HF3.out.set (.int .i64 10) (.int .i64 (-7))).2).drew, .inl ⟨10, -7, by decide, HE.out, rfl⟩⟩
  · have HX := Lib.hid hx; have OK := Lib.hid hok; have PERM := Lib.hid hperm; have ORD := Lib.hid (show ws.Pairwise ordW from hord)
    obtain ⟨n1, n2, n3, n4, hfew, n6, n7, n8⟩ := costs_need hok hx hperm
    have KA := (Keeps.refl (fun _ => False) w2).alloc (.cells #[.int .i64 0, .int .i64 0] 30)
    have HV := Lib.hid (show Sl _ vl ws.length (ws.map encW) from (Sl.of_own hown).keeps0 KA)
    have HWA := Lib.hid (hw.keeps0 KA)
    have HF3 := Lib.hid (HF2.out.keeps0 KA)
    obtain ⟨av, cv, hav⟩ := ownsRow_form1 hown
    subst hav
    have HN := Lib.hid (And.intro n2 (And.intro n3 (And.intro n4 (And.intro n6 (And.intro n7 n8)))))
    clear hx hok hw KA hperm hord hown n1 n2 n3 n4 n6 n7 n8
    have F0 := heap_alloc_new w2 (.cells #[.int .i64 0, .int .i64 0] 30)
    go_upto_region 2 with fail
    generalize w2.alloc (.cells #[.int .i64 0, .int .i64 0] 30) = w3 at HV HF3 HWA F0 ⊢
    have f0 : w3.cell? ⟨w2.heap.size, 0, none⟩ = some (.int .i64 0) := by rw [cell_of_blk F0]; rfl
    have f1 : w3.cell? ⟨w2.heap.size, 1, none⟩ = some (.int .i64 0) := by rw [cell_of_blk F0]; rfl
    clear F0
    have hb2 := HF3.out.keep.size
    have hbF := HF3.out.blk
    go_wp2_with fail
    refine (costs_any w3 b (wd t.init) (wd t.goal) _ v (.slice av ws.length cv) (wordsOf t.ops) ws HWA.out (wops_ok OK.out) HN.out.2.1 HN.out.1 HN.out.2.2.1 hfew HN.out.2.2.2.1 HN.out.2.2.2.2.1 HV.out).mono ?_
    rintro e w4 ⟨hk4, bo, D, rfl, hbo, hI, hco⟩
    have HI := Lib.hid hI; have HCO := Lib.hid hco; have HF4 := Lib.hid (HF3.out.keeps0 hk4); have HW4 := Lib.hid (HWA.out.keeps0 hk4)
    clear hI hco hk4 f0 f1 hbF HF3 HV HWA
    go_wp2_with fail
    refine (start_any _ _ _ _ _ _ _ HW4.out).mono ?_; rintro e w5 ⟨rfl, rfl⟩
    have hlk := (HI.out.run_lookup_hit (P := Tryz.prog) Tryz.underlying59 Tryz.underlying50 (outV_nodup HN.out.2.2.1.1 D) (outV_mem D HN.out.2.2.2.2.2)).2
    obtain ⟨e0, e1, z0, z1, hF⟩ := HF4.out.cells
    have s0 := setCell_id e0
    have s1 := setCell_id e1
    go_wp2_with fail
    refine bodyPost_ret (results_tmp_cell _ _ (w.heap.size + 1) 30 #[.int .i64 0, .int .i64 0] (0, 0) _ rfl rfl HF4.out.blk Tryz.underlying30 rfl (by kernel_rfl)) rfl ?_
    exact ⟨HF4.out.keep, .inr ⟨OK.out, l, ws, D, HX.out, PERM.out, ORD.out, HCO.out, rfl⟩⟩

end Go.Proofs.YtdonadeodioplaaGreat

/- space's example. -/
namespace Go.Proofs.YtdonadeodioplaaGreat
open Go.RowKit

theorem ordW_antisymm {x y : Nat} (hx : x < 4294967296) (hy : y < 4294967296) (h1 : ordW x y) (h2 : ordW y x) : x = y := by
  unfold ordW cmpW at h1 h2
  have h3 := cmpL_neg (facts x) (facts y)
  have h4 : cmpL (facts x) (facts y) = 0 := by omega
  exact facts_inj (by simpa using hx) (by simpa using hy) (cmpL_eq h4)
theorem sorted_same {a b : List Nat} (hp : a.Perm b) (ha : a.Pairwise ordW) (hb : b.Pairwise ordW) (h32 : ∀ x ∈ a, x < 4294967296) : a = b :=
  hp.eq_of_pairwise (le := ordW) (fun x y hx hy h1 h2 => ordW_antisymm (h32 x hx) (h32 y (hp.mem_iff.2 hy)) h1 h2) ha hb

theorem CostInv.down_inv {A : List Arc} {acc : List Bool} {i : Nat} {x : Int} (h : Down A acc i x) : (acc[i]? = some true ∧ x = 0) ∨ ∃ a ∈ A, a.frm = i ∧ ∃ c, Down A acc a.to c ∧ x = a.cost + c := by
  cases h with
  | nil h => exact .inl ⟨h, rfl⟩
  | cons ha h => exact .inr ⟨_, ha, rfl, _, h, rfl⟩

theorem stepT_ws {ws l : List Nat} (hx : explored stepT = some l) (hp : ws.Perm l) (ho : ws.Pairwise ordW) : ws = [0, 1] := by
  rw [stepT_reached] at hx; cases hx
  exact sorted_same hp ho (by unfold ordW; decide) (fun x hx => by have := hp.mem_iff.1 hx; simp at this; omega)

theorem stepT_arcs : arcs (wordsOf stepT.ops) [0, 1] = [⟨0, 1, 0, 3⟩, ⟨1, 1, 0, 3⟩] := by rfl
theorem stepT_costs {D : Nat → Int} (h : CostOk (arcs (wordsOf stepT.ops) [0, 1]) ([0, 1].map (goalB (wd stepT.goal))) ([0, 1].map D)) : D 0 = 3 ∧ D 1 = 0 := by
  rw [stepT_arcs, show [0, 1].map (goalB (wd stepT.goal)) = [false, true] by decide] at h
  have h1 := h.zero 1 rfl
  have hd1 : D 1 = 0 := by simpa using h1
  obtain ⟨x, hx, hle⟩ := h.relax ⟨0, 1, 0, 3⟩ (by simp) (D 1) rfl (by rw [hd1]; decide)
  have hd0 : D 0 ≤ 3 := by
    have e : D 0 = x := by simpa using hx
    rw [e]; simp only at hle; omega
  have hr := h.real 0 (D 0) rfl (by have : bigC = 1000000000 := rfl; omega)
  refine ⟨?_, hd1⟩
  rcases CostInv.down_inv hr with ⟨h2, _⟩ | ⟨a, ha, hf, c, hc, he⟩
  · simp at h2
  · have h3 := (h.down (fun a ha => by simp at ha; rcases ha with rfl | rfl <;> decide) hc).1
    simp at ha
    rcases ha with rfl | rfl
    · simp only at he; omega
    · simp at hf

theorem stepT_deps {i : Nat} (hi : (tree (wordsOf stepT.ops) (wd stepT.init) i).length ≤ i) : [0, 1].map (depT (tree (wordsOf stepT.ops) (wd stepT.init) i)) = [0, 1] := by
  have hx : reached (wordsOf stepT.ops) (wd stepT.init) = some [0, 1] := stepT_reached
  have hsh := shut_reached hx
  have hr := (reached_some hx).2.2.2
  have h1 := dep_ok hsh hr (k := 0) rfl hi (wt := fun _ => 1) (fun _ => rfl)
  have h2 := dep_ok hsh hr (k := 0) rfl (i := 2) (by decide) (wt := fun _ => 1) (fun _ => rfl)
  rw [h1.unique h2 (fun _ _ => by decide)]
  decide

theorem stepT_exp : expF stepT = (0, 0) := by unfold expF; rw [stepT_ok, stepT_reached]; decide

theorem explStep_any (w : World) (vi vg vo : Value) (h : TaskAt w vi vg vo stepT) :
    Calls Tryz.prog 6 #[.agg #[.int .i64 1, vi, vg, vo]] w fun e w' => ∃ v, e = .returned (.tuple #[v, fltV 0 0]) ∧ Lists w' v [[], [0]] ∧ Keeps (fun _ => False) w w' := by
  refine (explore_any w vi vg vo stepT h).mono ?_
  rintro e w' ⟨hk, ⟨c, i, hc, he, _⟩ | ⟨_, l, ws, v, h1, h2, h3, rfl, h4⟩⟩
  · rw [stepT_exp] at he; cases he; exact absurd rfl hc
  · have := stepT_ws h1 h2 h3; subst this
    exact ⟨v, rfl, h4, hk⟩
theorem distStep_any (w : World) (vi vg vo : Value) (h : TaskAt w vi vg vo stepT) :
    Calls Tryz.prog 12 #[.agg #[.int .i64 1, vi, vg, vo]] w fun e w' => ∃ v, e = .returned (.tuple #[v, fltV 0 0]) ∧ Ints w' v [3, 0] ∧ Keeps (fun _ => False) w w' := by
  refine (distances_any w vi vg vo stepT h).mono ?_
  rintro e w' ⟨hk, ⟨c, i, hc, he, _⟩ | ⟨_, l, ws, v, D, h1, h2, h3, h4, rfl, h5⟩⟩
  · rw [stepT_exp] at he; cases he; exact absurd rfl hc
  · have := stepT_ws h1 h2 h3; subst this
    obtain ⟨e0, e1⟩ := stepT_costs h4
    simp only [List.map_cons, List.map_nil, e0, e1] at h5
    exact ⟨v, rfl, h5, hk⟩
theorem optStep_any (w : World) (vi vg vo : Value) (h : TaskAt w vi vg vo stepT) :
    Calls Tryz.prog 13 #[.agg #[.int .i64 1, vi, vg, vo]] w fun e w' => e = .returned (.tuple #[.int .i64 3, fltV 0 0]) ∧ Keeps (fun _ => False) w w' := by
  refine (optimal_any w vi vg vo stepT h).mono ?_
  rintro e w' ⟨hk, ⟨c, i, hc, he, _⟩ | ⟨_, l, ws, D, h1, h2, h3, h4, rfl⟩⟩
  · rw [stepT_exp] at he; cases he; exact absurd rfl hc
  · have := stepT_ws h1 h2 h3; subst this
    obtain ⟨e0, e1⟩ := stepT_costs h4
    have hi : wd stepT.init = 0 := rfl
    rw [hi, e0]
    exact ⟨rfl, hk⟩
theorem stepsStep_any (w : World) (vi vg vo : Value) (h : TaskAt w vi vg vo stepT) :
    Calls Tryz.prog 14 #[.agg #[.int .i64 1, vi, vg, vo]] w fun e w' => ∃ v, e = .returned (.tuple #[v, fltV 0 0]) ∧ Ints w' v [0, 1] ∧ Keeps (fun _ => False) w w' := by
  refine (spsteps_any w vi vg vo stepT h).mono ?_
  rintro e w' ⟨hk, ⟨c, i, hc, he, _⟩ | ⟨_, l, ws, v, i, h1, h2, h3, h4, rfl, h5⟩⟩
  · rw [stepT_exp] at he; cases he; exact absurd rfl hc
  · have := stepT_ws h1 h2 h3; subst this
    rw [stepT_deps h4] at h5
    exact ⟨v, rfl, h5, hk⟩

theorem Ints.two {w : World} {b : Nat} {x y : Int} {T : TypeId} (h : w.heap[b]? = some (.cells #[.int .i64 x, .int .i64 y] T (0, 0))) : Ints w (.slice (some ⟨b, 0, none⟩) 2 2) [x, y] := by
  refine ⟨_, 2, rfl, by unfold maxLen; simp, fun _ => ⟨b, 0, rfl, fun i z hz => ?_⟩⟩
  match i, hz with
  | 0, hz => simp at hz; subst hz; rw [cell_of_blk h]; rfl
  | 1, hz => simp at hz; subst hz; rw [cell_of_blk h]; rfl
theorem Lists.two {w : World} {b c : Nat} {x : Int} {T T' : TypeId} (h : w.heap[b]? = some (.cells #[.slice none 0 0, .slice (some ⟨c, 0, none⟩) 1 1] T (0, 0))) (hc : w.heap[c]? = some (.cells #[.int .i64 x] T' (0, 0))) : Lists w (.slice (some ⟨b, 0, none⟩) 2 2) [[], [x]] := by
  refine ⟨_, 2, rfl, by unfold maxLen; simp, fun _ => ⟨b, 0, rfl, fun i l hl => ?_⟩⟩
  match i, hl with
  | 0, hl => simp at hl; subst hl; exact ⟨.slice none 0 0, by rw [cell_of_blk h]; rfl, Ints.nil _⟩
  | 1, hl => simp at hl; subst hl; exact ⟨.slice (some ⟨c, 0, none⟩) 1 1, by rw [cell_of_blk h]; rfl, Ints.one hc⟩

set_option maxRecDepth 100000 in
set_option maxHeartbeats 2000000 in
theorem spaceExample_any (w : World) : Calls Tryz.prog 4 #[] w fun e w' => e = .returned (.bool true) ∧ Keeps (fun _ => False) w w' := by
  have KK0 := Lib.hid (Keeps.refl (fun _ => False) w)
  go_enter Tryz.func4, Tryz.ntmps4
  go_wp2_with fail
  refine (step_any _).mono ?_; rintro e x1 ⟨vi1, vg1, vo1, rfl, ht, hk⟩
  have HT := Lib.hid ht; have KX1 := Lib.hid (KK0.out.trans hk)
  clear ht hk KK0 
  go_wp2_with fail
  refine (explStep_any _ _ _ _ HT.out).mono ?_; rintro e y1 ⟨v1, rfl, hr, hk⟩
  obtain ⟨a1, c1, hv, _⟩ := hr.form
  subst hv
  have KA := (Keeps.refl (fun _ => False) y1).alloc (.cells #[.int .i64 0, .int .i64 0] 30)
  have KK1 := Lib.hid (KX1.out.trans (hk.trans KA)); have HF1 := Lib.hid (heap_alloc_new y1 (.cells #[.int .i64 0, .int .i64 0] 30)); have HV1 := Lib.hid (hr.keeps0 KA)
  clear hk KA HT KX1  hr
  simp only [fltV]
  go_upto_region 2 with fail
  generalize y1.alloc (.cells #[.int .i64 0, .int .i64 0] 30) = z1 at KK1 HF1 HV1 ⊢
  generalize y1.heap.size = b1 at HF1 ⊢
  go_wp2_with fail
  refine (step_any _).mono ?_; rintro e x2 ⟨vi2, vg2, vo2, rfl, ht, hk⟩
  have HT := Lib.hid ht; have KX2 := Lib.hid (KK1.out.trans hk); have HF1x := Lib.hid ((HF1.out |> fun h => (hk).heap h (fun h => h))); have HV1x := Lib.hid (HV1.out.keeps0 hk)
  clear ht hk KK1 HF1 HV1
  go_wp2_with fail
  refine (distStep_any _ _ _ _ HT.out).mono ?_; rintro e y2 ⟨v2, rfl, hr, hk⟩
  obtain ⟨a2, c2, hv, _⟩ := hr.form
  subst hv
  have KA := (Keeps.refl (fun _ => False) y2).alloc (.cells #[.int .i64 0, .int .i64 0] 30)
  have KK2 := Lib.hid (KX2.out.trans (hk.trans KA)); have HF2 := Lib.hid (heap_alloc_new y2 (.cells #[.int .i64 0, .int .i64 0] 30)); have HV2 := Lib.hid (hr.keeps0 KA); have HF1 := Lib.hid ((HF1x.out |> fun h => ((hk.trans KA)).heap h (fun h => h))); have HV1 := Lib.hid (HV1x.out.keeps0 (hk.trans KA))
  clear hk KA HT KX2 HF1x HV1x hr
  simp only [fltV]
  go_upto_region 3 with fail
  generalize y2.alloc (.cells #[.int .i64 0, .int .i64 0] 30) = z2 at KK2 HF1 HV1 HF2 HV2 ⊢
  generalize y2.heap.size = b2 at HF2 ⊢
  go_wp2_with fail
  refine (step_any _).mono ?_; rintro e x3 ⟨vi3, vg3, vo3, rfl, ht, hk⟩
  have HT := Lib.hid ht; have KX3 := Lib.hid (KK2.out.trans hk); have HF1x := Lib.hid ((HF1.out |> fun h => (hk).heap h (fun h => h))); have HV1x := Lib.hid (HV1.out.keeps0 hk); have HF2x := Lib.hid ((HF2.out |> fun h => (hk).heap h (fun h => h))); have HV2x := Lib.hid (HV2.out.keeps0 hk)
  clear ht hk KK2 HF1 HV1 HF2 HV2
  go_wp2_with fail
  refine (optStep_any _ _ _ _ HT.out).mono ?_; rintro e y3 ⟨rfl, hk⟩
  have KA := (Keeps.refl (fun _ => False) y3).alloc (.cells #[.int .i64 0, .int .i64 0] 30)
  have KK3 := Lib.hid (KX3.out.trans (hk.trans KA)); have HF3 := Lib.hid (heap_alloc_new y3 (.cells #[.int .i64 0, .int .i64 0] 30)); have HF1 := Lib.hid ((HF1x.out |> fun h => ((hk.trans KA)).heap h (fun h => h))); have HV1 := Lib.hid (HV1x.out.keeps0 (hk.trans KA)); have HF2 := Lib.hid ((HF2x.out |> fun h => ((hk.trans KA)).heap h (fun h => h))); have HV2 := Lib.hid (HV2x.out.keeps0 (hk.trans KA))
  clear hk KA HT KX3 HF1x HV1x HF2x HV2x 
  simp only [fltV]
  go_upto_region 4 with fail
  generalize y3.alloc (.cells #[.int .i64 0, .int .i64 0] 30) = z3 at KK3 HF1 HV1 HF2 HV2 HF3 ⊢
  generalize y3.heap.size = b3 at HF3 ⊢
  go_wp2_with fail
  refine (step_any _).mono ?_; rintro e x4 ⟨vi4, vg4, vo4, rfl, ht, hk⟩
  have HT := Lib.hid ht; have KX4 := Lib.hid (KK3.out.trans hk); have HF1x := Lib.hid ((HF1.out |> fun h => (hk).heap h (fun h => h))); have HV1x := Lib.hid (HV1.out.keeps0 hk); have HF2x := Lib.hid ((HF2.out |> fun h => (hk).heap h (fun h => h))); have HV2x := Lib.hid (HV2.out.keeps0 hk); have HF3x := Lib.hid ((HF3.out |> fun h => (hk).heap h (fun h => h)))
  clear ht hk KK3 HF1 HV1 HF2 HV2 HF3
  go_wp2_with fail
  refine (stepsStep_any _ _ _ _ HT.out).mono ?_; rintro e y4 ⟨v4, rfl, hr, hk⟩
  obtain ⟨a4, c4, hv, _⟩ := hr.form
  subst hv
  have KA := (Keeps.refl (fun _ => False) y4).alloc (.cells #[.int .i64 0, .int .i64 0] 30)
  have KK4 := Lib.hid (KX4.out.trans (hk.trans KA)); have HF4 := Lib.hid (heap_alloc_new y4 (.cells #[.int .i64 0, .int .i64 0] 30)); have HV4 := Lib.hid (hr.keeps0 KA); have HF1 := Lib.hid ((HF1x.out |> fun h => ((hk.trans KA)).heap h (fun h => h))); have HV1 := Lib.hid (HV1x.out.keeps0 (hk.trans KA)); have HF2 := Lib.hid ((HF2x.out |> fun h => ((hk.trans KA)).heap h (fun h => h))); have HV2 := Lib.hid (HV2x.out.keeps0 (hk.trans KA)); have HF3 := Lib.hid ((HF3x.out |> fun h => ((hk.trans KA)).heap h (fun h => h)))
  clear hk KA HT KX4 HF1x HV1x HF2x HV2x HF3x hr
  simp only [fltV]
  go_upto_region 5 with fail
  generalize y4.alloc (.cells #[.int .i64 0, .int .i64 0] 30) = z4 at KK4 HF1 HV1 HF2 HV2 HF3 HF4 HV4 ⊢
  generalize y4.heap.size = b4 at HF4 ⊢
  obtain ⟨p1, q1, r1, s1, l1⟩ := pair_cells HF1.out
  clear r1 s1
  obtain ⟨p2, q2, r2, s2, l2⟩ := pair_cells HF2.out
  clear r2 s2
  obtain ⟨p3, q3, r3, s3, l3⟩ := pair_cells HF3.out
  clear r3 s3
  obtain ⟨p4, q4, r4, s4, l4⟩ := pair_cells HF4.out
  clear r4 s4
  have KB := ((Keeps.refl (fun _ => False) z4).alloc (.cells #[.int .i64 0] 3)).alloc (.cells #[.slice none 0 0, .slice (some ⟨z4.heap.size, 0, none⟩) 1 1] 22)
  have HL := Lib.hid (show Lists _ (.slice (some ⟨z4.heap.size + 1, 0, none⟩) 2 2) [[], [0]] from Lists.two (x := 0) (by
    have h := heap_alloc_new (z4.alloc (.cells #[.int .i64 0] 3)) (.cells #[.slice none 0 0, .slice (some ⟨z4.heap.size, 0, none⟩) 1 1] 22)
    rw [World.size_alloc] at h; exact h)
    (((Keeps.refl (fun _ => False) (z4.alloc (.cells #[.int .i64 0] 3))).alloc (.cells #[.slice none 0 0, .slice (some ⟨z4.heap.size, 0, none⟩) 1 1] 22)).heap (heap_alloc_new z4 (.cells #[.int .i64 0] 3)) (fun h => h)))
  go_wp2_with fail
  refine (lists_any _ _ _ [[], [0]] [[], [0]] (HV1.out.keeps0 KB) HL.out).mono ?_; rintro e u1 ⟨rfl, hk⟩
  have K1 := Lib.hid (KK4.out.trans (KB.trans hk)); have G2 := Lib.hid (HV2.out.keeps0 (KB.trans hk)); have G4 := Lib.hid (HV4.out.keeps0 (KB.trans hk))
  clear KB HL hk
  have KC := (Keeps.refl (fun _ => False) u1).alloc (.cells #[.int .i64 3, .int .i64 0] 3)
  have HC := Lib.hid (Ints.two (heap_alloc_new u1 (.cells #[.int .i64 3, .int .i64 0] 3)))
  have e1 : (([[], [0]] : List (List Int)) == [[], [0]]) = true := by decide
  rw [e1]
  go_wp2_with fail
  refine (ints_any _ _ _ [3, 0] [3, 0] (G2.out.keeps0 KC) HC.out).mono ?_; rintro e u2 ⟨rfl, hk⟩
  have K2 := Lib.hid (K1.out.trans (KC.trans hk)); have G5 := Lib.hid (G4.out.keeps0 (KC.trans hk))
  clear KC HC hk
  have KC := (Keeps.refl (fun _ => False) u2).alloc (.cells #[.int .i64 0, .int .i64 1] 3)
  have HC := Lib.hid (Ints.two (heap_alloc_new u2 (.cells #[.int .i64 0, .int .i64 1] 3)))
  have e2 : (([3, 0] : List Int) == [3, 0]) = true := by decide
  rw [e2]
  go_wp2_with fail
  refine (ints_any _ _ _ [0, 1] [0, 1] (G5.out.keeps0 KC) HC.out).mono ?_; rintro e u3 ⟨rfl, hk⟩
  have K3 := Lib.hid (K2.out.trans (KC.trans hk))
  clear KC HC hk
  have e3 : (([0, 1] : List Int) == [0, 1]) = true := by decide
  rw [e3]
  go_wp2_with fail
  go_ret
  exact ⟨rfl, K3.out⟩

end Go.Proofs.YtdonadeodioplaaGreat

/- space: the law that the functions are the reference's. -/
namespace Go.Proofs.YtdonadeodioplaaGreat
open Go.RowKit

theorem exp_cases (t : Tsk) : (∃ c i, c ≠ 0 ∧ expF t = (c, i)) ∨ (t.Ok ∧ ∃ l, explored t = some l ∧ expF t = (0, 0)) := by
  unfold expF
  by_cases h : (taskFault t).1 = 0
  · rw [if_pos h]
    cases hx : explored t with
    | none => exact .inl ⟨10, -7, by decide, rfl⟩
    | some l => exact .inr ⟨taskFault_zero.1 h, l, rfl, rfl⟩
  · rw [if_neg h]
    exact .inl ⟨_, _, h, rfl⟩
theorem exp_none {t : Tsk} {c i : Int} (hc : c ≠ 0) (he : expF t = (c, i)) {l : List Nat} (ok : t.Ok) (hx : explored t = some l) : False := by
  unfold expF at he
  rw [if_pos (taskFault_zero.2 ok), hx] at he
  cases he; exact hc rfl

section
variable {w : World} {vi vg vo : Value} {t : Tsk}
theorem explore_bad (h : TaskAt w vi vg vo t) {c i : Int} (hc : c ≠ 0) (he : expF t = (c, i)) :
    Calls Tryz.prog 6 #[.agg #[.int .i64 t.n, vi, vg, vo]] w fun e w' => e = .returned (.tuple #[.slice none 0 0, fltV c i]) ∧ Keeps (fun _ => False) w w' := by
  refine (explore_any w vi vg vo t h).mono ?_
  rintro e w' ⟨hk, ⟨c', i', _, he', rfl⟩ | ⟨ok, l, ws, v, h1, _⟩⟩
  · rw [he] at he'; cases he'; exact ⟨rfl, hk⟩
  · exact (exp_none hc he ok h1).elim
theorem distances_bad (h : TaskAt w vi vg vo t) {c i : Int} (hc : c ≠ 0) (he : expF t = (c, i)) :
    Calls Tryz.prog 12 #[.agg #[.int .i64 t.n, vi, vg, vo]] w fun e w' => e = .returned (.tuple #[.slice none 0 0, fltV c i]) ∧ Keeps (fun _ => False) w w' := by
  refine (distances_any w vi vg vo t h).mono ?_
  rintro e w' ⟨hk, ⟨c', i', _, he', rfl⟩ | ⟨ok, l, ws, v, D, h1, _⟩⟩
  · rw [he] at he'; cases he'; exact ⟨rfl, hk⟩
  · exact (exp_none hc he ok h1).elim
theorem optimal_bad (h : TaskAt w vi vg vo t) {c i : Int} (hc : c ≠ 0) (he : expF t = (c, i)) :
    Calls Tryz.prog 13 #[.agg #[.int .i64 t.n, vi, vg, vo]] w fun e w' => e = .returned (.tuple #[.int .i64 0, fltV c i]) ∧ Keeps (fun _ => False) w w' := by
  refine (optimal_any w vi vg vo t h).mono ?_
  rintro e w' ⟨hk, ⟨c', i', _, he', rfl⟩ | ⟨ok, l, ws, D, h1, _⟩⟩
  · rw [he] at he'; cases he'; exact ⟨rfl, hk⟩
  · exact (exp_none hc he ok h1).elim
theorem spsteps_bad (h : TaskAt w vi vg vo t) {c i : Int} (hc : c ≠ 0) (he : expF t = (c, i)) :
    Calls Tryz.prog 14 #[.agg #[.int .i64 t.n, vi, vg, vo]] w fun e w' => e = .returned (.tuple #[.slice none 0 0, fltV c i]) ∧ Keeps (fun _ => False) w w' := by
  refine (spsteps_any w vi vg vo t h).mono ?_
  rintro e w' ⟨hk, ⟨c', i', _, he', rfl⟩ | ⟨ok, l, ws, v, j, h1, _⟩⟩
  · rw [he] at he'; cases he'; exact ⟨rfl, hk⟩
  · exact (exp_none hc he ok h1).elim

/-- The sorted states of a task. -/
def WsOf (_t : Tsk) (l ws : List Nat) : Prop := ws.Perm l ∧ ws.Pairwise ordW
theorem WsOf.same {l a b : List Nat} (ok : t.Ok) (hx : explored t = some l) (ha : WsOf t l a) (hb : WsOf t l b) : a = b :=
  sorted_same (ha.1.trans hb.1.symm) ha.2 hb.2 (costs_need ok hx ha.1).2.2.2.2.2.1

theorem explore_good (h : TaskAt w vi vg vo t) (ok : t.Ok) {l : List Nat} (hx : explored t = some l) :
    Calls Tryz.prog 6 #[.agg #[.int .i64 t.n, vi, vg, vo]] w fun e w' => ∃ ws v, WsOf t l ws ∧ e = .returned (.tuple #[v, fltV 0 0]) ∧ Lists w' v (ws.map facts) ∧ Keeps (fun _ => False) w w' := by
  refine (explore_any w vi vg vo t h).mono ?_
  rintro e w' ⟨hk, ⟨c', i', hc, he', rfl⟩ | ⟨_, l', ws, v, h1, h2, h3, rfl, h4⟩⟩
  · exact (exp_none hc he' ok hx).elim
  · rw [hx] at h1; cases h1
    exact ⟨ws, v, ⟨h2, h3⟩, rfl, h4, hk⟩
theorem distances_good (h : TaskAt w vi vg vo t) (ok : t.Ok) {l ws : List Nat} (hx : explored t = some l) (hw : WsOf t l ws) :
    Calls Tryz.prog 12 #[.agg #[.int .i64 t.n, vi, vg, vo]] w fun e w' => ∃ v D, e = .returned (.tuple #[v, fltV 0 0]) ∧ CostOk (arcs (wordsOf t.ops) ws) (ws.map (goalB (wd t.goal))) (ws.map D) ∧ Ints w' v (ws.map D) ∧ Keeps (fun _ => False) w w' := by
  refine (distances_any w vi vg vo t h).mono ?_
  rintro e w' ⟨hk, ⟨c', i', hc, he', rfl⟩ | ⟨_, l', ws', v, D, h1, h2, h3, h4, rfl, h5⟩⟩
  · exact (exp_none hc he' ok hx).elim
  · rw [hx] at h1; cases h1
    have := WsOf.same ok hx ⟨h2, h3⟩ hw; subst this
    exact ⟨v, D, rfl, h4, h5, hk⟩
theorem optimal_good (h : TaskAt w vi vg vo t) (ok : t.Ok) {l ws : List Nat} (hx : explored t = some l) (hw : WsOf t l ws) :
    Calls Tryz.prog 13 #[.agg #[.int .i64 t.n, vi, vg, vo]] w fun e w' => ∃ D : Nat → Int, e = .returned (.tuple #[.int .i64 (D (wd t.init)), fltV 0 0]) ∧ CostOk (arcs (wordsOf t.ops) ws) (ws.map (goalB (wd t.goal))) (ws.map D) ∧ Keeps (fun _ => False) w w' := by
  refine (optimal_any w vi vg vo t h).mono ?_
  rintro e w' ⟨hk, ⟨c', i', hc, he', rfl⟩ | ⟨_, l', ws', D, h1, h2, h3, h4, rfl⟩⟩
  · exact (exp_none hc he' ok hx).elim
  · rw [hx] at h1; cases h1
    have := WsOf.same ok hx ⟨h2, h3⟩ hw; subst this
    exact ⟨D, rfl, h4, hk⟩
theorem spsteps_good (h : TaskAt w vi vg vo t) (ok : t.Ok) {l ws : List Nat} (hx : explored t = some l) (hw : WsOf t l ws) :
    Calls Tryz.prog 14 #[.agg #[.int .i64 t.n, vi, vg, vo]] w fun e w' => ∃ v i, e = .returned (.tuple #[v, fltV 0 0]) ∧ (tree (wordsOf t.ops) (wd t.init) i).length ≤ i ∧ Ints w' v (ws.map (depT (tree (wordsOf t.ops) (wd t.init) i))) ∧ Keeps (fun _ => False) w w' := by
  refine (spsteps_any w vi vg vo t h).mono ?_
  rintro e w' ⟨hk, ⟨c', i', hc, he', rfl⟩ | ⟨_, l', ws', v, i, h1, h2, h3, h4, rfl, h5⟩⟩
  · exact (exp_none hc he' ok hx).elim
  · rw [hx] at h1; cases h1
    have := WsOf.same ok hx ⟨h2, h3⟩ hw; subst this
    exact ⟨v, i, rfl, h4, h5, hk⟩
end

theorem WsOf.good {t : Tsk} (ok : t.Ok) {l ws : List Nat} (hx : explored t = some l) (hw : WsOf t l ws) : (∀ x ∈ ws, Good t.n x) ∧ (∃ k : Nat, ws[k]? = some (wd t.init) ∧ placeL (ws.map facts) t.init = k) ∧ (∀ x, x ∈ ws ↔ Reach (wordsOf t.ops) (wd t.init) x) ∧ ∀ a ∈ arcs (wordsOf t.ops) ws, a.frm < ws.length ∧ a.to < ws.length ∧ 0 ≤ a.cost ∧ a.cost ≤ 100 := by
  have hn32 : t.n ≤ 32 := by have := ok.n1; omega
  have hr := (reached_some (ops := wordsOf t.ops) (s := wd t.init) (l := l) hx).2.2.2
  have hr2 : ∀ x, x ∈ ws ↔ Reach (wordsOf t.ops) (wd t.init) x := fun x => hw.1.mem_iff.trans (hr x)
  have hg : ∀ x ∈ ws, Good t.n x := fun x h => good_reach ok (good_wd hn32 ok.init) ((hr2 x).1 h)
  refine ⟨hg, ?_, hr2, fun a ha => ?_⟩
  · rcases place_mem hn32 hg ok.init with h | ⟨h, _⟩
    · exact h
    · exact absurd ((hr2 _).2 .refl) h
  · obtain ⟨x, o, h1, h2, h3, h4, h5⟩ := mem_arcs.1 ha
    refine ⟨(List.getElem?_eq_some_iff.1 h1).1, (List.getElem?_eq_some_iff.1 h5).1, ?_⟩
    rw [h4]
    have ho := List.mem_of_getElem? h2
    unfold wordsOf at ho
    obtain ⟨o', ho', rfl⟩ := List.mem_map.1 ho
    exact ⟨(ok.ops o' ho').cost0, (ok.ops o' ho').cost1⟩

end Go.Proofs.YtdonadeodioplaaGreat

/- space: SpaceFunctionsMatchSpec walked. -/
namespace Go.Proofs.YtdonadeodioplaaGreat
open Go.RowKit

end Go.Proofs.YtdonadeodioplaaGreat

namespace Go.Proofs.YtdonadeodioplaaGreat

/-! ### sets -/
theorem compact_sorted (d : Array Int) (hs : ∀ i j, i ≤ j → j < d.size → d[i]! ≤ d[j]!) : ∀ m, m ≤ d.size →
    (Lib.compactUpTo d m).Pairwise (· < ·) ∧ (∀ x, x ∈ Lib.compactUpTo d m ↔ ∃ j, j < m ∧ d[j]! = x)
  | 0, _ => ⟨by simp [Lib.compactUpTo], fun x => by simp [Lib.compactUpTo]⟩
  | m + 1, hm => by
    obtain ⟨h1, h2⟩ := compact_sorted d hs m (by omega)
    rw [Lib.compactUpTo_succ]
    by_cases hk : Lib.keeps d m = true
    · rw [if_pos hk]
      have hlt : ∀ x ∈ Lib.compactUpTo d m, x < d[m]! := fun x hx => by
        obtain ⟨j, hj, rfl⟩ := (h2 x).1 hx
        have e1 := hs j (m - 1) (by omega) (by omega)
        have e2 := hs (m - 1) m (by omega) (by omega)
        have e3 : d[m]! ≠ d[m - 1]! := by
          unfold Lib.keeps at hk
          rcases of_decide_eq_true hk with h | h
          · omega
          · exact h
        omega
      refine ⟨List.pairwise_append.2 ⟨h1, by simp, fun a ha b hb => by rw [List.mem_singleton] at hb; subst hb; exact hlt a ha⟩, fun x => ?_⟩
      rw [List.mem_append, h2, List.mem_singleton]
      constructor
      · rintro (⟨j, hj, e⟩ | h)
        · exact ⟨j, by omega, e⟩
        · exact ⟨m, by omega, h.symm⟩
      · rintro ⟨j, hj, e⟩
        by_cases hjm : j = m
        · subst hjm; exact .inr e.symm
        · exact .inl ⟨j, by omega, e⟩
    · have hk' : m ≠ 0 ∧ d[m]! = d[m - 1]! := by
        unfold Lib.keeps at hk
        rw [decide_eq_true_eq] at hk
        exact ⟨fun h => hk (.inl h), Decidable.byContradiction fun h => hk (.inr h)⟩
      rw [if_neg hk, List.append_nil]
      refine ⟨h1, fun x => ?_⟩
      rw [h2]
      constructor
      · rintro ⟨j, hj, e⟩; exact ⟨j, by omega, e⟩
      · rintro ⟨j, hj, e⟩
        by_cases hjm : j = m
        · subst hjm; exact ⟨j - 1, by omega, by rw [← hk'.2]; exact e⟩
        · exact ⟨j, by omega, e⟩

theorem compact_list {l : List Int} (hs : l.Pairwise (· ≤ ·)) : (Lib.compact l).Pairwise (· < ·) ∧ ∀ x, x ∈ Lib.compact l ↔ x ∈ l := by
  have hs' : ∀ i j, i ≤ j → j < l.toArray.size → l.toArray[i]! ≤ l.toArray[j]! := fun i j hij hj => by
    have hj' : j < l.length := by simpa using hj
    rw [getElem!_pos l.toArray i (by simp; omega), getElem!_pos l.toArray j hj]
    simp only [List.getElem_toArray]
    rcases Nat.lt_or_ge i j with h | h
    · exact List.pairwise_iff_getElem.1 hs i j (by omega) hj' h
    · have : i = j := by omega
      subst this; exact Int.le_refl _
  obtain ⟨h1, h2⟩ := compact_sorted l.toArray hs' l.length (by simp)
  have e : Lib.compact l = Lib.compactUpTo l.toArray l.length := by unfold Lib.compact; simp
  rw [e]
  refine ⟨h1, fun x => ?_⟩
  rw [h2]
  constructor
  · rintro ⟨j, hj, rfl⟩
    rw [getElem!_pos l.toArray j (by simpa using hj)]
    simp
  · intro h
    obtain ⟨j, hj, e⟩ := List.mem_iff_getElem.1 h
    exact ⟨j, hj, by rw [getElem!_pos l.toArray j (by simpa using hj)]; simpa using e⟩

def preL (s add del : List Int) : List Int := (s.filter fun x => !decide (x ∈ del)) ++ add
def updL (s add del : List Int) : List Int := Lib.compact ((preL s add del).mergeSort fun x y => decide (x ≤ y))
theorem sort_sorted (l : List Int) : (l.mergeSort fun x y => decide (x ≤ y)).Pairwise (· ≤ ·) := by
  have := List.pairwise_mergeSort (le := fun x y : Int => decide (x ≤ y)) (fun a b c h1 h2 => by simp at *; omega) (fun a b => by simp; omega) l
  exact this.imp (fun h => by simpa using h)
theorem updL_spec (s add del : List Int) : (updL s add del).Pairwise (· < ·) ∧ ∀ x, x ∈ updL s add del ↔ (x ∈ s ∧ x ∉ del) ∨ x ∈ add := by
  obtain ⟨h1, h2⟩ := compact_list (sort_sorted (preL s add del))
  refine ⟨h1, fun x => ?_⟩
  unfold updL
  rw [h2, List.mem_mergeSort, preL, List.mem_append, List.mem_filter]
  simp
theorem updL_aftL {n : Int} {o : Opr} {s : List Int} (hs : isSetB s n = true) (ha : isSetB o.add n = true) : updL s o.add o.del = aftL n o s := by
  obtain ⟨h1, h2⟩ := updL_spec s o.add o.del
  refine sorted_ext h1 (isSet_iff.1 (isSet_aftL n o s)).2 (fun x => ?_)
  rw [h2, mem_aftL]
  have a1 := (isSet_iff.1 hs).1
  have a2 := (isSet_iff.1 ha).1
  constructor
  · rintro (⟨h, hd⟩ | h)
    · exact ⟨a1 x h, .inr ⟨h, hd⟩⟩
    · exact ⟨a2 x h, .inl h⟩
  · rintro ⟨_, h | h⟩
    · exact .inr h
    · exact .inl h
theorem preL_len (s add del : List Int) : (preL s add del).length ≤ s.length + add.length := by
  unfold preL; rw [List.length_append]
  have := List.length_filter_le (fun x => !decide (x ∈ del)) s
  omega

/-! ### plans -/
/-- The states on the way of a plan, as far as it can be followed. -/
def playL (ops : List Wop) : Nat → List Nat → List Nat
  | x, [] => [x]
  | x, p :: r => match ops[p]? with
    | none => [x]
    | some o => if o.can x = true then x :: playL ops (o.next x) r else [x]
theorem playL_head (ops : List Wop) (x : Nat) (p : List Nat) : ∃ r, playL ops x p = x :: r := by
  cases p with
  | nil => exact ⟨[], rfl⟩
  | cons a r =>
    rw [playL]
    split
    · exact ⟨[], rfl⟩
    · split
      · exact ⟨_, rfl⟩
      · exact ⟨[], rfl⟩
theorem playL_app {ops : List Wop} : ∀ {q : List Nat} {x y : Nat} (r : List Nat), runOps ops x q = some y → playL ops x (q ++ r) = playL ops x q ++ (playL ops y r).tail
  | [], x, y, r, h => by
    cases h
    obtain ⟨l, hl⟩ := playL_head ops x r
    simp [playL, hl]
  | a :: q, x, y, r, h => by
    rw [runOps] at h
    cases ho : ops[a]? with
    | none => rw [ho] at h; cases h
    | some o =>
      rw [ho] at h
      simp only at h
      by_cases hc : o.can x = true
      · rw [if_pos hc] at h
        rw [List.cons_append, playL, playL, ho]
        simp only [hc, if_true]
        rw [playL_app r h, List.cons_append]
      · rw [if_neg hc] at h; cases h
theorem playL_go {ops : List Wop} {q : List Nat} {x y a : Nat} {o : Wop} (h : runOps ops x q = some y) (ho : ops[a]? = some o) (hc : o.can y = true) : playL ops x (q ++ [a]) = playL ops x q ++ [o.next y] := by
  rw [playL_app _ h]; simp [playL, ho, hc]
theorem playL_stuck {ops : List Wop} {q : List Nat} {x y a : Nat} {o : Wop} (r : List Nat) (h : runOps ops x q = some y) (ho : ops[a]? = some o) (hc : o.can y = false) : playL ops x (q ++ a :: r) = playL ops x q := by
  rw [playL_app _ h]; simp [playL, ho, hc]
theorem playL_run {ops : List Wop} : ∀ {p : List Nat} {x y : Nat}, runOps ops x p = some y → (playL ops x p).length = p.length + 1 ∧ (playL ops x p)[p.length]? = some y
  | [], x, y, h => by cases h; simp [playL]
  | a :: p, x, y, h => by
    rw [runOps] at h
    cases ho : ops[a]? with
    | none => rw [ho] at h; cases h
    | some o =>
      rw [ho] at h
      simp only at h
      by_cases hc : o.can x = true
      · rw [if_pos hc] at h
        obtain ⟨h1, h2⟩ := playL_run h
        rw [playL, ho]
        simp only [hc, if_true]
        exact ⟨by simp [h1], by simpa using h2⟩
      · rw [if_neg hc] at h; cases h
theorem playL_short {ops : List Wop} : ∀ {p : List Nat} {x : Nat}, runOps ops x p = none → (playL ops x p).length ≤ p.length
  | [], x, h => by cases h
  | a :: p, x, h => by
    rw [playL]
    cases ho : ops[a]? with
    | none => simp
    | some o =>
      simp only
      rw [runOps, ho] at h
      simp only at h
      by_cases hc : o.can x = true
      · rw [if_pos hc] at h ⊢
        have := playL_short h
        simp; omega
      · rw [if_neg hc]; simp

theorem playL_len (ops : List Wop) (x : Nat) (p : List Nat) : 1 ≤ (playL ops x p).length ∧ (playL ops x p).length ≤ p.length + 1 := by
  obtain ⟨r, hr⟩ := playL_head ops x p
  refine ⟨by rw [hr]; simp, ?_⟩
  cases h : runOps ops x p with
  | none => have := playL_short h; omega
  | some y => have := (playL_run h).1; omega

/-- A plan as natural numbers. -/
def natP (p : List Int) : List Nat := p.map Int.toNat
theorem natP_ints (p : List Nat) : natP (intsP p) = p := by
  unfold natP intsP
  rw [List.map_map]
  have : (Int.toNat ∘ fun n : Nat => (n : Int)) = id := by funext n; simp
  rw [this, List.map_id]

end Go.Proofs.YtdonadeodioplaaGreat

namespace Go.Proofs.YtdonadeodioplaaGreat
open Go.RowKit Go.Sort Go.Proofs

/-! ### Contains -/
def Behind (s : List Int) (x : Int) (i : Nat) : Prop := i ≤ s.length ∧ ∀ j y, j < i → s[j]? = some y → y < x
theorem behind_end {s : List Int} {x : Int} {i : Nat} (h : Behind s x i) (hi : s.length ≤ i) : x ∉ s := fun hm => by
  obtain ⟨j, hj⟩ := List.mem_iff_getElem?.1 hm
  have := (List.getElem?_eq_some_iff.1 hj).1
  have := h.2 j x (by omega) hj
  omega
theorem behind_not {s : List Int} (hs : s.Pairwise (· < ·)) {x y : Int} {i : Nat} (h : Behind s x i) (hy : s[i]? = some y) (hxy : x < y) : x ∉ s := fun hm => by
  obtain ⟨j, hj⟩ := List.mem_iff_getElem?.1 hm
  by_cases hji : j < i
  · have := h.2 j x hji hj; omega
  · obtain ⟨hjl, ej⟩ := List.getElem?_eq_some_iff.1 hj
    obtain ⟨hil, ei⟩ := List.getElem?_eq_some_iff.1 hy
    rcases Nat.lt_or_ge i j with h2 | h2
    · have := List.pairwise_iff_getElem.1 hs i j hil hjl h2; omega
    · have : i = j := by omega
      subst this; omega
theorem subB_false {a b : List Int} {x : Int} (hx : x ∈ a) (hn : x ∉ b) : subB a b = false := by
  unfold subB; rw [List.all_eq_false]; exact ⟨x, hx, by simp [hn]⟩

set_option maxHeartbeats 1000000 in
theorem contains_any (w : World) (vs vp : Value) (s part : List Int) (hs : Ints w vs s) (hp : Ints w vp part) (ss : s.Pairwise (· < ·)) (sp : part.Pairwise (· < ·)) :
    Calls Tryz.prog 41 #[vs, vp] w fun e w' => e = .returned (.bool (subB part s)) ∧ w = w' := by
  obtain ⟨ao, ca, h1, ma⟩ := hs.form
  obtain ⟨po, cp, h2, mp⟩ := hp.form
  have CS := Lib.hid (hs.cell h1); have CP := Lib.hid (hp.cell h2); have SS := Lib.hid ss; have SP := Lib.hid sp
  subst h1 h2
  clear hs hp ss sp
  go_enter Tryz.func41, Tryz.ntmps41
  go_wp2_with fail
  go_loop [5, 10] (fun v5 v10 => ∃ k i : Nat, k ≤ part.length ∧ v10 = .int .i64 (k : Int) ∧ v5 = .int .i64 (i : Int) ∧ i ≤ s.length ∧ subB (part.take k) s = true ∧ ∀ x, part[k]? = some x → Behind s x i) (fun _ v10 => part.length - (intOf v10).toNat)
  case atStart => exact ⟨0, 0, Nat.zero_le _, rfl, rfl, Nat.zero_le _, rfl, fun x _ => ⟨Nat.zero_le _, fun j _ hj => by omega⟩⟩
  case round =>
    obtain ⟨k, i, hk, rfl, rfl, hi, ht, hb⟩ := hrel
    have HT := Lib.hid ht; have HB := Lib.hid hb
    clear ht hb
    by_cases hlt : k < part.length
    · obtain ⟨bp, op, rfl, hc⟩ := CP.out (by omega)
      obtain ⟨x, hx⟩ : ∃ x, part[k]? = some x := ⟨_, List.getElem?_eq_getElem hlt⟩
      have hcx := hc k _ hx
      have HX := Lib.hid hx
      have HB0 := Lib.hid (HB.out x hx)
      clear hc hx HB
      go_wp2_with fail
      go_loop [5] (fun v5 => ∃ i : Nat, v5 = .int .i64 (i : Int) ∧ Behind s x i) (fun v5 => s.length - (intOf v5).toNat)
      case atStart => exact ⟨i, rfl, HB0.out⟩
      case round =>
        obtain ⟨i, rfl, hb⟩ := hrel
        have hil := hb.1
        have HB := Lib.hid hb
        clear hb
        by_cases hin : i < s.length
        · obtain ⟨bs, os, rfl, hc⟩ := CS.out (by omega)
          obtain ⟨y, hy⟩ : ∃ y, s[i]? = some y := ⟨_, List.getElem?_eq_getElem hin⟩
          have hcy := hc i _ hy
          have HY := Lib.hid hy
          clear hc hy
          by_cases hyx : y < x
          · have HB1 : Hid (Behind s x (i + 1)) := by
              unfold Hid
              refine ⟨by omega, fun j z hj hz => ?_⟩
              rcases Nat.lt_or_ge j i with h | h
              · exact HB.out.2 j z h hz
              · have : j = i := by omega
                subst this
                rw [HY.out] at hz; cases hz; exact hyx
            go_wp2_with fail
            go_round
            case rel => exact ⟨i + 1, by go_num, HB1.out⟩
            case measure => simp [intOf]; omega
          · by_cases hne : y = x
            · subst hne
              have HN : Hid (subB (part.take (k + 1)) s = true) := by
                unfold Hid
                rw [take_getS HX.out]
                have := HT.out
                unfold subB at this ⊢
                rw [List.all_append, this]
                simp [List.mem_of_getElem? HY.out]
              have HB2 : Hid (∀ z, part[k + 1]? = some z → Behind s z i) := by
                unfold Hid
                intro z hz
                obtain ⟨l1, e1⟩ := List.getElem?_eq_some_iff.1 HX.out
                obtain ⟨l2, e2⟩ := List.getElem?_eq_some_iff.1 hz
                have := List.pairwise_iff_getElem.1 SP.out k (k + 1) l1 l2 (by omega)
                refine ⟨HB.out.1, fun j u hj hu => ?_⟩
                have := HB.out.2 j u hj hu
                omega
              have hd1 : decide (y < y) = false := by simp
              have hd2 : (y != y) = false := by simp
              clear hyx
              go_wp2_with fail
              go_round
              case rel => exact ⟨k + 1, i, by omega, by go_num, rfl, hil, HN.out, HB2.out⟩
              case measure => simp [intOf]; omega
            · have hf : Hid (subB part s = false) := by
                unfold Hid
                exact subB_false (List.mem_of_getElem? HX.out) (behind_not SS.out HB.out HY.out (by omega))
              have hd1 : decide (y < x) = false := by simpa using hyx
              have hd2 : (y != x) = true := by simpa using hne
              clear hyx hne
              go_wp2_with fail
              go_ret
              exact ⟨congrArg (fun b => Ending.returned (Value.bool b)) hf.out.symm, rfl⟩
        · have hf : Hid (subB part s = false) := by
            unfold Hid
            exact subB_false (List.mem_of_getElem? HX.out) (behind_end HB.out (by omega))
          have hie : i = s.length := by omega
          subst hie
          clear hin hil
          go_wp2_with fail
          go_ret
          exact ⟨congrArg (fun b => Ending.returned (Value.bool b)) hf.out.symm, rfl⟩
    · have hf : Hid (subB part s = true) := by
        unfold Hid
        have := HT.out
        rwa [List.take_of_length_le (by omega)] at this
      go_wp2_with fail
      go_ret
      exact ⟨congrArg (fun b => Ending.returned (Value.bool b)) hf.out.symm, rfl⟩

/-! ### the library's Sort and Compact over a row of the call's own -/
theorem sortI_any (w : World) (base : Nat) (v : Value) (l : List Int) (hown : w.ownsRow base 3 1 v l.length (l.map (Value.int .i64))) (hlen : l.length < 4611686018427387904) :
    Calls Tryz.prog 59 #[v] w fun e w' => e = .returned (.tuple #[]) ∧ w'.ownsRow base 3 1 v l.length ((l.mergeSort fun x y => decide (x ≤ y)).map (Value.int .i64)) ∧ Keeps (fun b => v.ownBlock = some b) w w' := by
  rcases hown.2 with ⟨rfl, h0⟩ | ⟨g, cap, cur, rfl, hb, hg, hn, hm, hs, ht⟩
  · have hz : l = [] := List.length_eq_zero_iff.1 h0
    subst hz
    refine (Tryz.slices_Sort_int_none none 0 w).mono ?_
    rintro e w' ⟨rfl, rfl⟩
    exact ⟨rfl, by simpa using World.ownsRow_nil _ _ _ _, Keeps.refl _ _⟩
  · have ht' : cur.toList.take l.length = l.map (Value.int .i64) := by simpa using ht
    refine (Tryz.slices_Sort_int g 0 cap l w (holds_of_blockI hg ht') (lt_of_heap hg) hlen).mono ?_
    rintro e w' ⟨rfl, n, os, rfl⟩
    exact ⟨rfl, ownsRow_sortedI (by simp) hb hg hn hm hs, (steady_keeps (grownBy_sortedI _)).mono (fun i _ h => by cases h; rfl)⟩

theorem keeps_putRow {w : World} {g q : Nat} (d : Array Int) : Keeps (fun b => b = g) w (putRow (Value.int .i64) (Sort.ahead w q) g 0 d) := by
  refine ⟨rfl, rfl, rfl, by simp [putRow, mapBlock, Sort.ahead], fun k _ hne => ?_⟩
  have : g ≠ k := fun e => hne e.symm
  simp [putRow, mapBlock, Sort.ahead, Array.getElem?_modify, this]
theorem heap_putRow {w : World} {g q : Nat} {cur : Array Value} {e : TypeId} {fr : Nat × Nat} (d : Array Int) (hb : w.heap[g]? = some (.cells cur e fr)) :
    (putRow (Value.int .i64) (Sort.ahead w q) g 0 d).heap[g]? = some (.cells (putCells (Value.int .i64) 0 d cur) e fr) := by
  simp [putRow, mapBlock, Sort.ahead, Array.getElem?_modify, hb, onCells]

theorem compactI_any (w : World) (base : Nat) (v : Value) (l : List Int) (hown : w.ownsRow base 3 1 v l.length (l.map (Value.int .i64))) (hlen : l.length < 4611686018427387904) :
    Calls Tryz.prog 60 #[v] w fun e w' => ∃ v', e = .returned v' ∧ w'.ownsRow base 3 1 v' (Lib.compact l).length ((Lib.compact l).map (Value.int .i64)) ∧ v'.ownBlock = v.ownBlock ∧ Keeps (fun b => v.ownBlock = some b) w w' := by
  rcases hown.2 with ⟨rfl, h0⟩ | ⟨g, cap, cur, rfl, hb, hg, hn, hm, hs, ht⟩
  · have hz : l = [] := List.length_eq_zero_iff.1 h0
    subst hz
    refine (Tryz.slices_Compact_int_empty none 0 w).mono ?_
    rintro e w' ⟨rfl, rfl⟩
    exact ⟨_, rfl, by simpa [Lib.compact, Lib.compactUpTo] using World.ownsRow_nil _ _ _ _, rfl, Keeps.refl _ _⟩
  · have ht' : cur.toList.take l.length = l.map (Value.int .i64) := by simpa using ht
    have hcl := Lib.compact_length_le l
    refine (Tryz.slices_Compact_int g 0 cap l w (holds_of_blockI hg ht') (by omega) hn).mono ?_
    rintro e w' ⟨rfl, q, rfl⟩
    have hsz : cur.size = cap := by simpa using hs
    have htk := take_putCellsI cur (Lib.compact l ++ List.replicate (l.length - (Lib.compact l).length) 0) (by simp; omega)
    refine ⟨_, rfl, ⟨by simp, .inr ⟨g, cap, _, rfl, hb, heap_putRow _ hg, by omega, hm, by simp [putCells, hs], ?_⟩⟩, rfl, (keeps_putRow _).mono (fun i _ h => by cases h; rfl)⟩
    have := congrArg (List.take (Lib.compact l).length) htk
    rw [List.take_take, List.map_append, List.take_left' (by simp)] at this
    rw [Nat.mul_one]
    rw [Nat.min_eq_left (by simp)] at this
    exact this

/-! ### an append of whatever slice -/
section
variable {P : Program} {w : World}
theorem run_append_zero (base : Nat) (t ty e : TypeId) (i : TypeInfo) (size : Nat) (ht : P.underlying t = some (.slice e)) (hi : P.info? e = some i)
    (v : Value) (n : Nat) (xs : List Value) (hown : w.ownsRow base e size v n xs) (ao : Option Addr) (c : Nat) :
    (Builtin.append_ #[t, t] ty #[v, .slice ao 0 c]).run P w = .ok v w := by
  rcases hown.2 with ⟨rfl, rfl⟩ | ⟨g, cap, cur, rfl, _, _, hnc, _⟩
  · cases ao <;> simp [Builtin.append_, run_underlying ht, sizeOf, typeInfo, hi, Builtin.lenOf, Builtin.firstCells, loadCells, loadCellsFrom]
  · cases ao <;> simp [Builtin.append_, run_underlying ht, sizeOf, typeInfo, hi, Builtin.lenOf, Builtin.firstCells, hnc, storeCells, loadCells, loadCellsFrom]
theorem wpList_append_zero {ops : Array Oper} {rest : List Oper} {o : Oper} {a : Act} {Q : Exit → Act → World → Prop} (hgd : o.guard = none) (s x : Operand) (t : TypeId)
    (ho : o.op = .call { callee := .builtin .append, args := #[s, x], argTypes := #[t, t] })
    (base : Nat) (e : TypeId) (i : TypeInfo) (size : Nat) (ht : P.underlying t = some (.slice e)) (hi : P.info? e = some i)
    (v : Value) (n : Nat) (xs : List Value) (hs : a.eval s = v) (hown : w.ownsRow base e size v n xs) (ao : Option Addr) (c : Nat) (hx : a.eval x = .slice ao 0 c)
    (h : wpList P ops Q rest (a.put o.dst v) w) : wpList P ops Q (o :: rest) a w := by
  refine wpList_plain hgd fun K hK => ?_
  have hrun := run_append_zero (P := P) (w := w) base t o.type e i size ht hi v n xs hown ao c
  unfold Oper.wp
  simp [execOp, ho, resolve, invoke, builtin, hs, hx, hrun, Result.andThen]
  exact hK _ _ h
theorem grownBy_refl (w : World) (row : Option Nat) : w.grownBy w row := ⟨rfl, rfl, rfl, Nat.le_refl _, fun _ _ _ => rfl⟩
/-- append(out, x...) to a row of the call's own, x whatever slice. -/
theorem wpList_append_src {ops : Array Oper} {rest : List Oper} {o : Oper} {a : Act} {Q : Exit → Act → World → Prop} (hgd : o.guard = none) (s x : Operand) (t : TypeId)
    (ho : o.op = .call { callee := .builtin .append, args := #[s, x], argTypes := #[t, t] })
    (base : Nat) (e : TypeId) (i : TypeInfo) (z : Value) (bytes : Nat) (ht : P.underlying t = some (.slice e)) (hi : P.info? e = some i) (hz : i.zero = some z)
    (hsize : i.size = 1) (hby : i.bytes = bytes) (hzs : z.cells.size = 1)
    (v : Value) (n : Nat) (xs : List Value) (hs : a.eval s = v) (hown : w.ownsRow base e 1 v n xs)
    (vx : Value) (m : Nat) (news : List Value) (hx : a.eval x = vx) (hsl : Sl w vx m news) (hl : news.length = m) (h1 : ∀ u ∈ news, u.oneCell' = true)
    (h63 : n + m ≤ maxLen) (hbytes : (n + m) * bytes ≤ 140737488355328) (hbase : base ≤ w.heap.size)
    (h : ∀ v' w', w'.ownsRow base e 1 v' (n + m) (xs ++ news) → w.grownBy w' v.ownBlock → (∀ g, v'.ownBlock = some g → v.ownBlock = some g ∨ w.heap.size ≤ g) → w.drawn ≤ w'.drawn → wpList P ops Q rest (a.put o.dst v') w') : wpList P ops Q (o :: rest) a w := by
  obtain ⟨ao, c, rfl, hm, hc⟩ := hsl
  rcases Nat.eq_zero_or_pos m with h0 | h0
  · subst h0
    have : news = [] := List.length_eq_zero_iff.1 hl
    subst this
    refine wpList_append_zero hgd s x t ho base e i 1 ht hi v n xs hs hown ao c hx (h v w (by simpa using hown) (grownBy_refl w _) (fun g hg => .inl hg) (Nat.le_refl _))
  · obtain ⟨b, off, rfl, hcell⟩ := hc h0
    refine wpList_append_d hgd s x t ho base e i z 1 bytes ht hi hz hsize hby hzs (by omega) v n xs hs hown ⟨b, off, none⟩ m c news hx (by omega) (fun j u hj => by
      have h := hcell j u hj
      by_cases hj0 : j = 0
      · subst hj0; simpa [Addr.add] using h
      · simpa [Addr.add, hj0] using h) h1 h0 h63 hbytes hbase w.heap.size rfl fun g cap w' h2 h3 h4 _ h6 => h _ w' h2 h3 (fun k hk => ?_) h6
    rcases h4 with h4 | h4
    · left; rw [h4]; exact hk
    · right; cases (show some g = some k from hk); omega
end

/-! ### Update -/
def sansL (s del : List Int) : List Int := s.filter fun x => !decide (x ∈ del)
theorem sansL_step {s del : List Int} {k : Nat} {x : Int} (hx : s[k]? = some x) : sansL (s.take (k + 1)) del = if x ∈ del then sansL (s.take k) del else sansL (s.take k) del ++ [x] := by
  unfold sansL
  rw [take_getS hx, List.filter_append]
  by_cases h : x ∈ del <;> simp [h]
theorem sansL_le (s del : List Int) (k : Nat) : (sansL (s.take k) del).length ≤ k := by
  unfold sansL
  have := List.length_filter_le (fun x => !decide (x ∈ del)) (s.take k)
  have := List.length_take_le k s
  omega

set_option maxRecDepth 100000 in
set_option maxHeartbeats 1000000 in
theorem update_any (w : World) (vs va vd : Value) (s add del : List Int) (hs : Ints w vs s) (ha : Ints w va add) (hd : Ints w vd del) (sd : del.Pairwise (· < ·)) (ls : s.length ≤ 1000) (la : add.length ≤ 1000) (ld : del.length ≤ 1000) :
    Calls Tryz.prog 42 #[vs, va, vd] w fun e w' => ∃ v, e = .returned v ∧ w'.ownsRow w.heap.size 3 1 v (updL s add del).length ((updL s add del).map (Value.int .i64)) ∧ Keeps (fun _ => False) w w' := by
  obtain ⟨i0, hi0, hz0, hz1, hz2⟩ := info_parts Tryz.info3
  obtain ⟨ao, ca, h1, _⟩ := hs.form
  obtain ⟨bo, cb, h2, _⟩ := ha.form
  obtain ⟨co, cc, h3, _⟩ := hd.form
  have CS := Lib.hid (hs.cell h1); have HA := Lib.hid ha; have HD := Lib.hid hd; have SD := Lib.hid sd
  subst h1 h2 h3
  clear hs ha hd sd
  go_enter Tryz.func42, Tryz.ntmps42
  go_wp2_with fail
  go_loopw [7, 14] (fun v7 v14 wr => ∃ k : Nat, k ≤ s.length ∧ v14 = .int .i64 (k : Int) ∧ wr.ownsRow w.heap.size 3 1 v7 (sansL (s.take k) del).length ((sansL (s.take k) del).map (Value.int .i64)) ∧ Keeps (fun _ => False) w wr) (fun _ v14 _ => s.length - (intOf v14).toNat)
  case atStart => exact ⟨0, Nat.zero_le _, rfl, World.ownsRow_nil _ _ _ _, Keeps.refl _ _⟩
  case round =>
    obtain ⟨k, hk, rfl, hown, hkw⟩ := hrel
    have HO := Lib.hid hown; have KW := Lib.hid hkw
    have hle := sansL_le s del k
    obtain ⟨av, cv, hv⟩ := ownsRow_form1 hown
    subst hv
    clear hown hkw
    by_cases hlt : k < s.length
    · obtain ⟨bs, os, rfl, hc⟩ := CS.out (by omega)
      obtain ⟨x, hx⟩ : ∃ x, s[k]? = some x := ⟨_, List.getElem?_eq_getElem hlt⟩
      have hcx := KW.out.cell (hc k _ hx) (fun h => h)
      have HST := Lib.hid (sansL_step (del := del) hx)
      clear hc hx
      go_wp2_with fail
      refine (bsearch_any _ _ _ x (HD.out.keeps0 KW.out) SD.out (by omega)).mono ?_; rintro e w2 ⟨j, rfl, q, rfl⟩
      have KQ := Lib.hid (KW.out.drewN q)
      have HOQ := Lib.hid (((Keeps.refl (fun _ => False) wr).drewN q).ownsRow HO.out (fun _ _ h => h))
      clear hcx HO KW
      generalize wr.drewN q = wq at KQ HOQ ⊢
      have hsz := KQ.out.size
      by_cases hm : x ∈ del
      · have HE := Lib.hid (show sansL (s.take (k + 1)) del = sansL (s.take k) del by rw [HST.out, if_pos hm])
        rw [decide_eq_true hm]
        clear hm
        go_wp2_with fail
        go_roundw
        case rel => exact ⟨k + 1, by omega, by go_num, by rw [HE.out]; exact HOQ.out, KQ.out⟩
        case measure => simp only [intOf]; omega
      · have HE := Lib.hid (show sansL (s.take (k + 1)) del = sansL (s.take k) del ++ [x] by rw [HST.out, if_neg hm])
        rw [decide_eq_false hm]
        clear hm
        go_wp2_with (at_builtin; refine wpList_append_d rfl _ _ _ rfl w.heap.size 3 i0 _ 1 8 Tryz.underlying22 hi0 hz0 hz1 hz2 rfl (by omega) _ (sansL (s.take k) del).length ((sansL (s.take k) del).map (Value.int .i64)) (by rfl) (World.ownsRow.alloc HOQ.out (.cells #[.int .i64 x] 3)) ⟨wq.heap.size, 0, none⟩ 1 1 [.int .i64 x] (by rfl) (by rfl) (World.news_of_block (cs := #[.int .i64 x]) (t := 3) (fr := (0, 0)) (heap_alloc_new _ _)) (by simp [Value.oneCell']) (by omega) (by unfold maxLen; omega) (by omega) (by simp; omega) (wq.heap.size + 1) (by simp) ?_)
        intro gg cap2 w4 hown hgrow hat hlt4 hd4
        have HN := Lib.hid (show w4.ownsRow w.heap.size 3 1 (.slice (some ⟨gg, 0, none⟩) ((sansL (s.take k) del).length + 1) cap2) (sansL (s.take (k + 1)) del).length ((sansL (s.take (k + 1)) del).map (Value.int .i64)) by
          rw [HE.out, List.map_append, List.length_append]; exact hown)
        have HKN := Lib.hid (own_grown HOQ.out KQ.out ((Keeps.refl _ wq).alloc (.cells #[.int .i64 x] 3)) hgrow)
        clear hown hgrow hat hd4
        go_wp2_with fail
        go_roundw
        case rel => exact ⟨k + 1, by omega, by go_num, HN.out, HKN.out⟩
        case measure => simp only [intOf]; omega
    · have hke : k = s.length := by omega
      subst hke
      have HO2 := Lib.hid (show wr.ownsRow w.heap.size 3 1 (.slice av (sansL (s.take s.length) del).length cv) (sansL s del).length ((sansL s del).map (Value.int .i64)) by
        have h := HO.out
        have e : sansL (s.take s.length) del = sansL s del := by rw [List.take_length]
        generalize (Value.slice av (sansL (s.take s.length) del).length cv) = v at h ⊢
        rw [e] at h; exact h)
      have hle2 : (sansL s del).length ≤ s.length := by have := sansL_le s del s.length; rwa [List.take_length] at this
      have hsz := KW.out.size
      have HAw := Lib.hid (HA.out.keeps0 KW.out)
      clear HO hle
      generalize (sansL (s.take s.length) del).length = nn at HO2 ⊢
      go_wp2_with (at_builtin; refine wpList_append_src rfl _ _ _ rfl w.heap.size 3 i0 _ 8 Tryz.underlying22 hi0 hz0 hz1 hz2 rfl _ (sansL s del).length ((sansL s del).map (Value.int .i64)) (by rfl) HO2.out _ add.length (add.map (Value.int .i64)) (by rfl) HAw.out (by simp) (by simp [Value.oneCell']) (by unfold maxLen; omega) (by omega) (by omega) ?_)
      intro v4 w4 hown hgrow hblk hd4
      have HN := Lib.hid (show w4.ownsRow w.heap.size 3 1 v4 (preL s add del).length ((preL s add del).map (Value.int .i64)) by
        unfold preL; rw [List.map_append, List.length_append]; exact hown)
      have HK4 := Lib.hid (own_grown HO2.out KW.out (Keeps.refl _ wr) hgrow)
      have hpl := preL_len s add del
      clear hown hgrow hblk hd4 HO2 KW
      go_wp2_with fail
      refine (sortI_any _ _ _ (preL s add del) HN.out (by omega)).mono ?_; rintro e w5 ⟨rfl, hown, hk⟩
      have HN5 := Lib.hid (show w5.ownsRow w.heap.size 3 1 v4 ((preL s add del).mergeSort fun x y => decide (x ≤ y)).length (((preL s add del).mergeSort fun x y => decide (x ≤ y)).map (Value.int .i64)) by rw [List.length_mergeSort]; exact hown)
      have HK5 := Lib.hid (HK4.out.trans' hk (fun b hb => .inr (World.ownsRow.lt HN.out b hb).1))
      clear hown hk HN HK4
      go_wp2_with fail
      refine (compactI_any _ _ _ _ HN5.out (by rw [List.length_mergeSort]; omega)).mono ?_; rintro e w6 ⟨v6, rfl, hown, _, hk⟩
      have HN6 := Lib.hid hown
      have HK6 := Lib.hid (HK5.out.trans' hk (fun b hb => .inr (World.ownsRow.lt HN5.out b hb).1))
      clear hown hk HN5 HK5
      go_wp2_with fail
      go_ret
      exact ⟨_, rfl, HN6.out, HK6.out⟩

/-! ### Can, Next -/
set_option maxRecDepth 100000 in
theorem can_any (w : World) (vi vg vo vs : Value) (t : Tsk) (s : List Int) (k : Nat) (o : Opr) (h : TaskAt w vi vg vo t) (hs : Ints w vs s) (hk : t.ops[k]? = some o) (ss : s.Pairwise (· < ·)) (sp : o.pre.Pairwise (· < ·)) :
    Calls Tryz.prog 23 #[.agg #[.int .i64 t.n, vi, vg, vo], vs, .int .i64 (k : Int)] w fun e w' => e = .returned (.bool (appL o s)) ∧ Keeps (fun _ => False) w w' := by
  obtain ⟨ai, ci, h1, _⟩ := h.init.form
  obtain ⟨ag, cg, h2, _⟩ := h.goal.form
  obtain ⟨ao, co, h3, hmo⟩ := h.ops.form
  obtain ⟨aa, cs, h4, _⟩ := hs.form
  have hkl := (List.getElem?_eq_some_iff.1 hk).1
  obtain ⟨bo, oo, h5, hc⟩ := h.ops.cell h3 (by omega)
  subst h1 h2 h3 h4 h5
  obtain ⟨va, vb, vc, c0, c1, c2, c3, e0, e1, e2⟩ := hc k o hk
  obtain ⟨pa, pc, h6, _⟩ := e0.form
  subst h6
  have KA := (Keeps.refl (fun _ => False) w).alloc (.cells #[.int .i64 t.n, .slice ai t.init.length ci, .slice ag t.goal.length cg, .slice (some ⟨bo, oo, none⟩) t.ops.length co] 25)
  have HB := Lib.hid (Four.new w (.int .i64 t.n) (.slice ai t.init.length ci) (.slice ag t.goal.length cg) (.slice (some ⟨bo, oo, none⟩) t.ops.length co) 25)
  have HS := Lib.hid (show Ints _ (.slice aa s.length cs) s from hs.keeps0 KA); have HP := Lib.hid (show Ints _ (.slice pa o.pre.length pc) o.pre from e0.keeps0 KA); have K1 := Lib.hid KA; have C0 := Lib.hid (KA.cell c0 (fun h => h))
  have SS := Lib.hid ss; have SP := Lib.hid sp
  clear h hs hk hc c0 c1 c2 c3 e0 e1 e2 KA ss sp
  go_enter Tryz.func23, Tryz.ntmps23
  go_upto_region 1 with fail
  generalize (w.alloc (.cells #[.int .i64 t.n, .slice ai t.init.length ci, .slice ag t.goal.length cg, .slice (some ⟨bo, oo, none⟩) t.ops.length co] 25)) = w1 at HB HS HP K1 C0 ⊢
  generalize w.heap.size = bt at HB ⊢
  have hbx := HB.out.lt
  obtain ⟨d0, d1, d2, d3⟩ := HB.out
  have c0 := C0.out
  have i0 : (0 : Int) ≤ (k : Int) := by omega
  have i1 : (k : Int) < (t.ops.length : Int) := by omega
  go_wp2_with fail
  refine (contains_any _ _ _ s o.pre HS.out HP.out SS.out SP.out).mono ?_; rintro e w2 ⟨rfl, rfl⟩
  go_wp2_with fail
  go_ret
  exact ⟨rfl, K1.out⟩

set_option maxRecDepth 100000 in
theorem next_any (w : World) (vi vg vo vs : Value) (t : Tsk) (s : List Int) (k : Nat) (o : Opr) (h : TaskAt w vi vg vo t) (hs : Ints w vs s) (hk : t.ops[k]? = some o) (sd : o.del.Pairwise (· < ·)) (ls : s.length ≤ 1000) (la : o.add.length ≤ 1000) (ld : o.del.length ≤ 1000) :
    Calls Tryz.prog 24 #[.agg #[.int .i64 t.n, vi, vg, vo], vs, .int .i64 (k : Int)] w fun e w' => ∃ v, e = .returned v ∧ w'.ownsRow w.heap.size 3 1 v (updL s o.add o.del).length ((updL s o.add o.del).map (Value.int .i64)) ∧ Keeps (fun _ => False) w w' := by
  obtain ⟨ai, ci, h1, _⟩ := h.init.form
  obtain ⟨ag, cg, h2, _⟩ := h.goal.form
  obtain ⟨ao, co, h3, hmo⟩ := h.ops.form
  obtain ⟨aa, cs, h4, _⟩ := hs.form
  have hkl := (List.getElem?_eq_some_iff.1 hk).1
  obtain ⟨bo, oo, h5, hc⟩ := h.ops.cell h3 (by omega)
  subst h1 h2 h3 h4 h5
  obtain ⟨va, vb, vc, c0, c1, c2, c3, e0, e1, e2⟩ := hc k o hk
  obtain ⟨pa, pc, h6, _⟩ := e0.form
  obtain ⟨qa, qc, h7, _⟩ := e1.form
  obtain ⟨ra, rc, h8, _⟩ := e2.form
  subst h6 h7 h8
  have KA := ((Keeps.refl (fun _ => False) w).alloc (.cells #[.int .i64 t.n, .slice ai t.init.length ci, .slice ag t.goal.length cg, .slice (some ⟨bo, oo, none⟩) t.ops.length co] 25))
  have KB := KA.alloc (.cells #[.slice pa o.pre.length pc, .slice qa o.add.length qc, .slice ra o.del.length rc, .int .i64 o.cost] 58)
  have HB := Lib.hid (Four.new w (.int .i64 t.n) (.slice ai t.init.length ci) (.slice ag t.goal.length cg) (.slice (some ⟨bo, oo, none⟩) t.ops.length co) 25)
  have HO := Lib.hid (Four.new (w.alloc (.cells #[.int .i64 t.n, .slice ai t.init.length ci, .slice ag t.goal.length cg, .slice (some ⟨bo, oo, none⟩) t.ops.length co] 25)) (.slice pa o.pre.length pc) (.slice qa o.add.length qc) (.slice ra o.del.length rc) (.int .i64 o.cost) 58)
  have HS := Lib.hid (show Ints _ (.slice aa s.length cs) s from hs.keeps0 KB); have HA := Lib.hid (show Ints _ (.slice qa o.add.length qc) o.add from e1.keeps0 KB); have HD := Lib.hid (show Ints _ (.slice ra o.del.length rc) o.del from e2.keeps0 KB); have K1 := Lib.hid KB
  have C0 := Lib.hid (KA.cell c0 (fun h => h)); have C1 := Lib.hid (KA.cell c1 (fun h => h)); have C2 := Lib.hid (KA.cell c2 (fun h => h)); have C3 := Lib.hid (KA.cell c3 (fun h => h))
  have SD := Lib.hid sd
  have hsz : w.heap.size ≤ w.heap.size + 2 := by omega
  clear h hs hk hc c0 c1 c2 c3 e0 e1 e2 KA KB sd
  go_enter Tryz.func24, Tryz.ntmps24
  have hbx := HB.out.lt
  obtain ⟨d0, d1, d2, d3⟩ := HB.out
  have c0 := C0.out; have c1 := C1.out; have c2 := C2.out; have c3 := C3.out
  have i0 : (0 : Int) ≤ (k : Int) := by omega
  have i1 : (k : Int) < (t.ops.length : Int) := by omega
  go_upto_region 2 with fail
  obtain ⟨q0, q1, q2, q3⟩ := HO.out
  rw [World.size_alloc] at q0 q1 q2 q3
  clear d0 d1 d2 d3 c0 c1 c2 c3 C0 C1 C2 C3 HB HO hbx
  generalize hw2 : ((w.alloc (.cells #[.int .i64 t.n, .slice ai t.init.length ci, .slice ag t.goal.length cg, .slice (some ⟨bo, oo, none⟩) t.ops.length co] 25)).alloc (.cells #[.slice pa o.pre.length pc, .slice qa o.add.length qc, .slice ra o.del.length rc, .int .i64 o.cost] 58)) = w2 at HS HA HD K1 q0 q1 q2 q3 ⊢
  have hs2 : w2.heap.size = w.heap.size + 2 := by rw [← hw2, World.size_alloc, World.size_alloc]
  have HS2 := Lib.hid hs2
  clear hw2 hs2 q0 q3
  go_wp2_with fail
  refine (update_any _ _ _ _ s o.add o.del HS.out HA.out HD.out SD.out ls la ld).mono ?_; rintro e w3 ⟨v, rfl, hown, hk⟩
  have HN := Lib.hid (ownsRow_mono hown (show w.heap.size ≤ w2.heap.size by rw [HS2.out]; omega))
  have K3 := Lib.hid (K1.out.trans hk)
  clear hown hk
  go_wp2_with fail
  go_ret
  exact ⟨_, rfl, HN.out, K3.out⟩

end Go.Proofs.YtdonadeodioplaaGreat

namespace Go.Proofs.YtdonadeodioplaaGreat
open Go.RowKit Go.Sort Go.Proofs

/-! ### plain -/
def applN (ops : List Wop) (x k : Nat) : List Nat := (List.range k).filter fun j => ((ops[j]?).map fun o => o.can x).getD false
theorem applN_step {ops : List Wop} {x k : Nat} {o : Wop} (h : ops[k]? = some o) : applN ops x (k + 1) = if o.can x = true then applN ops x k ++ [k] else applN ops x k := by
  unfold applN
  rw [List.range_succ, List.filter_append]
  cases hc : o.can x <;> simp [h, hc]
theorem applN_le (ops : List Wop) (x k : Nat) : (applN ops x k).length ≤ k := by
  unfold applN
  have := List.length_filter_le (fun j => ((ops[j]?).map fun o => o.can x).getD false) (List.range k)
  simpa using this
theorem applN_mem {ops : List Wop} {x k j : Nat} (h : j ∈ applN ops x k) : j < k ∧ ∃ o, ops[j]? = some o ∧ o.can x = true := by
  unfold applN at h
  obtain ⟨h1, h2⟩ := List.mem_filter.1 h
  refine ⟨by simpa using h1, ?_⟩
  cases ho : ops[j]? with
  | none => rw [ho] at h2; simp at h2
  | some o => rw [ho] at h2; exact ⟨o, rfl, by simpa using h2⟩

theorem upd_nextS {t : Tsk} (ok : t.Ok) {x : Nat} (hx : Good t.n x) {o : Opr} (ho : o ∈ t.ops) : appL o (facts x) = o.word.can x ∧ updL (facts x) o.add o.del = facts (o.word.next x) ∧ Good t.n (o.word.next x) := by
  have hok := ok.ops o ho
  obtain ⟨h1, h2, h3⟩ := good_next (by have := ok.n1; omega) hok hx
  exact ⟨h1, by rw [updL_aftL hx.1 hok.add, h2], h3⟩
theorem Keeps.grown0 {w w' : World} (h : Keeps (fun _ => False) w w') : w.grownBy w' none := ⟨h.os, h.tape, h.output, h.size, fun k hk _ => h.block k hk (fun h => h)⟩
theorem ex_fnS {p : (Nat → Value) → Act} {a : Act} (h : a = p (fun k => a.tmps.getD k undef)) : ∃ u, a = p u := ⟨_, h⟩

def KpT (n₀ Bt Bs : Nat) (W W' : World) : Prop := Below n₀ W W' ∧ W'.heap[Bt]? = W.heap[Bt]? ∧ W'.heap[Bs]? = W.heap[Bs]?
theorem KpT.refl (n₀ Bt Bs : Nat) (W : World) : KpT n₀ Bt Bs W W := ⟨Below.refl _ _, rfl, rfl⟩
theorem KpT.trans {n₀ Bt Bs : Nat} {X Y Z : World} (h : KpT n₀ Bt Bs X Y) (k : KpT n₀ Bt Bs Y Z) : KpT n₀ Bt Bs X Z := ⟨h.1.trans k.1, k.2.1.trans h.2.1, k.2.2.trans h.2.2⟩
theorem KpT.ofKeeps {n₀ Bt Bs : Nat} {S : Nat → Prop} {X Y : World} (h : Keeps S X Y) (hn : n₀ ≤ X.heap.size) (hs : ∀ k, k < n₀ → ¬ S k) (hBt : Bt < X.heap.size) (hBs : Bs < X.heap.size) (hst : ¬ S Bt) (hss : ¬ S Bs) : KpT n₀ Bt Bs X Y :=
  ⟨h.toBelow hn hs, h.block Bt hBt hst, h.block Bs hBs hss⟩
theorem kpT_b {n₀ Bt Bs : Nat} {w : World} (hn : n₀ ≤ w.heap.size) (hBt : Bt < w.heap.size) (hBs : Bs < w.heap.size) (W : World) (l : Nat) (o o' : Obj) (hl : w.heap.size ≤ l) (h : W.heap[l]? = some o) (_ : o.isCells = false) (_ : o.isWalk = false) : KpT n₀ Bt Bs W (W.putObj l o') :=
  ⟨belowK_b hn W l o o' hl h ‹_› ‹_›, World.putObj_heap_other (by omega), World.putObj_heap_other (by omega)⟩

theorem successors_any (w : World) (n vi vg vo : Value) (sa : Option Addr) (sn sc : Nat) :
    Calls Tryz.prog 22 #[.agg #[n, vi, vg, vo], .slice sa sn sc] w fun e w' =>
      e = .returned (.func (.func 40) #[] #[.pointer (some ⟨w.heap.size, 0, none⟩), .pointer (some ⟨w.heap.size + 1, 0, none⟩)]) ∧ w' = (w.alloc (.cells #[n, vi, vg, vo] 25)).alloc (.cells #[.slice sa sn sc] 22) := by
  go_enter Tryz.func22, Tryz.ntmps22
  go_wp2_with fail
  go_ret
  exact ⟨rfl, rfl⟩

set_option maxRecDepth 100000 in
set_option maxHeartbeats 1000000 in
theorem succ1_in (n : Nat) (hn : 1 ≤ n) (l Bt Bs n₀ : Nat) (vi vg vo vs : Value) (t : Tsk) (x : Nat) (ok : t.Ok) (hg : Good t.n x) (J Jx : List (Nat × Value) → World → Prop)
    (hY : ∀ (pre : List (Nat × Value)) (p : Nat × Value) (W : World), J pre W → pre.length < t.ops.length → YieldAt Fence.wide (n - 1) Tryz.prog l #[.int .i64 (p.1 : Int), p.2] W fun e W' =>
      (e = .returned (.bool true) ∧ J (pre ++ [p]) W' ∧ KpT n₀ Bt Bs W W') ∨ (e = .returned (.bool false) ∧ Jx (pre ++ [p]) W'))
    (W : World) (hJ : AbidesFrom W.heap.size J) (hn₀ : n₀ ≤ W.heap.size)
    (hBt : W.heap[Bt]? = some (.cells #[.int .i64 t.n, vi, vg, vo] 25 (0, 0))) (hBs : W.heap[Bs]? = some (.cells #[vs] 22 (0, 0)))
    (hw : ∃ w0 : World, TaskAt w0 vi vg vo t ∧ Ints w0 vs (facts x) ∧ w0.heap.size ≤ n₀ ∧ Below n₀ w0 W) (h0 : J [] W) :
    CallsIn Fence.wide n Tryz.prog 40 #[.func (.yield l) #[] #[], .pointer (some ⟨Bt, 0, none⟩), .pointer (some ⟨Bs, 0, none⟩)] W fun e W' => (∃ v, e = .returned v) ∧
      ((∃ ys, ys.map Prod.fst = applN (wordsOf t.ops) x t.ops.length ∧ J ys W') ∨ (∃ pre, True ∧ Jx pre W')) := by
  obtain ⟨w0, hT0, hs0, hz0, hb0⟩ := hw
  obtain ⟨ai, ci, h1, _⟩ := hT0.init.form
  obtain ⟨ag, cg, h2, _⟩ := hT0.goal.form
  obtain ⟨ao, co, h3, hmo⟩ := hT0.ops.form
  obtain ⟨aa, cs, h4, _⟩ := hs0.form
  subst h1 h2 h3 h4
  have HT0 := Lib.hid hT0; have HS0 := Lib.hid (show Ints w0 (.slice aa (facts x).length cs) (facts x) from hs0); have HB0 := Lib.hid hb0; have OK := Lib.hid ok; have GX := Lib.hid hg
  have HBT := Lib.hid hBt; have HBS := Lib.hid hBs
  have hxl : (facts x).length ≤ 1000 := isSet_length hg.1 (by have := ok.n1; omega)
  have c3 : W.cell? ⟨Bt, 3, none⟩ = some (.slice ao t.ops.length co) := by rw [cell_of_blk hBt]; rfl
  clear hT0 hs0 hb0 ok hg hBt hBs
  refine callsIn_of_wp Tryz.func40 rfl trivial ?_ rfl
  simp only [Tryz.ntmps40, List.size_toArray, List.length_cons, List.length_nil, Nat.reduceAdd, Nat.reduceSub, Array.replicate_succ, Array.replicate_zero, List.push_toArray, List.append_toArray, List.nil_append, List.cons_append]
  gi_wp2
  gi_loopw [8] (fun v wr => ∃ k : Nat, k ≤ t.ops.length ∧ v = .int .i64 (k : Int) ∧ (∃ pre : List (Nat × Value), pre.map Prod.fst = applN (wordsOf t.ops) x k ∧ J pre wr) ∧ KpT n₀ Bt Bs W wr) (fun v _ => t.ops.length - (intOf v).toNat)
  case atStart => exact ⟨0, Nat.zero_le _, rfl, ⟨[], rfl, h0⟩, KpT.refl _ _ _ _⟩
  case round =>
    obtain ⟨k, hk, rfl, ⟨pre, hpre, hJp⟩, hnx⟩ := hrel
    by_cases hlt : k < t.ops.length
    · obtain ⟨o, ho⟩ : ∃ o, t.ops[k]? = some o := ⟨_, List.getElem?_eq_getElem hlt⟩
      have hwo : (wordsOf t.ops)[k]? = some o.word := by unfold wordsOf; rw [List.getElem?_map, ho]; rfl
      have hKw : Keeps (fun _ => False) w0 wr := Keeps.ofBelow ((HB0.out.trans hnx.1).mono hz0) _
      have HTr := Lib.hid (HT0.out.keeps0 hKw); have HSr := Lib.hid (show Ints wr (.slice aa (facts x).length cs) (facts x) from HS0.out.keeps0 hKw)
      have hbt := hnx.2.1.trans HBT.out
      have hbs := hnx.2.2.trans HBS.out
      have HBTr := Lib.hid hbt; have HBSr := Lib.hid hbs
      have b0 : wr.cell? ⟨Bt, 0, none⟩ = some (.int .i64 t.n) := by rw [cell_of_blk hbt]; rfl
      have b1 : wr.cell? ⟨Bt, 1, none⟩ = some (.slice ai t.init.length ci) := by rw [cell_of_blk hbt]; rfl
      have b2 : wr.cell? ⟨Bt, 2, none⟩ = some (.slice ag t.goal.length cg) := by rw [cell_of_blk hbt]; rfl
      have b3 : wr.cell? ⟨Bt, 3, none⟩ = some (.slice ao t.ops.length co) := by rw [cell_of_blk hbt]; rfl
      have s0 : wr.cell? ⟨Bs, 0, none⟩ = some (.slice aa (facts x).length cs) := by rw [cell_of_blk hbs]; rfl
      have hbl := lt_of_heap hbt; have hsl := lt_of_heap hbs
      have HST := Lib.hid (applN_step (x := x) hwo)
      have HOK := Lib.hid (OK.out.ops o (List.mem_of_getElem? ho))
      obtain ⟨u1, u2, u3⟩ := upd_nextS OK.out GX.out (List.mem_of_getElem? ho)
      have HU1 := Lib.hid u1; have HU2 := Lib.hid u2
      have HO := Lib.hid ho; have HPR := Lib.hid hpre; have HJP := Lib.hid hJp; have HNX := Lib.hid hnx
      have hnr : n₀ ≤ wr.heap.size := Nat.le_trans hn₀ hnx.1.size
      have hpl : pre.length < t.ops.length := by
        have h1 := applN_le (wordsOf t.ops) x k
        have h2 := congrArg List.length hpre
        rw [List.length_map] at h2
        omega
      clear hwo hKw hbt hbs ho hpre hJp hnx u1 u2 u3
      gi_wp2
      refine ⟨trivial, ?_⟩
      refine (callsIn_wide.2 (can_any _ _ _ _ _ t (facts x) k o HTr.out HSr.out HO.out (facts_sorted x) (isSet_iff.1 HOK.out.pre).2)).mono ?_; rintro en w5 ⟨rfl, hk5⟩
      rw [HU1.out]
      have HJ5 := Lib.hid (hJ pre wr w5 none HJP.out hk5.grown0 (fun r e => by cases e))
      have HN5 := Lib.hid (HNX.out.trans (KpT.ofKeeps hk5 hnr (fun _ _ h => h) hbl hsl (fun h => h) (fun h => h)))
      have HT5 := Lib.hid (HTr.out.keeps0 hk5); have HS5 := Lib.hid (show Ints w5 (.slice aa (facts x).length cs) (facts x) from HSr.out.keeps0 hk5)
      have HBT5 := Lib.hid (hk5.heap HBTr.out (fun h => h)); have HBS5 := Lib.hid (hk5.heap HBSr.out (fun h => h))
      have hn5 : n₀ ≤ w5.heap.size := Nat.le_trans hnr hk5.size
      clear hk5 b0 b1 b2 b3 s0 hbl hsl HJP HNX HTr HSr HBTr HBSr hnr
      cases hcan : o.word.can x with
      | false =>
        have HE := Lib.hid (show applN (wordsOf t.ops) x (k + 1) = applN (wordsOf t.ops) x k by rw [HST.out, if_neg (by rw [hcan]; simp)])
        clear hcan
        gi_wp2
        refine ⟨trivial, ?_⟩
        gi_wp2
        refine ⟨fun _ h => (by cases h), ?_⟩
        gi_wp2
        go_roundw
        case rel => exact ⟨k + 1, by omega, by go_num, ⟨pre, by rw [HE.out]; exact HPR.out, HJ5.out⟩, HN5.out⟩
        case measure => simp only [intOf]; omega
      | true =>
        have HE := Lib.hid (show applN (wordsOf t.ops) x (k + 1) = applN (wordsOf t.ops) x k ++ [k] by rw [HST.out, if_pos hcan])
        have b0 : w5.cell? ⟨Bt, 0, none⟩ = some (.int .i64 t.n) := by rw [cell_of_blk HBT5.out]; rfl
        have b1 : w5.cell? ⟨Bt, 1, none⟩ = some (.slice ai t.init.length ci) := by rw [cell_of_blk HBT5.out]; rfl
        have b2 : w5.cell? ⟨Bt, 2, none⟩ = some (.slice ag t.goal.length cg) := by rw [cell_of_blk HBT5.out]; rfl
        have b3 : w5.cell? ⟨Bt, 3, none⟩ = some (.slice ao t.ops.length co) := by rw [cell_of_blk HBT5.out]; rfl
        have s0 : w5.cell? ⟨Bs, 0, none⟩ = some (.slice aa (facts x).length cs) := by rw [cell_of_blk HBS5.out]; rfl
        have hbl := lt_of_heap HBT5.out; have hsl := lt_of_heap HBS5.out
        clear hcan
        gi_wp2
        refine ⟨trivial, ?_⟩
        refine (callsIn_wide.2 (next_any _ _ _ _ _ t (facts x) k o HT5.out HS5.out HO.out (isSet_iff.1 HOK.out.del).2 hxl (isSet_length HOK.out.add (by have := OK.out.n1; omega)) (isSet_length HOK.out.del (by have := OK.out.n1; omega)))).mono ?_; rintro en w6 ⟨v6, rfl, hown, hk6⟩
        have hJ6 := hJ pre w5 w6 none HJ5.out hk6.grown0 (fun r e => by cases e)
        have HN6 := Lib.hid (HN5.out.trans (KpT.ofKeeps hk6 hn5 (fun _ _ h => h) hbl hsl (fun h => h) (fun h => h)))
        obtain ⟨fn, tmps, assign, body, hy, hR⟩ := hY pre (k, v6) w6 hJ6 hpl
        simp only at hy
        have HR := Lib.hid hR
        have HPR2 := Lib.hid (show (pre ++ [(k, v6)]).map Prod.fst = applN (wordsOf t.ops) x (k + 1) by rw [HE.out, List.map_append, HPR.out]; rfl)
        clear hown hk6 hJ6 hR b0 b1 b2 b3 s0 hbl hsl HJ5 HN5
        gi_wp2
        refine HR.out.mono ?_
        rintro e W3 (⟨rfl, hJ3, hk3⟩ | ⟨rfl, hJx3⟩)
        · have HJ3 := Lib.hid hJ3
          have HN3 := Lib.hid (HN6.out.trans hk3)
          clear hJ3 hk3
          gi_wp2
          go_roundw
          case rel => exact ⟨k + 1, by omega, by go_num, ⟨_, HPR2.out, HJ3.out⟩, HN3.out⟩
          case measure => simp only [intOf]; omega
        · have HJx3 := Lib.hid hJx3
          clear hJx3
          gi_wp2
          refine bodyPost_ret (results_none rfl _ _ _) rfl ?_
          exact ⟨⟨_, rfl⟩, .inr ⟨_, trivial, HJx3.out⟩⟩
    · obtain rfl : k = t.ops.length := by omega
      gi_wp2
      go_end0
      exact ⟨⟨_, rfl⟩, .inl ⟨pre, hpre, hJp⟩⟩

theorem succ_stops (n : Nat) (hn : 1 ≤ n) (Bt Bs n₀ : Nat) (vi vg vo vs : Value) (t : Tsk) (x : Nat) (ok : t.Ok) (hg : Good t.n x)
    (w : World) (hn₀ : n₀ ≤ w.heap.size) (hBt : w.heap[Bt]? = some (.cells #[.int .i64 t.n, vi, vg, vo] 25 (0, 0))) (hBs : w.heap[Bs]? = some (.cells #[vs] 22 (0, 0)))
    (hw : ∃ w0 : World, TaskAt w0 vi vg vo t ∧ Ints w0 vs (facts x) ∧ w0.heap.size ≤ n₀ ∧ Below n₀ w0 w) :
    SeqStopsK Fence.wide n Tryz.prog 40 #[.pointer (some ⟨Bt, 0, none⟩), .pointer (some ⟨Bs, 0, none⟩)] (fun p : Nat × Value => #[.int .i64 (p.1 : Int), p.2]) (KpT n₀ Bt Bs) (fun ys => ys.map Prod.fst = applN (wordsOf t.ops) x t.ops.length) (fun _ => True) t.ops.length w := by
  intro l J Jx W hW hJ _ hY h0
  obtain ⟨w0, h1, h2, h3, h4⟩ := hw
  have hlt : n₀ ≤ W.heap.size := Nat.le_trans hn₀ hW.size
  have := succ1_in n hn l Bt Bs n₀ vi vg vo vs t x ok hg J Jx hY W hJ hlt (below_heap hW hBt (lt_of_heap hBt)) (below_heap hW hBs (lt_of_heap hBs)) ⟨w0, h1, h2, h3, h4.trans (hW.mono hn₀)⟩ h0
  exact this

end Go.Proofs.YtdonadeodioplaaGreat

namespace Go.Proofs.YtdonadeodioplaaGreat
open Go.RowKit Go.Sort Go.Proofs

attribute [local go_sem] Oper.semAt_some

theorem intsP_app (a : List Nat) (j : Nat) : intsP (a ++ [j]) = intsP a ++ [(j : Int)] := by unfold intsP; rw [List.map_append]; rfl
theorem applM (pre : List (Nat × Value)) : (pre.map fun p => Value.int .i64 (p.1 : Int)) = (intsP (pre.map Prod.fst)).map (Value.int .i64) := by
  unfold intsP; rw [List.map_map, List.map_map]; rfl

def AppI (w3 : World) (b7 Bt Bs : Nat) (ct cs : Array Value) (pre : List (Nat × Value)) (W : World) : Prop :=
  ∃ vl, Boxed W b7 22 vl ∧ W.ownsRow w3.heap.size 3 1 vl pre.length (pre.map fun p => Value.int .i64 (p.1 : Int)) ∧ Keeps (fun _ => False) w3 W ∧ W.heap[Bt]? = some (.cells ct 25 (0, 0)) ∧ W.heap[Bs]? = some (.cells cs 22 (0, 0)) ∧ (∀ k, vl.ownBlock = some k → k ≠ Bt ∧ k ≠ Bs)

set_option maxRecDepth 100000 in
set_option maxHeartbeats 2000000 in
theorem applicable_in (w : World) (vi vg vo vs : Value) (t : Tsk) (x : Nat) (h : TaskAt w vi vg vo t) (ok : t.Ok) (hg : Good t.n x) (hs : Ints w vs (facts x)) :
    CallsIn Fence.wide 9 Tryz.prog 8 #[.agg #[.int .i64 t.n, vi, vg, vo], vs] w fun e w' => ∃ v, e = .returned (.tuple #[v, fltV 0 0]) ∧ Ints w' v (intsP (applN (wordsOf t.ops) x t.ops.length)) ∧ Keeps (fun _ => False) w w' := by
  obtain ⟨i0, hi0, hz0, hz1, hz2⟩ := info_parts Tryz.info3
  obtain ⟨ai, ci, h1, _⟩ := h.init.form
  obtain ⟨ag, cg, h2, _⟩ := h.goal.form
  obtain ⟨ao, co, h3, hmo⟩ := h.ops.form
  subst h1 h2 h3
  obtain ⟨aa, cs, h4, _⟩ := hs.form
  subst h4
  have HE := Lib.hid (show stateFault t (facts x) = (0, 0) by unfold stateFault; rw [if_pos (taskFault_zero.2 ok), if_pos hg.1])
  have K1 := (Keeps.refl (fun _ => False) w).alloc (.cells #[.int .i64 t.n, .slice ai t.init.length ci, .slice ag t.goal.length cg, .slice ao t.ops.length co] 25)
  have KA2 := K1.alloc (.cells #[.int .i64 0, .int .i64 0] 30)
  have HT := Lib.hid (h.keeps0 KA2)
  have HB := Lib.hid ((Four.new w (.int .i64 t.n) (.slice ai t.init.length ci) (.slice ag t.goal.length cg) (.slice ao t.ops.length co) 25).keeps0 ((Keeps.refl _ _).alloc (.cells #[.int .i64 0, .int .i64 0] 30)))
  have HF : Flt w ((w.alloc (.cells #[.int .i64 t.n, .slice ai t.init.length ci, .slice ag t.goal.length cg, .slice ao t.ops.length co] 25)).alloc (.cells #[.int .i64 0, .int .i64 0] 30)) (w.heap.size + 1) 30 :=
    ⟨by have := heap_alloc_new (w.alloc (.cells #[.int .i64 t.n, .slice ai t.init.length ci, .slice ag t.goal.length cg, .slice ao t.ops.length co] 25)) (.cells #[.int .i64 0, .int .i64 0] 30); rwa [World.size_alloc] at this, by omega, KA2⟩
  replace HF := Lib.hid HF
  have HS := Lib.hid (show Ints _ (.slice aa (facts x).length cs) (facts x) from hs.keeps0 KA2)
  have HT0 := Lib.hid h; have HS0 := Lib.hid (show Ints w (.slice aa (facts x).length cs) (facts x) from hs); have OK := Lib.hid ok; have GX := Lib.hid hg
  have hop40 : t.ops.length ≤ 40 := ok.few
  have hbx := HB.out.lt
  obtain ⟨d0, d1, d2, d3⟩ := HB.out
  clear h hs ok hg K1 KA2
  refine callsIn_of_wp_marks Tryz.func8 rfl trivial ?_ rfl
  simp only [Tryz.ntmps8, List.size_toArray, List.length_cons, List.length_nil, Nat.reduceAdd, Nat.reduceSub, Array.replicate_succ, Array.replicate_zero, List.push_toArray, List.append_toArray, List.nil_append, List.cons_append]
  gi_wp2
  refine ⟨trivial, ?_⟩
  refine (callsIn_wide.2 (stateFault_any _ _ _ _ _ t (facts x) HT.out HS.out)).mono ?_; rintro e w2 ⟨rfl, hk⟩
  rw [HE.out]
  have KA := hk.trans ((Keeps.refl (fun _ => False) w2).alloc (.cells #[.int .i64 0, .int .i64 0] 30))
  have HB2 := Lib.hid (HB.out.keeps0 hk)
  obtain ⟨w3, hw3⟩ : ∃ w3, w2.alloc (.cells #[.int .i64 0, .int .i64 0] 30) = w3 := ⟨_, rfl⟩
  have hz3 : w3.heap.size = w2.heap.size + 1 := by rw [← hw3]; simp
  have P3 : w3.heap[w2.heap.size]? = some (.cells #[.int .i64 0, .int .i64 0] 30 (0, 0)) := by rw [← hw3]; exact heap_alloc_new w2 _
  have HF3 := Lib.hid (HF.out.keeps0 KA); have HB3 := Lib.hid (HB.out.keeps0 KA); have HK3 := Lib.hid (HF.out.keep.trans KA)
  rw [hw3] at HF3 HB3 HK3
  have f0 : (w2.alloc (.cells #[.int .i64 0, .int .i64 0] 30)).cell? ⟨w2.heap.size, 0, none⟩ = some (.int .i64 0) := by rw [hw3, cell_of_blk P3]; rfl
  have f1 : (w2.alloc (.cells #[.int .i64 0, .int .i64 0] 30)).cell? ⟨w2.heap.size, 1, none⟩ = some (.int .i64 0) := by rw [hw3, cell_of_blk P3]; rfl
  clear d0 d1 d2 d3 hk KA hbx HF HB HT HS
  have hbx := HB2.out.lt
  obtain ⟨d0, d1, d2, d3⟩ := HB2.out
  have HW3 := Lib.hid hw3; have HZ3 := Lib.hid hz3; have HP3 := Lib.hid P3
  clear hw3 hz3 P3
  gi_wp2
  refine ⟨trivial, ?_⟩
  refine (callsIn_wide.2 (successors_any _ _ _ _ _ _ _ _)).mono ?_; rintro e w5 ⟨rfl, rfl⟩
  gi_wp2
  obtain ⟨W6, hW6⟩ : ∃ W6, (((w3.alloc (.cells #[.slice none 0 0] 22)).alloc (.cells #[.int .i64 t.n, .slice ai t.init.length ci, .slice ag t.goal.length cg, .slice ao t.ops.length co] 25)).alloc (.cells #[.slice aa (facts x).length cs] 22)) = W6 := ⟨_, rfl⟩
  rw [HW3.out, hW6]
  have hz6 : W6.heap.size = w2.heap.size + 1 + 1 + 1 + 1 := by rw [← hW6, World.size_alloc, World.size_alloc, World.size_alloc, HZ3.out]
  have k36 : Keeps (fun _ => False) w3 W6 := by rw [← hW6]; exact (((Keeps.refl _ _).alloc _).alloc _).alloc _
  have HX7 := Lib.hid (show Boxed W6 (w2.heap.size + 1) 22 (.slice none 0 0) by rw [← hW6, ← HZ3.out]; exact ((Boxed.new w3 _ _).alloc _).alloc _)
  have HBT6 := Lib.hid (show W6.heap[w2.heap.size + 1 + 1]? = some (.cells #[.int .i64 t.n, .slice ai t.init.length ci, .slice ag t.goal.length cg, .slice ao t.ops.length co] 25 (0, 0)) by
    have h := heap_alloc_new (w3.alloc (.cells #[.slice none 0 0] 22)) (.cells #[.int .i64 t.n, .slice ai t.init.length ci, .slice ag t.goal.length cg, .slice ao t.ops.length co] 25)
    rw [World.size_alloc, HZ3.out] at h
    rw [← hW6]; exact (Below.heap_alloc _ _ _ (lt_of_heap h)).trans h)
  have HBS6 := Lib.hid (show W6.heap[w2.heap.size + 1 + 1 + 1]? = some (.cells #[.slice aa (facts x).length cs] 22 (0, 0)) by
    have h := heap_alloc_new ((w3.alloc (.cells #[.slice none 0 0] 22)).alloc (.cells #[.int .i64 t.n, .slice ai t.init.length ci, .slice ag t.goal.length cg, .slice ao t.ops.length co] 25)) (.cells #[.slice aa (facts x).length cs] 22)
    rw [World.size_alloc, World.size_alloc, HZ3.out] at h
    rw [← hW6]; exact h)
  have HKW := Lib.hid (HK3.out.trans k36)
  have HZ6 := Lib.hid hz6; have HK36 := Lib.hid k36
  have hlow : w.heap.size ≤ W6.heap.size := HKW.out.size
  have h3le : w3.heap.size ≤ W6.heap.size := k36.size
  have hz3 : w3.heap.size = w2.heap.size + 1 := HZ3.out
  have hw3le : w.heap.size ≤ w3.heap.size := HK3.out.size
  clear hW6 k36 d0 d1 d2 d3 f0 f1
  refine wpIn_rangeFunc_ownH (α := Nat × Value) rfl (by omega) (gf := 40) (lb := #[.pointer (some ⟨w2.heap.size + 1 + 1, 0, none⟩), .pointer (some ⟨w2.heap.size + 1 + 1 + 1, 0, none⟩)]) rfl trivial (enters_of Tryz.func40 (by kernel_rfl) rfl)
    (succ_stops 8 (by omega) (w2.heap.size + 1 + 1) (w2.heap.size + 1 + 1 + 1) w.heap.size _ _ _ _ t x OK.out GX.out W6 hlow HBT6.out HBS6.out ⟨w, HT0.out, HS0.out, Nat.le_refl _, HKW.out.below⟩)
    KpT.trans (kpT_b hlow (by omega) (by omega)) (Below.refl _ _) (fun _ => rfl)
    (fun pre W => AppI w3 (w2.heap.size + 1) (w2.heap.size + 1 + 1) (w2.heap.size + 1 + 1 + 1) #[.int .i64 t.n, .slice ai t.init.length ci, .slice ag t.goal.length cg, .slice ao t.ops.length co] #[.slice aa (facts x).length cs] pre W)
    (fun _ _ _ => False) ?_ (fun _ _ _ _ _ hs _ _ => hs) ?_
    (fun (p : Nat × Value) (a' : Act) (_ : World) => ∃ u : Nat → Value, a' = { tmps := #[.agg #[.int .i64 t.n, .slice ai t.init.length ci, .slice ag t.goal.length cg, .slice ao t.ops.length co], .slice aa (facts x).length cs, .pointer (some ⟨w.heap.size, 0, none⟩), undef, .slice none 0 0, .pointer (some ⟨w.heap.size + 1, 0, none⟩), .pointer (some ⟨w2.heap.size, 0, none⟩), .pointer (some ⟨w2.heap.size + 1, 0, none⟩), .int .i64 (p.1 : Int), u 9, u 10, u 11, u 12, u 13, u 14, u 15, u 16, u 17, u 18, u 19, u 20, u 21, u 22, u 23, u 24, u 25, u 26], defers := [] }) ?_ ?_ ?_ ?_ ?_
  · intro pre W W' row hs hg hr
    obtain ⟨vl, h1, h2, h3, h4, h5, h6⟩ := hs
    exact ⟨vl, steady_heap hg (fun r e => (hr r e).2) h1, steady_row hg (fun r e => (hr r e).2) h2, steady_keeps0 hg (fun r e => (hr r e).1) h3le h3, steady_heap hg (fun r e => (hr r e).2) h4, steady_heap hg (fun r e => (hr r e).2) h5, h6⟩
  · exact ⟨.slice none 0 0, HX7.out, World.ownsRow_nil _ _ _ _, HK36.out, HBT6.out, HBS6.out, fun k hk => by cases hk⟩
  · intro p a' _ W W' row hs _ _
    exact hs
  · intro l pre p W K hi hK
    gi_wp2
    refine hK _ _ ?_ ?_ ?_ ?_
    · exact KeepsFrom.refl _ _
    · exact KpT.refl _ _ _ _
    · exact hi
    · exact ex_fnS rfl
  · rintro l pre p a' W hl - ⟨vl, h1, h2, h3, h4, h5, h6⟩ ⟨u, rfl⟩ hlt
    have x1c := h1.cell
    have x1f := h1.frozen
    have l1 := h1.lt
    have hs3 := h3.size
    have hne7 : ∀ k, vl.ownBlock = some k → k ≠ w2.heap.size + 1 := fun k hk e => by
      subst e
      exact Boxed.not_row h1 (by decide) h2 hk.symm
    have hcell : ∀ k, vl.ownBlock = some k → ∃ c T f, W.heap[k]? = some (.cells c T f) := fun k hk => by
      rcases h2.2 with ⟨e, _⟩ | ⟨g, cap, cur, e, _, hg, _⟩
      · rw [e] at hk; cases hk
      · rw [e] at hk; cases (show some g = some k from hk); exact ⟨_, _, _, hg⟩
    have H1 := Lib.hid h1; have H2 := Lib.hid h2; have H3 := Lib.hid h3; have H4 := Lib.hid h4; have H5 := Lib.hid h5; have H6 := Lib.hid h6; have HNE := Lib.hid hne7; have HCE := Lib.hid hcell
    have HROW := Lib.hid (World.ownsRow.alloc h2 (.cells #[.int .i64 (p.1 : Int)] 3))
    clear h1 h2 h3 h4 h5 h6 hne7 hcell
    gi_wp2_with (gi_at_builtin; refine wpListIn_append_lies _ rfl (.tmp 21) (.tmp 23) 22 rfl w3.heap.size 3 i0 _ 1 8 Tryz.underlying22 hi0 hz0 hz1 hz2 rfl (by omega) vl pre.length (pre.map fun p => Value.int .i64 (p.1 : Int)) rfl HROW.out ⟨W.heap.size, 0, none⟩ 1 1 [.int .i64 (p.1 : Int)] rfl rfl ?hnews ?hone (by omega) (by unfold maxLen; omega) (by omega) (by simp; omega) (W.heap.size + 1) (by simp) ?_)
    case hnews => exact World.news_of_block (cs := #[.int .i64 (p.1 : Int)]) (t := 3) (fr := (0, 0)) (heap_alloc_new _ _)
    case hone => simp [Value.oneCell']
    intro g4 cap4 W2 hown2 hgrow2 hat2 hlt2
    have k12 : Keeps (fun b => vl.ownBlock = some b) W W2 := ((Keeps.refl _ W).alloc _).grown hgrow2 (fun k hk => .inl hk)
    have hbx1 : W2.heap[w2.heap.size + 1]? = some (.cells #[vl] 22 (0, 0)) := k12.heap H1.out (fun hk => HNE.out _ hk rfl)
    have v1c : W2.cell? ⟨w2.heap.size + 1, 0, none⟩ = some vl := (cell_of_blk hbx1).trans rfl
    have v1f : W2.frozen? ⟨w2.heap.size + 1, 0, none⟩ = false := frozen_of_blk hbx1
    have v1l := lt_of_heap hbx1
    have HX1 := Lib.hid hbx1; have HO2 := Lib.hid hown2; have HAT2 := Lib.hid hat2; have K12 := Lib.hid k12
    clear hown2 hgrow2 hat2 hbx1 k12
    gi_wp2
    have hk : Keeps (fun b => b = w2.heap.size + 1 ∨ vl.ownBlock = some b) W (W2.setCell ⟨w2.heap.size + 1, 0, none⟩ (.slice (some ⟨g4, 0, none⟩) (pre.length + 1) cap4)) :=
      (K12.out.mono (fun _ _ h => .inr h)).setCell (.inl (.inl rfl)) _
    have hS : ∀ b, b = w2.heap.size + 1 ∨ vl.ownBlock = some b → w3.heap.size ≤ b ∧ b ≠ w2.heap.size + 1 + 1 ∧ b ≠ w2.heap.size + 1 + 1 + 1 ∧ ∃ c T f, W.heap[b]? = some (.cells c T f) := by
      rintro b (rfl | hb)
      · exact ⟨by omega, by omega, by omega, _, _, _, H1.out⟩
      · exact ⟨(World.ownsRow.lt H2.out b hb).1, (H6.out b hb).1, (H6.out b hb).2, HCE.out b hb⟩
    have hgb : ∀ k, (Value.slice (some ⟨g4, 0, none⟩) (pre.length + 1) cap4).ownBlock = some k → vl.ownBlock = some k ∨ W.heap.size + 1 = k := fun k hk' => by
      cases (show some g4 = some k from hk')
      rcases HAT2.out with h | h
      · exact .inl h
      · exact .inr h.symm
    have hlt4 := lt_of_heap H4.out
    have hlt5 := lt_of_heap H5.out
    refine ⟨⟨hk.size, fun k o hB hk0 hc => ?_⟩, KpT.ofKeeps hk (by omega) (fun k hlt hs => by have := (hS k hs).1; omega) hlt4 hlt5 (fun hs => (hS _ hs).2.1 rfl) (fun hs => (hS _ hs).2.2.1 rfl), ⟨.slice (some ⟨g4, 0, none⟩) (pre.length + 1) cap4, ?_, ?_, ?_, hk.heap H4.out (fun hs => (hS _ hs).2.1 rfl), hk.heap H5.out (fun hs => (hS _ hs).2.2.1 rfl), fun k hk' => ?_⟩⟩
    · refine hk.heap hk0 (fun hs => ?_)
      obtain ⟨_, _, _, c, T, f, e⟩ := hS k hs
      rw [e] at hk0; cases hk0; cases hc
    · exact Boxed.set _ HX1.out
    · have h : W2.ownsRow w3.heap.size 3 1 (.slice (some ⟨g4, 0, none⟩) (pre.length + 1) cap4) (pre ++ [p]).length ((pre ++ [p]).map fun p => Value.int .i64 (p.1 : Int)) := by
        rw [List.length_append, List.map_append, hz3]; exact HO2.out
      refine ((Keeps.refl (fun b => b = w2.heap.size + 1) W2).setCell (p := ⟨w2.heap.size + 1, 0, none⟩) (.inl rfl) _).ownsRow h (fun k hk' hs => ?_)
      subst hs
      rcases hgb _ hk' with e | e
      · exact HNE.out _ e rfl
      · omega
    · exact H3.out.trans' hk (fun i hi => .inr (hS i hi).1)
    · rcases hgb k hk' with e | e
      · exact H6.out k e
      · omega
  · rintro D ys W hD hys ⟨vl, h1, h2, h3, h4, h5, h6⟩ hd
    have x1c := h1.cell
    have HFW := Lib.hid (HF3.out.keeps0 h3)
    obtain ⟨e0, e1, z0, z1, hF⟩ := HFW.out.cells
    have s0 := setCell_id e0
    have s1 := setCell_id e1
    have HIV := Lib.hid (show Ints W vl (intsP (applN (wordsOf t.ops) x t.ops.length)) ∧ ∀ k, vl.ownBlock = some k → W.heap[k]? ≠ some (.deferred (some [])) by
      refine ⟨Ints.of_own (base := w3.heap.size) (e := 3) ?_, fun k hk => row_not_deferred h2 k hk⟩
      have hys' : ys.map Prod.fst = applN (wordsOf t.ops) x t.ops.length := hys
      have e : (intsP (ys.map Prod.fst)).length = ys.length := by unfold intsP; simp
      rw [← hys', ← applM, e]; exact h2)
    have HDD := Lib.hid hd
    clear h1 h2 h3 h4 h5 h6 hd hys
    gi_wp2
    refine leaves_marks (B := w.heap.size) (ds := [mark D]) (Marks.cons (Marks.nil W6 _) (Marks.nil W _) hD (by omega) HDD.out) (fun W' hk' => ?_)
    exact ⟨_, results_tmp_cell _ _ (w.heap.size + 1) 30 #[.int .i64 0, .int .i64 0] (0, 0) _ rfl rfl (hk'.heap HFW.out.blk (fun hs => cells_not_deferred HFW.out.blk hs.2)) Tryz.underlying30 rfl (by kernel_rfl), vl, rfl, HIV.out.1.keepsS hk' (fun _ k hk hs => HIV.out.2 k hk hs.2), HFW.out.keep.trans' hk' (fun i hi => .inr hi.1)⟩
  · exact fun _ _ _ _ _ _ h _ => h.elim

theorem applicable_any (w : World) (vi vg vo vs : Value) (t : Tsk) (x : Nat) (h : TaskAt w vi vg vo t) (ok : t.Ok) (hg : Good t.n x) (hs : Ints w vs (facts x)) :
    Calls Tryz.prog 8 #[.agg #[.int .i64 t.n, vi, vg, vo], vs] w fun e w' => ∃ v, e = .returned (.tuple #[v, fltV 0 0]) ∧ Ints w' v (intsP (applN (wordsOf t.ops) x t.ops.length)) ∧ Keeps (fun _ => False) w w' := callsIn_wide.1 (applicable_in w vi vg vo vs t x h ok hg hs)

set_option maxRecDepth 100000 in
set_option maxHeartbeats 1000000 in
theorem apply_any (w : World) (vi vg vo vs : Value) (t : Tsk) (x : Nat) (k : Nat) (o : Opr) (h : TaskAt w vi vg vo t) (ok : t.Ok) (hg : Good t.n x) (hs : Ints w vs (facts x)) (ho : t.ops[k]? = some o) (hcan : o.word.can x = true) :
    Calls Tryz.prog 10 #[.agg #[.int .i64 t.n, vi, vg, vo], vs, .int .i64 (k : Int)] w fun e w' => ∃ v, e = .returned (.tuple #[v, fltV 0 0]) ∧ Ints w' v (facts (o.word.next x)) ∧ Keeps (fun _ => False) w w' := by
  obtain ⟨aa, cs, h4, _⟩ := hs.form
  subst h4
  have HE := Lib.hid (show stateFault t (facts x) = (0, 0) by unfold stateFault; rw [if_pos (taskFault_zero.2 ok), if_pos hg.1])
  have HOK := Lib.hid (ok.ops o (List.mem_of_getElem? ho))
  have hxl : (facts x).length ≤ 1000 := isSet_length hg.1 (by have := ok.n1; omega)
  have hkl := (List.getElem?_eq_some_iff.1 ho).1
  obtain ⟨u1, u2, u3⟩ := upd_nextS ok hg (List.mem_of_getElem? ho)
  rw [hcan] at u1
  have HU1 := Lib.hid u1; have HU2 := Lib.hid u2; have HO := Lib.hid ho; have HN1 := Lib.hid ok.n1
  clear ok hg ho hcan u1 u2 u3
  obtain ⟨ai, ci, h1, _⟩ := h.init.form
  obtain ⟨ag, cg, h2, _⟩ := h.goal.form
  obtain ⟨ao, co, h3, hmo⟩ := h.ops.form
  subst h1 h2 h3
  have K1 := (Keeps.refl (fun _ => False) w).alloc (.cells #[.int .i64 t.n, .slice ai t.init.length ci, .slice ag t.goal.length cg, .slice ao t.ops.length co] 25)
  have KA2 := K1.alloc (.cells #[.int .i64 0, .int .i64 0] 30)
  have HT := Lib.hid (h.keeps0 KA2)
  have HB := Lib.hid ((Four.new w (.int .i64 t.n) (.slice ai t.init.length ci) (.slice ag t.goal.length cg) (.slice ao t.ops.length co) 25).keeps0 ((Keeps.refl _ _).alloc (.cells #[.int .i64 0, .int .i64 0] 30)))
  have HF : Flt w ((w.alloc (.cells #[.int .i64 t.n, .slice ai t.init.length ci, .slice ag t.goal.length cg, .slice ao t.ops.length co] 25)).alloc (.cells #[.int .i64 0, .int .i64 0] 30)) (w.heap.size + 1) 30 :=
    ⟨by have := heap_alloc_new (w.alloc (.cells #[.int .i64 t.n, .slice ai t.init.length ci, .slice ag t.goal.length cg, .slice ao t.ops.length co] 25)) (.cells #[.int .i64 0, .int .i64 0] 30); rwa [World.size_alloc] at this, by omega, KA2⟩
  replace HF := Lib.hid HF
  have HS := Lib.hid (show Ints _ (.slice aa (facts x).length cs) (facts x) from hs.keeps0 KA2)
  clear h K1 KA2 hs
  go_enter Tryz.func10, Tryz.ntmps10
  go_upto_region 1 with fail
  generalize ((w.alloc (.cells #[.int .i64 t.n, .slice ai t.init.length ci, .slice ag t.goal.length cg, .slice ao t.ops.length co] 25)).alloc (.cells #[.int .i64 0, .int .i64 0] 30)) = w1 at HT HB HF HS ⊢
  have hbx := HB.out.lt
  obtain ⟨d0, d1, d2, d3⟩ := HB.out
  go_wp2_with fail
  refine (stateFault_any _ _ _ _ _ t (facts x) HT.out HS.out).mono ?_; rintro e w2 ⟨rfl, hk⟩
  rw [HE.out]
  simp only [fltV]
  have KA := hk.trans ((Keeps.refl (fun _ => False) w2).alloc (.cells #[.int .i64 0, .int .i64 0] 30))
  have HF3 := Lib.hid (HF.out.keeps0 KA); have HB3 := Lib.hid (HB.out.keeps0 KA); have HT3 := Lib.hid (HT.out.keeps0 KA); have HS3 := Lib.hid (show Ints _ (.slice aa (facts x).length cs) (facts x) from HS.out.keeps0 KA)
  have P3 := heap_alloc_new w2 (.cells #[.int .i64 0, .int .i64 0] 30)
  clear d0 d1 d2 d3 hk KA hbx HF HB HT HS
  go_upto_region 2 with fail
  generalize w2.alloc (.cells #[.int .i64 0, .int .i64 0] 30) = w3 at HF3 HB3 HT3 P3 HS3 ⊢
  generalize w2.heap.size = bp at P3 ⊢
  obtain ⟨f0, f1, y0, y1, hbp⟩ := pair_cells P3
  have hbx := HB3.out.lt
  obtain ⟨d0, d1, d2, d3⟩ := HB3.out
  have i0 : (0 : Int) ≤ (k : Int) := by omega
  have i1 : (k : Int) < (t.ops.length : Int) := by omega
  go_wp2_with fail
  refine (can_any _ _ _ _ _ t (facts x) k o HT3.out HS3.out HO.out (facts_sorted x) (isSet_iff.1 HOK.out.pre).2).mono ?_; rintro e w4 ⟨rfl, hk⟩
  rw [HU1.out]
  have HF4 := Lib.hid (HF3.out.keeps0 hk); have HB4 := Lib.hid (HB3.out.keeps0 hk); have HT4 := Lib.hid (HT3.out.keeps0 hk); have HS4 := Lib.hid (show Ints _ (.slice aa (facts x).length cs) (facts x) from HS3.out.keeps0 hk)
  clear hk d0 d1 d2 d3 f0 f1 y0 y1 hbp hbx P3 HB3 HT3 HS3 HF3
  have hbx := HB4.out.lt
  obtain ⟨d0, d1, d2, d3⟩ := HB4.out
  go_wp2_with fail
  refine (next_any _ _ _ _ _ t (facts x) k o HT4.out HS4.out HO.out (isSet_iff.1 HOK.out.del).2 hxl (isSet_length HOK.out.add (by have := HN1.out; omega)) (isSet_length HOK.out.del (by have := HN1.out; omega))).mono ?_; rintro e w5 ⟨v, rfl, hown, hk⟩
  rw [HU2.out] at hown
  have HV := Lib.hid (Ints.of_own hown)
  have HF5 := Lib.hid (HF4.out.keeps0 hk)
  clear hk hown d0 d1 d2 d3 hbx HB4 HT4 HS4 HF4
  obtain ⟨e0, e1, z0, z1, hF⟩ := HF5.out.cells
  have s0 := setCell_id e0
  have s1 := setCell_id e1
  go_wp2_with fail
  refine bodyPost_ret (results_tmp_cell _ _ (w.heap.size + 1) 30 #[.int .i64 0, .int .i64 0] (0, 0) _ rfl rfl (HF5.out.blk) Tryz.underlying30 rfl (by kernel_rfl)) rfl ?_
  exact ⟨v, rfl, HV.out, HF5.out.keep⟩

end Go.Proofs.YtdonadeodioplaaGreat
