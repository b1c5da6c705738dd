/- space.Distances, space.Optimal. -/
import Derived.Test.YtcfcmmajlkkabaaCosts
import Derived.Test.YtcfcmmajlkkabaaExpl
import Derived.Test.YtcfcmmajlkkabaaSpSteps
import Derived.Test.YtcfcmmajlkkabaaExB
import Derived.Test.YtcfcmmajlkkabaaPlanL
import Derived.Test.YtcfcmmajlkkabaaReachL
import Derived.Test.YtcfcmmajlkkabaaRCostW
import Derived.Test.YtcfcmmajlkkabaaStates
namespace Go.Proofs.Ytcfcmmajlkkabaa
open Go.RowKit

def DistPost (t : Tsk) (w : World) (e : Ending) (w' : World) : Prop := Keeps (fun _ => False) w w' ∧
  ((∃ c i, c ≠ 0 ∧ expF t = (c, i) ∧ e = .returned (.tuple #[.slice none 0 0, fltV c i])) ∨
   (t.Ok ∧ ∃ (l ws : List Nat) (v : Value) (D : Nat → Int), explored t = some l ∧ ws.Perm l ∧ ws.Pairwise ordW ∧ CostOk (arcs (wordsOf t.ops) ws) (ws.map (goalB (wd t.goal))) (ws.map D) ∧ e = .returned (.tuple #[v, fltV 0 0]) ∧ Ints w' v (ws.map D)))
def OptPost (t : Tsk) (w : World) (e : Ending) (w' : World) : Prop := Keeps (fun _ => False) w w' ∧
  ((∃ c i, c ≠ 0 ∧ expF t = (c, i) ∧ e = .returned (.tuple #[.int .i64 0, fltV c i])) ∨
   (t.Ok ∧ ∃ (l ws : List Nat) (D : Nat → Int), explored t = some l ∧ ws.Perm l ∧ ws.Pairwise ordW ∧ CostOk (arcs (wordsOf t.ops) ws) (ws.map (goalB (wd t.goal))) (ws.map D) ∧ e = .returned (.tuple #[.int .i64 (D (wd t.init)), fltV 0 0])))

/-- What Costs asks for. -/
theorem costs_need {t : Tsk} (ok : t.Ok) {l ws : List Nat} (hx : explored t = some l) (hp : ws.Perm l) :
    wd t.init < 4294967296 ∧ wd t.goal < 4294967296 ∧ (wordsOf t.ops).length ≤ 40 ∧ Shut (wordsOf t.ops) ws ∧ ws.length ≤ 2000 ∧ (∀ x ∈ ws, x < 4294967296) ∧ (∀ o ∈ wordsOf t.ops, 0 ≤ o.cost ∧ o.cost ≤ 1000000) ∧ wd t.init ∈ ws := by
  have hs32 : wd t.init < 4294967296 := wd_lt32 (by have := ok.n1; omega : t.n ≤ 32) ok.init
  have hg32 : wd t.goal < 4294967296 := wd_lt32 (by have := ok.n1; omega : t.n ≤ 32) ok.goal
  have hsh := shut_reached (ops := wordsOf t.ops) (s := wd t.init) (L := l) hx
  have hr := reached_some (ops := wordsOf t.ops) (s := wd t.init) (l := l) hx
  refine ⟨hs32, hg32, by unfold wordsOf; rw [List.length_map]; exact ok.few, ⟨hp.nodup_iff.2 hsh.1, fun x h o ho hc => hp.mem_iff.2 (hsh.2 x (hp.mem_iff.1 h) o ho hc)⟩, by rw [hp.length_eq]; exact hr.2.1, fun x h => reach_small (wops_ok ok) hs32 ((hr.2.2.2 x).1 (hp.mem_iff.1 h)), fun o ho => ?_, hp.mem_iff.2 (List.mem_of_getElem? hr.2.2.1)⟩
  unfold wordsOf at ho
  obtain ⟨o', ho', rfl⟩ := List.mem_map.1 ho
  have h := ok.ops o' ho'
  have hc : o'.word.cost = o'.cost := rfl
  rw [hc]
  exact ⟨h.cost0, by have := h.cost1; omega⟩

set_option maxRecDepth 100000 in
set_option maxHeartbeats 2000000 in
theorem distances_any (w : World) (vi vg vo : Value) (t : Tsk) (h : TaskAt w vi vg vo t) :
    Calls Try.prog 44 #[.agg #[.int .i64 t.n, vi, vg, vo]] w (DistPost t w) := by
  obtain ⟨j0, hj0, jz0, jz1, jz2⟩ := info_parts Try.info3
  obtain ⟨ai, ci, h1, _⟩ := h.init.form
  obtain ⟨ag, cg, h2, _⟩ := h.goal.form
  obtain ⟨ao, co, h3, hmo⟩ := h.ops.form
  subst h1 h2 h3
  have K1 := (Keeps.refl (fun _ => False) w).alloc (.cells #[.int .i64 t.n, .slice ai t.init.length ci, .slice ag t.goal.length cg, .slice ao t.ops.length co] 25)
  have HT := h.keeps0 (K1.alloc (.cells #[.int .i64 0, .int .i64 0] 29))
  have HB := (Four.new w (.int .i64 t.n) (.slice ai t.init.length ci) (.slice ag t.goal.length cg) (.slice ao t.ops.length co) 25).keeps0 ((Keeps.refl _ _).alloc (.cells #[.int .i64 0, .int .i64 0] 29))
  have HF : Flt w ((w.alloc (.cells #[.int .i64 t.n, .slice ai t.init.length ci, .slice ag t.goal.length cg, .slice ao t.ops.length co] 25)).alloc (.cells #[.int .i64 0, .int .i64 0] 29)) (w.heap.size + 1) 29 :=
    ⟨by have := heap_alloc_new (w.alloc (.cells #[.int .i64 t.n, .slice ai t.init.length ci, .slice ag t.goal.length cg, .slice ao t.ops.length co] 25)) (.cells #[.int .i64 0, .int .i64 0] 29); rwa [World.size_alloc] at this, by omega, K1.alloc _⟩
  replace HT := Lib.hid HT; replace HB := Lib.hid HB; replace HF := Lib.hid HF
  clear h K1
  go_enter Try.func44, Try.ntmps44
  go_upto_region 1 with fail
  generalize ((w.alloc (.cells #[.int .i64 t.n, .slice ai t.init.length ci, .slice ag t.goal.length cg, .slice ao t.ops.length co] 25)).alloc (.cells #[.int .i64 0, .int .i64 0] 29)) = w1 at HT HB HF ⊢
  have hbx := HB.out.lt
  obtain ⟨d0, d1, d2, d3⟩ := HB.out
  go_wp2_with fail
  refine (checked_any _ _ _ _ t HT.out).mono ?_; rintro e w2 ⟨hk, hr⟩
  have HF2 := Lib.hid (HF.out.keeps0 hk)
  clear d0 d1 d2 d3 hk
  have hb0 := HF2.out.keep.size
  rcases hr with ⟨hc, rfl⟩ | ⟨hok, hx, rfl⟩ | ⟨hok, l, hx, b, v, vl, ws, rfl, hw, hperm, hord, hown⟩
  · have hc2 : ((taskFault t).1 == 0) = false := by simpa using hc
    have HE := Lib.hid (show expF t = taskFault t by unfold expF; rw [if_neg hc])
    have HC := Lib.hid hc
    clear hc
    generalize hfe : taskFault t = f at hc2 HC HE ⊢
    clear hfe
    have HF3 := Lib.hid (HF2.out.keeps0 ((Keeps.refl _ _).alloc (.cells #[.int .i64 f.1, .int .i64 f.2] 29)))
    obtain ⟨e0, e1, z0, z1, hF⟩ := HF3.out.cells
    go_wp2_with fail
    go_region
    all_goals
      go_wp2
      refine bodyPost_ret (results_tmp_cell _ _ (w.heap.size + 1) 29 #[.int .i64 f.1, .int .i64 f.2] (0, 0) _ rfl rfl (((Keeps.refl (fun _ => False) _).drew).heap (HF3.out.set (.int .i64 f.1) (.int .i64 f.2)).1 (fun h => h)) Try.underlying29 rfl (by kernel_rfl)) rfl ?_
      exact ⟨((HF3.out.set (.int .i64 f.1) (.int .i64 f.2)).2).drew, .inl ⟨f.1, f.2, HC.out, HE.out, rfl⟩⟩
  · have HE := Lib.hid (show expF t = (10, -7) by unfold expF; rw [if_pos (taskFault_zero.2 hok), hx])
    clear hx hok
    have HF3 := Lib.hid (HF2.out.keeps0 ((Keeps.refl _ _).alloc (.cells #[.int .i64 10, .int .i64 (-7)] 29)))
    obtain ⟨e0, e1, z0, z1, hF⟩ := HF3.out.cells
    go_wp2_with fail
    go_region
    all_goals
      go_wp2
      refine bodyPost_ret (results_tmp_cell _ _ (w.heap.size + 1) 29 #[.int .i64 10, .int .i64 (-7)] (0, 0) _ rfl rfl (((Keeps.refl (fun _ => False) _).drew).heap (HF3.out.set (.int .i64 10) (.int .i64 (-7))).1 (fun h => h)) Try.underlying29 rfl (by kernel_rfl)) rfl ?_
      exact ⟨((HF3.out.set (.int .i64 10) (.int .i64 (-7))).2).drew, .inl ⟨10, -7, by decide, HE.out, rfl⟩⟩
  · have HX := Lib.hid hx; have OK := Lib.hid hok; have PERM := Lib.hid hperm; have ORD := Lib.hid (show ws.Pairwise ordW from hord)
    obtain ⟨n1, n2, n3, n4, hfew, n6, n7, n8⟩ := costs_need hok hx hperm
    have KA := (Keeps.refl (fun _ => False) w2).alloc (.cells #[.int .i64 0, .int .i64 0] 29)
    have HV := Lib.hid (show Sl _ vl ws.length (ws.map encW) from (Sl.of_own hown).keeps0 KA)
    have HWA := Lib.hid (hw.keeps0 KA)
    have HF3 := Lib.hid (HF2.out.keeps0 KA)
    obtain ⟨av, cv, hav⟩ := ownsRow_form1 hown
    subst hav
    have HN := Lib.hid (And.intro n2 (And.intro n3 (And.intro n4 (And.intro n6 n7))))
    clear hx hok hw KA hperm hord hown n1 n2 n3 n4 n6 n7 n8
    have F0 := heap_alloc_new w2 (.cells #[.int .i64 0, .int .i64 0] 29)
    go_upto_region 2 with fail
    generalize w2.alloc (.cells #[.int .i64 0, .int .i64 0] 29) = w3 at HV HF3 HWA F0 ⊢
    have f0 : w3.cell? ⟨w2.heap.size, 0, none⟩ = some (.int .i64 0) := by rw [cell_of_blk F0]; rfl
    have f1 : w3.cell? ⟨w2.heap.size, 1, none⟩ = some (.int .i64 0) := by rw [cell_of_blk F0]; rfl
    clear F0
    have hb2 := HF3.out.keep.size
    have hbF := HF3.out.blk
    go_wp2_with fail
    refine (costs_any w3 b (wd t.init) (wd t.goal) _ v (.slice av ws.length cv) (wordsOf t.ops) ws HWA.out (wops_ok OK.out) HN.out.2.1 HN.out.1 HN.out.2.2.1 hfew HN.out.2.2.2.1 HN.out.2.2.2.2 HV.out).mono ?_
    rintro e w4 ⟨hk4, bo, D, rfl, hbo, hI, hco⟩
    have HI := Lib.hid hI; have HCO := Lib.hid hco; have HV4 := Lib.hid (HV.out.keeps0 hk4); have HF4 := Lib.hid (HF3.out.keeps0 hk4)
    have HCV := Lib.hid (Sl.cellN HV4.out rfl)
    have hb4 := hk4.size
    clear hI hco hk4 f0 f1 hbF HF3 HV HWA
    go_wp2_with fail
    go_loopw [8, 26] (fun v8 v26 wr => ∃ k : Nat, k ≤ ws.length ∧ v26 = .int .i64 (k : Int) ∧ wr.ownsRow w4.heap.size 3 1 v8 k ((ws.take k).map fun x : Nat => Value.int .i64 (D x)) ∧ Keeps (fun _ => False) w4 wr) (fun _ v26 _ => ws.length - (intOf v26).toNat)
    case atStart => exact ⟨0, Nat.zero_le _, rfl, World.ownsRow_nil _ _ _ _, Keeps.refl _ _⟩
    case round =>
      obtain ⟨k, hk, rfl, hrow, hkr⟩ := hrel
      have HR := Lib.hid hrow; have HKR := Lib.hid hkr
      have hsz := hkr.size
      obtain ⟨ar, cr, har⟩ := ownsRow_form1 hrow
      subst har
      clear hrow hkr
      by_cases hlt : k < ws.length
      · obtain ⟨bl, ol, rfl, hx'⟩ := HCV.out (by omega)
        obtain ⟨x, hx⟩ : ∃ x, ws[k]? = some x := ⟨_, List.getElem?_eq_getElem hlt⟩
        have hu := HKR.out.cell (hx' k (.int .u32 (x : Int)) (by rw [List.getElem?_map, hx]; rfl)) (fun h => h)
        have hlk := ((HI.out.keeps HKR.out (fun h => h)).run_lookup_hit (P := Try.prog) Try.underlying106 Try.underlying90 (outV_nodup HN.out.2.2.1.1 D) (outV_mem D (List.mem_of_getElem? hx))).2
        have HTK := Lib.hid (show (ws.take (k + 1)).map (fun x : Nat => Value.int .i64 (D x)) = (ws.take k).map (fun x : Nat => Value.int .i64 (D x)) ++ [.int .i64 (D x)] by
          rw [take_getS hx, List.map_append]; rfl)
        clear hx' hx
        go_wp2_with (at_builtin; refine wpList_append_d rfl _ _ _ rfl w4.heap.size 3 j0 _ 1 8 Try.underlying22 hj0 jz0 jz1 jz2 rfl (by omega) _ k ((ws.take k).map fun x : Nat => Value.int .i64 (D x)) (by rfl) (World.ownsRow.alloc HR.out (.cells #[.int .i64 (D x)] 3)) ⟨wr.heap.size, 0, none⟩ 1 1 [.int .i64 (D x)] (by rfl) (by rfl) (World.news_of_block (cs := #[.int .i64 (D x)]) (t := 3) (fr := (0, 0)) (heap_alloc_new _ _)) (by simp [Value.oneCell']) (by omega) (by unfold maxLen; omega) (by omega) (by simp; omega) (wr.heap.size + 1) (by simp) ?_)
        intro gg cap2 w5 hown hgrow hat hlt5 hd5
        have HO := Lib.hid hown
        have HK5 := Lib.hid (own_grown HR.out HKR.out ((Keeps.refl _ wr).alloc (.cells #[.int .i64 (D x)] 3)) hgrow)
        clear hown hgrow hat hd5 hu hlk
        go_wp2_with fail
        go_roundw
        case rel => exact ⟨k + 1, by omega, by go_num, by rw [HTK.out, List.map_take]; exact HO.out, HK5.out⟩
        case measure => simp only [intOf]; omega
      · have hie : k = ws.length := by omega
        subst hie
        have HFr := Lib.hid (HF4.out.keeps0 HKR.out)
        obtain ⟨e0, e1, z0, z1, hF⟩ := HFr.out.cells
        have s0 := setCell_id e0
        have s1 := setCell_id e1
        have HR2 := Lib.hid (show Ints wr (.slice ar ws.length cr) (ws.map D) by
          have h := HR.out
          rw [List.take_length] at h
          refine Ints.of_own (base := w4.heap.size) (e := 3) ?_
          rw [List.length_map, List.map_map]
          exact h)
        go_wp2_with fail
        refine bodyPost_ret (results_tmp_cell _ _ (w.heap.size + 1) 29 #[.int .i64 0, .int .i64 0] (0, 0) _ rfl rfl HFr.out.blk Try.underlying29 rfl (by kernel_rfl)) rfl ?_
        exact ⟨HFr.out.keep, .inr ⟨OK.out, l, ws, _, D, HX.out, PERM.out, ORD.out, HCO.out, rfl, HR2.out⟩⟩

set_option maxRecDepth 100000 in
set_option maxHeartbeats 2000000 in
theorem optimal_any (w : World) (vi vg vo : Value) (t : Tsk) (h : TaskAt w vi vg vo t) :
    Calls Try.prog 45 #[.agg #[.int .i64 t.n, vi, vg, vo]] w (OptPost t w) := by
  obtain ⟨j0, hj0, jz0, jz1, jz2⟩ := info_parts Try.info3
  obtain ⟨ai, ci, h1, _⟩ := h.init.form
  obtain ⟨ag, cg, h2, _⟩ := h.goal.form
  obtain ⟨ao, co, h3, hmo⟩ := h.ops.form
  subst h1 h2 h3
  have K1 := (Keeps.refl (fun _ => False) w).alloc (.cells #[.int .i64 t.n, .slice ai t.init.length ci, .slice ag t.goal.length cg, .slice ao t.ops.length co] 25)
  have HT := h.keeps0 (K1.alloc (.cells #[.int .i64 0, .int .i64 0] 29))
  have HB := (Four.new w (.int .i64 t.n) (.slice ai t.init.length ci) (.slice ag t.goal.length cg) (.slice ao t.ops.length co) 25).keeps0 ((Keeps.refl _ _).alloc (.cells #[.int .i64 0, .int .i64 0] 29))
  have HF : Flt w ((w.alloc (.cells #[.int .i64 t.n, .slice ai t.init.length ci, .slice ag t.goal.length cg, .slice ao t.ops.length co] 25)).alloc (.cells #[.int .i64 0, .int .i64 0] 29)) (w.heap.size + 1) 29 :=
    ⟨by have := heap_alloc_new (w.alloc (.cells #[.int .i64 t.n, .slice ai t.init.length ci, .slice ag t.goal.length cg, .slice ao t.ops.length co] 25)) (.cells #[.int .i64 0, .int .i64 0] 29); rwa [World.size_alloc] at this, by omega, K1.alloc _⟩
  replace HT := Lib.hid HT; replace HB := Lib.hid HB; replace HF := Lib.hid HF
  clear h K1
  go_enter Try.func45, Try.ntmps45
  go_upto_region 1 with fail
  generalize ((w.alloc (.cells #[.int .i64 t.n, .slice ai t.init.length ci, .slice ag t.goal.length cg, .slice ao t.ops.length co] 25)).alloc (.cells #[.int .i64 0, .int .i64 0] 29)) = w1 at HT HB HF ⊢
  have hbx := HB.out.lt
  obtain ⟨d0, d1, d2, d3⟩ := HB.out
  go_wp2_with fail
  refine (checked_any _ _ _ _ t HT.out).mono ?_; rintro e w2 ⟨hk, hr⟩
  have HF2 := Lib.hid (HF.out.keeps0 hk)
  clear d0 d1 d2 d3 hk
  have hb0 := HF2.out.keep.size
  rcases hr with ⟨hc, rfl⟩ | ⟨hok, hx, rfl⟩ | ⟨hok, l, hx, b, v, vl, ws, rfl, hw, hperm, hord, hown⟩
  · have hc2 : ((taskFault t).1 == 0) = false := by simpa using hc
    have HE := Lib.hid (show expF t = taskFault t by unfold expF; rw [if_neg hc])
    have HC := Lib.hid hc
    clear hc
    generalize hfe : taskFault t = f at hc2 HC HE ⊢
    clear hfe
    have HF3 := Lib.hid (HF2.out.keeps0 ((Keeps.refl _ _).alloc (.cells #[.int .i64 f.1, .int .i64 f.2] 29)))
    obtain ⟨e0, e1, z0, z1, hF⟩ := HF3.out.cells
    go_wp2_with fail
    go_region
    all_goals
      go_wp2
      refine bodyPost_ret (results_tmp_cell _ _ (w.heap.size + 1) 29 #[.int .i64 f.1, .int .i64 f.2] (0, 0) _ rfl rfl (((Keeps.refl (fun _ => False) _).drew).heap (HF3.out.set (.int .i64 f.1) (.int .i64 f.2)).1 (fun h => h)) Try.underlying29 rfl (by kernel_rfl)) rfl ?_
      exact ⟨((HF3.out.set (.int .i64 f.1) (.int .i64 f.2)).2).drew, .inl ⟨f.1, f.2, HC.out, HE.out, rfl⟩⟩
  · have HE := Lib.hid (show expF t = (10, -7) by unfold expF; rw [if_pos (taskFault_zero.2 hok), hx])
    clear hx hok
    have HF3 := Lib.hid (HF2.out.keeps0 ((Keeps.refl _ _).alloc (.cells #[.int .i64 10, .int .i64 (-7)] 29)))
    obtain ⟨e0, e1, z0, z1, hF⟩ := HF3.out.cells
    go_wp2_with fail
    go_region
    all_goals
      go_wp2
      refine bodyPost_ret (results_tmp_cell _ _ (w.heap.size + 1) 29 #[.int .i64 10, .int .i64 (-7)] (0, 0) _ rfl rfl (((Keeps.refl (fun _ => False) _).drew).heap (HF3.out.set (.int .i64 10) (.int .i64 (-7))).1 (fun h => h)) Try.underlying29 rfl (by kernel_rfl)) rfl ?_
      exact ⟨((HF3.out.set (.int .i64 10) (.int .i64 (-7))).2).drew, .inl ⟨10, -7, by decide, HE.out, rfl⟩⟩
  · have HX := Lib.hid hx; have OK := Lib.hid hok; have PERM := Lib.hid hperm; have ORD := Lib.hid (show ws.Pairwise ordW from hord)
    obtain ⟨n1, n2, n3, n4, hfew, n6, n7, n8⟩ := costs_need hok hx hperm
    have KA := (Keeps.refl (fun _ => False) w2).alloc (.cells #[.int .i64 0, .int .i64 0] 29)
    have HV := Lib.hid (show Sl _ vl ws.length (ws.map encW) from (Sl.of_own hown).keeps0 KA)
    have HWA := Lib.hid (hw.keeps0 KA)
    have HF3 := Lib.hid (HF2.out.keeps0 KA)
    obtain ⟨av, cv, hav⟩ := ownsRow_form1 hown
    subst hav
    have HN := Lib.hid (And.intro n2 (And.intro n3 (And.intro n4 (And.intro n6 (And.intro n7 n8)))))
    clear hx hok hw KA hperm hord hown n1 n2 n3 n4 n6 n7 n8
    have F0 := heap_alloc_new w2 (.cells #[.int .i64 0, .int .i64 0] 29)
    go_upto_region 2 with fail
    generalize w2.alloc (.cells #[.int .i64 0, .int .i64 0] 29) = w3 at HV HF3 HWA F0 ⊢
    have f0 : w3.cell? ⟨w2.heap.size, 0, none⟩ = some (.int .i64 0) := by rw [cell_of_blk F0]; rfl
    have f1 : w3.cell? ⟨w2.heap.size, 1, none⟩ = some (.int .i64 0) := by rw [cell_of_blk F0]; rfl
    clear F0
    have hb2 := HF3.out.keep.size
    have hbF := HF3.out.blk
    go_wp2_with fail
    refine (costs_any w3 b (wd t.init) (wd t.goal) _ v (.slice av ws.length cv) (wordsOf t.ops) ws HWA.out (wops_ok OK.out) HN.out.2.1 HN.out.1 HN.out.2.2.1 hfew HN.out.2.2.2.1 HN.out.2.2.2.2.1 HV.out).mono ?_
    rintro e w4 ⟨hk4, bo, D, rfl, hbo, hI, hco⟩
    have HI := Lib.hid hI; have HCO := Lib.hid hco; have HF4 := Lib.hid (HF3.out.keeps0 hk4); have HW4 := Lib.hid (HWA.out.keeps0 hk4)
    clear hI hco hk4 f0 f1 hbF HF3 HV HWA
    go_wp2_with fail
    refine (start_any _ _ _ _ _ _ _ HW4.out).mono ?_; rintro e w5 ⟨rfl, rfl⟩
    have hlk := (HI.out.run_lookup_hit (P := Try.prog) Try.underlying106 Try.underlying90 (outV_nodup HN.out.2.2.1.1 D) (outV_mem D HN.out.2.2.2.2.2)).2
    obtain ⟨e0, e1, z0, z1, hF⟩ := HF4.out.cells
    have s0 := setCell_id e0
    have s1 := setCell_id e1
    go_wp2_with fail
    refine bodyPost_ret (results_tmp_cell _ _ (w.heap.size + 1) 29 #[.int .i64 0, .int .i64 0] (0, 0) _ rfl rfl HF4.out.blk Try.underlying29 rfl (by kernel_rfl)) rfl ?_
    exact ⟨HF4.out.keep, .inr ⟨OK.out, l, ws, D, HX.out, PERM.out, ORD.out, HCO.out, rfl⟩⟩

end Go.Proofs.Ytcfcmmajlkkabaa

/- space's example. -/
namespace Go.Proofs.Ytcfcmmajlkkabaa
open Go.RowKit

theorem ordW_antisymm {x y : Nat} (hx : x < 4294967296) (hy : y < 4294967296) (h1 : ordW x y) (h2 : ordW y x) : x = y := by
  unfold ordW cmpW at h1 h2
  have h3 := cmpL_neg (facts x) (facts y)
  have h4 : cmpL (facts x) (facts y) = 0 := by omega
  exact facts_inj (by simpa using hx) (by simpa using hy) (cmpL_eq h4)
theorem sorted_same {a b : List Nat} (hp : a.Perm b) (ha : a.Pairwise ordW) (hb : b.Pairwise ordW) (h32 : ∀ x ∈ a, x < 4294967296) : a = b :=
  hp.eq_of_pairwise (le := ordW) (fun x y hx hy h1 h2 => ordW_antisymm (h32 x hx) (h32 y (hp.mem_iff.2 hy)) h1 h2) ha hb

theorem CostInv.down_inv {A : List Arc} {acc : List Bool} {i : Nat} {x : Int} (h : Down A acc i x) : (acc[i]? = some true ∧ x = 0) ∨ ∃ a ∈ A, a.frm = i ∧ ∃ c, Down A acc a.to c ∧ x = a.cost + c := by
  cases h with
  | nil h => exact .inl ⟨h, rfl⟩
  | cons ha h => exact .inr ⟨_, ha, rfl, _, h, rfl⟩

theorem stepT_ws {ws l : List Nat} (hx : explored stepT = some l) (hp : ws.Perm l) (ho : ws.Pairwise ordW) : ws = [0, 1] := by
  rw [stepT_reached] at hx; cases hx
  exact sorted_same hp ho (by unfold ordW; decide) (fun x hx => by have := hp.mem_iff.1 hx; simp at this; omega)

theorem stepT_arcs : arcs (wordsOf stepT.ops) [0, 1] = [⟨0, 1, 0, 3⟩, ⟨1, 1, 0, 3⟩] := by rfl
theorem stepT_costs {D : Nat → Int} (h : CostOk (arcs (wordsOf stepT.ops) [0, 1]) ([0, 1].map (goalB (wd stepT.goal))) ([0, 1].map D)) : D 0 = 3 ∧ D 1 = 0 := by
  rw [stepT_arcs, show [0, 1].map (goalB (wd stepT.goal)) = [false, true] by decide] at h
  have h1 := h.zero 1 rfl
  have hd1 : D 1 = 0 := by simpa using h1
  obtain ⟨x, hx, hle⟩ := h.relax ⟨0, 1, 0, 3⟩ (by simp) (D 1) rfl (by rw [hd1]; decide)
  have hd0 : D 0 ≤ 3 := by
    have e : D 0 = x := by simpa using hx
    rw [e]; simp only at hle; omega
  have hr := h.real 0 (D 0) rfl (by have : bigC = 1000000000 := rfl; omega)
  refine ⟨?_, hd1⟩
  rcases CostInv.down_inv hr with ⟨h2, _⟩ | ⟨a, ha, hf, c, hc, he⟩
  · simp at h2
  · have h3 := (h.down (fun a ha => by simp at ha; rcases ha with rfl | rfl <;> decide) hc).1
    simp at ha
    rcases ha with rfl | rfl
    · simp only at he; omega
    · simp at hf

theorem stepT_deps {i : Nat} (hi : (tree (wordsOf stepT.ops) (wd stepT.init) i).length ≤ i) : [0, 1].map (depT (tree (wordsOf stepT.ops) (wd stepT.init) i)) = [0, 1] := by
  have hx : reached (wordsOf stepT.ops) (wd stepT.init) = some [0, 1] := stepT_reached
  have hsh := shut_reached hx
  have hr := (reached_some hx).2.2.2
  have h1 := dep_ok hsh hr (k := 0) rfl hi (wt := fun _ => 1) (fun _ => rfl)
  have h2 := dep_ok hsh hr (k := 0) rfl (i := 2) (by decide) (wt := fun _ => 1) (fun _ => rfl)
  rw [h1.unique h2 (fun _ _ => by decide)]
  decide

theorem stepT_exp : expF stepT = (0, 0) := by unfold expF; rw [stepT_ok, stepT_reached]; decide

theorem explStep_any (w : World) (vi vg vo : Value) (h : TaskAt w vi vg vo stepT) :
    Calls Try.prog 43 #[.agg #[.int .i64 1, vi, vg, vo]] w fun e w' => ∃ v, e = .returned (.tuple #[v, fltV 0 0]) ∧ Lists w' v [[], [0]] ∧ Keeps (fun _ => False) w w' := by
  refine (explore_any w vi vg vo stepT h).mono ?_
  rintro e w' ⟨hk, ⟨c, i, hc, he, _⟩ | ⟨_, l, ws, v, h1, h2, h3, rfl, h4⟩⟩
  · rw [stepT_exp] at he; cases he; exact absurd rfl hc
  · have := stepT_ws h1 h2 h3; subst this
    exact ⟨v, rfl, h4, hk⟩
theorem distStep_any (w : World) (vi vg vo : Value) (h : TaskAt w vi vg vo stepT) :
    Calls Try.prog 44 #[.agg #[.int .i64 1, vi, vg, vo]] w fun e w' => ∃ v, e = .returned (.tuple #[v, fltV 0 0]) ∧ Ints w' v [3, 0] ∧ Keeps (fun _ => False) w w' := by
  refine (distances_any w vi vg vo stepT h).mono ?_
  rintro e w' ⟨hk, ⟨c, i, hc, he, _⟩ | ⟨_, l, ws, v, D, h1, h2, h3, h4, rfl, h5⟩⟩
  · rw [stepT_exp] at he; cases he; exact absurd rfl hc
  · have := stepT_ws h1 h2 h3; subst this
    obtain ⟨e0, e1⟩ := stepT_costs h4
    simp only [List.map_cons, List.map_nil, e0, e1] at h5
    exact ⟨v, rfl, h5, hk⟩
theorem optStep_any (w : World) (vi vg vo : Value) (h : TaskAt w vi vg vo stepT) :
    Calls Try.prog 45 #[.agg #[.int .i64 1, vi, vg, vo]] w fun e w' => e = .returned (.tuple #[.int .i64 3, fltV 0 0]) ∧ Keeps (fun _ => False) w w' := by
  refine (optimal_any w vi vg vo stepT h).mono ?_
  rintro e w' ⟨hk, ⟨c, i, hc, he, _⟩ | ⟨_, l, ws, D, h1, h2, h3, h4, rfl⟩⟩
  · rw [stepT_exp] at he; cases he; exact absurd rfl hc
  · have := stepT_ws h1 h2 h3; subst this
    obtain ⟨e0, e1⟩ := stepT_costs h4
    have hi : wd stepT.init = 0 := rfl
    rw [hi, e0]
    exact ⟨rfl, hk⟩
theorem stepsStep_any (w : World) (vi vg vo : Value) (h : TaskAt w vi vg vo stepT) :
    Calls Try.prog 46 #[.agg #[.int .i64 1, vi, vg, vo]] w fun e w' => ∃ v, e = .returned (.tuple #[v, fltV 0 0]) ∧ Ints w' v [0, 1] ∧ Keeps (fun _ => False) w w' := by
  refine (spsteps_any w vi vg vo stepT h).mono ?_
  rintro e w' ⟨hk, ⟨c, i, hc, he, _⟩ | ⟨_, l, ws, v, i, h1, h2, h3, h4, rfl, h5⟩⟩
  · rw [stepT_exp] at he; cases he; exact absurd rfl hc
  · have := stepT_ws h1 h2 h3; subst this
    rw [stepT_deps h4] at h5
    exact ⟨v, rfl, h5, hk⟩

theorem Ints.two {w : World} {b : Nat} {x y : Int} {T : TypeId} (h : w.heap[b]? = some (.cells #[.int .i64 x, .int .i64 y] T (0, 0))) : Ints w (.slice (some ⟨b, 0, none⟩) 2 2) [x, y] := by
  refine ⟨_, 2, rfl, by unfold maxLen; simp, fun _ => ⟨b, 0, rfl, fun i z hz => ?_⟩⟩
  match i, hz with
  | 0, hz => simp at hz; subst hz; rw [cell_of_blk h]; rfl
  | 1, hz => simp at hz; subst hz; rw [cell_of_blk h]; rfl
theorem Lists.two {w : World} {b c : Nat} {x : Int} {T T' : TypeId} (h : w.heap[b]? = some (.cells #[.slice none 0 0, .slice (some ⟨c, 0, none⟩) 1 1] T (0, 0))) (hc : w.heap[c]? = some (.cells #[.int .i64 x] T' (0, 0))) : Lists w (.slice (some ⟨b, 0, none⟩) 2 2) [[], [x]] := by
  refine ⟨_, 2, rfl, by unfold maxLen; simp, fun _ => ⟨b, 0, rfl, fun i l hl => ?_⟩⟩
  match i, hl with
  | 0, hl => simp at hl; subst hl; exact ⟨.slice none 0 0, by rw [cell_of_blk h]; rfl, Ints.nil _⟩
  | 1, hl => simp at hl; subst hl; exact ⟨.slice (some ⟨c, 0, none⟩) 1 1, by rw [cell_of_blk h]; rfl, Ints.one hc⟩

set_option maxRecDepth 100000 in
set_option maxHeartbeats 2000000 in
theorem spaceExample_any (w : World) : Calls Try.prog 42 #[] w fun e w' => e = .returned (.bool true) ∧ Keeps (fun _ => False) w w' := by
  have KK0 := Lib.hid (Keeps.refl (fun _ => False) w)
  go_enter Try.func42, Try.ntmps42
  go_wp2_with fail
  refine (step_any _).mono ?_; rintro e x1 ⟨vi1, vg1, vo1, rfl, ht, hk⟩
  have HT := Lib.hid ht; have KX1 := Lib.hid (KK0.out.trans hk)
  clear ht hk KK0 
  go_wp2_with fail
  refine (explStep_any _ _ _ _ HT.out).mono ?_; rintro e y1 ⟨v1, rfl, hr, hk⟩
  obtain ⟨a1, c1, hv, _⟩ := hr.form
  subst hv
  have KA := (Keeps.refl (fun _ => False) y1).alloc (.cells #[.int .i64 0, .int .i64 0] 29)
  have KK1 := Lib.hid (KX1.out.trans (hk.trans KA)); have HF1 := Lib.hid (heap_alloc_new y1 (.cells #[.int .i64 0, .int .i64 0] 29)); have HV1 := Lib.hid (hr.keeps0 KA)
  clear hk KA HT KX1  hr
  simp only [fltV]
  go_upto_region 2 with fail
  generalize y1.alloc (.cells #[.int .i64 0, .int .i64 0] 29) = z1 at KK1 HF1 HV1 ⊢
  generalize y1.heap.size = b1 at HF1 ⊢
  go_wp2_with fail
  refine (step_any _).mono ?_; rintro e x2 ⟨vi2, vg2, vo2, rfl, ht, hk⟩
  have HT := Lib.hid ht; have KX2 := Lib.hid (KK1.out.trans hk); have HF1x := Lib.hid ((HF1.out |> fun h => (hk).heap h (fun h => h))); have HV1x := Lib.hid (HV1.out.keeps0 hk)
  clear ht hk KK1 HF1 HV1
  go_wp2_with fail
  refine (distStep_any _ _ _ _ HT.out).mono ?_; rintro e y2 ⟨v2, rfl, hr, hk⟩
  obtain ⟨a2, c2, hv, _⟩ := hr.form
  subst hv
  have KA := (Keeps.refl (fun _ => False) y2).alloc (.cells #[.int .i64 0, .int .i64 0] 29)
  have KK2 := Lib.hid (KX2.out.trans (hk.trans KA)); have HF2 := Lib.hid (heap_alloc_new y2 (.cells #[.int .i64 0, .int .i64 0] 29)); have HV2 := Lib.hid (hr.keeps0 KA); have HF1 := Lib.hid ((HF1x.out |> fun h => ((hk.trans KA)).heap h (fun h => h))); have HV1 := Lib.hid (HV1x.out.keeps0 (hk.trans KA))
  clear hk KA HT KX2 HF1x HV1x hr
  simp only [fltV]
  go_upto_region 3 with fail
  generalize y2.alloc (.cells #[.int .i64 0, .int .i64 0] 29) = z2 at KK2 HF1 HV1 HF2 HV2 ⊢
  generalize y2.heap.size = b2 at HF2 ⊢
  go_wp2_with fail
  refine (step_any _).mono ?_; rintro e x3 ⟨vi3, vg3, vo3, rfl, ht, hk⟩
  have HT := Lib.hid ht; have KX3 := Lib.hid (KK2.out.trans hk); have HF1x := Lib.hid ((HF1.out |> fun h => (hk).heap h (fun h => h))); have HV1x := Lib.hid (HV1.out.keeps0 hk); have HF2x := Lib.hid ((HF2.out |> fun h => (hk).heap h (fun h => h))); have HV2x := Lib.hid (HV2.out.keeps0 hk)
  clear ht hk KK2 HF1 HV1 HF2 HV2
  go_wp2_with fail
  refine (optStep_any _ _ _ _ HT.out).mono ?_; rintro e y3 ⟨rfl, hk⟩
  have KA := (Keeps.refl (fun _ => False) y3).alloc (.cells #[.int .i64 0, .int .i64 0] 29)
  have KK3 := Lib.hid (KX3.out.trans (hk.trans KA)); have HF3 := Lib.hid (heap_alloc_new y3 (.cells #[.int .i64 0, .int .i64 0] 29)); have HF1 := Lib.hid ((HF1x.out |> fun h => ((hk.trans KA)).heap h (fun h => h))); have HV1 := Lib.hid (HV1x.out.keeps0 (hk.trans KA)); have HF2 := Lib.hid ((HF2x.out |> fun h => ((hk.trans KA)).heap h (fun h => h))); have HV2 := Lib.hid (HV2x.out.keeps0 (hk.trans KA))
  clear hk KA HT KX3 HF1x HV1x HF2x HV2x 
  simp only [fltV]
  go_upto_region 4 with fail
  generalize y3.alloc (.cells #[.int .i64 0, .int .i64 0] 29) = z3 at KK3 HF1 HV1 HF2 HV2 HF3 ⊢
  generalize y3.heap.size = b3 at HF3 ⊢
  go_wp2_with fail
  refine (step_any _).mono ?_; rintro e x4 ⟨vi4, vg4, vo4, rfl, ht, hk⟩
  have HT := Lib.hid ht; have KX4 := Lib.hid (KK3.out.trans hk); have HF1x := Lib.hid ((HF1.out |> fun h => (hk).heap h (fun h => h))); have HV1x := Lib.hid (HV1.out.keeps0 hk); have HF2x := Lib.hid ((HF2.out |> fun h => (hk).heap h (fun h => h))); have HV2x := Lib.hid (HV2.out.keeps0 hk); have HF3x := Lib.hid ((HF3.out |> fun h => (hk).heap h (fun h => h)))
  clear ht hk KK3 HF1 HV1 HF2 HV2 HF3
  go_wp2_with fail
  refine (stepsStep_any _ _ _ _ HT.out).mono ?_; rintro e y4 ⟨v4, rfl, hr, hk⟩
  obtain ⟨a4, c4, hv, _⟩ := hr.form
  subst hv
  have KA := (Keeps.refl (fun _ => False) y4).alloc (.cells #[.int .i64 0, .int .i64 0] 29)
  have KK4 := Lib.hid (KX4.out.trans (hk.trans KA)); have HF4 := Lib.hid (heap_alloc_new y4 (.cells #[.int .i64 0, .int .i64 0] 29)); have HV4 := Lib.hid (hr.keeps0 KA); have HF1 := Lib.hid ((HF1x.out |> fun h => ((hk.trans KA)).heap h (fun h => h))); have HV1 := Lib.hid (HV1x.out.keeps0 (hk.trans KA)); have HF2 := Lib.hid ((HF2x.out |> fun h => ((hk.trans KA)).heap h (fun h => h))); have HV2 := Lib.hid (HV2x.out.keeps0 (hk.trans KA)); have HF3 := Lib.hid ((HF3x.out |> fun h => ((hk.trans KA)).heap h (fun h => h)))
  clear hk KA HT KX4 HF1x HV1x HF2x HV2x HF3x hr
  simp only [fltV]
  go_upto_region 5 with fail
  generalize y4.alloc (.cells #[.int .i64 0, .int .i64 0] 29) = z4 at KK4 HF1 HV1 HF2 HV2 HF3 HF4 HV4 ⊢
  generalize y4.heap.size = b4 at HF4 ⊢
  obtain ⟨p1, q1, r1, s1, l1⟩ := pair_cells HF1.out
  clear r1 s1
  obtain ⟨p2, q2, r2, s2, l2⟩ := pair_cells HF2.out
  clear r2 s2
  obtain ⟨p3, q3, r3, s3, l3⟩ := pair_cells HF3.out
  clear r3 s3
  obtain ⟨p4, q4, r4, s4, l4⟩ := pair_cells HF4.out
  clear r4 s4
  have KB := ((Keeps.refl (fun _ => False) z4).alloc (.cells #[.int .i64 0] 3)).alloc (.cells #[.slice none 0 0, .slice (some ⟨z4.heap.size, 0, none⟩) 1 1] 22)
  have HL := Lib.hid (show Lists _ (.slice (some ⟨z4.heap.size + 1, 0, none⟩) 2 2) [[], [0]] from Lists.two (x := 0) (by
    have h := heap_alloc_new (z4.alloc (.cells #[.int .i64 0] 3)) (.cells #[.slice none 0 0, .slice (some ⟨z4.heap.size, 0, none⟩) 1 1] 22)
    rw [World.size_alloc] at h; exact h)
    (((Keeps.refl (fun _ => False) (z4.alloc (.cells #[.int .i64 0] 3))).alloc (.cells #[.slice none 0 0, .slice (some ⟨z4.heap.size, 0, none⟩) 1 1] 22)).heap (heap_alloc_new z4 (.cells #[.int .i64 0] 3)) (fun h => h)))
  go_wp2_with fail
  refine (lists_any _ _ _ [[], [0]] [[], [0]] (HV1.out.keeps0 KB) HL.out).mono ?_; rintro e u1 ⟨rfl, hk⟩
  have K1 := Lib.hid (KK4.out.trans (KB.trans hk)); have G2 := Lib.hid (HV2.out.keeps0 (KB.trans hk)); have G4 := Lib.hid (HV4.out.keeps0 (KB.trans hk))
  clear KB HL hk
  have KC := (Keeps.refl (fun _ => False) u1).alloc (.cells #[.int .i64 3, .int .i64 0] 3)
  have HC := Lib.hid (Ints.two (heap_alloc_new u1 (.cells #[.int .i64 3, .int .i64 0] 3)))
  have e1 : (([[], [0]] : List (List Int)) == [[], [0]]) = true := by decide
  rw [e1]
  go_wp2_with fail
  refine (ints_any _ _ _ [3, 0] [3, 0] (G2.out.keeps0 KC) HC.out).mono ?_; rintro e u2 ⟨rfl, hk⟩
  have K2 := Lib.hid (K1.out.trans (KC.trans hk)); have G5 := Lib.hid (G4.out.keeps0 (KC.trans hk))
  clear KC HC hk
  have KC := (Keeps.refl (fun _ => False) u2).alloc (.cells #[.int .i64 0, .int .i64 1] 3)
  have HC := Lib.hid (Ints.two (heap_alloc_new u2 (.cells #[.int .i64 0, .int .i64 1] 3)))
  have e2 : (([3, 0] : List Int) == [3, 0]) = true := by decide
  rw [e2]
  go_wp2_with fail
  refine (ints_any _ _ _ [0, 1] [0, 1] (G5.out.keeps0 KC) HC.out).mono ?_; rintro e u3 ⟨rfl, hk⟩
  have K3 := Lib.hid (K2.out.trans (KC.trans hk))
  clear KC HC hk
  have e3 : (([0, 1] : List Int) == [0, 1]) = true := by decide
  rw [e3]
  go_wp2_with fail
  go_ret
  exact ⟨rfl, K3.out⟩

end Go.Proofs.Ytcfcmmajlkkabaa

/- space: the law that the functions are the reference's. -/
namespace Go.Proofs.Ytcfcmmajlkkabaa
open Go.RowKit

theorem exp_cases (t : Tsk) : (∃ c i, c ≠ 0 ∧ expF t = (c, i)) ∨ (t.Ok ∧ ∃ l, explored t = some l ∧ expF t = (0, 0)) := by
  unfold expF
  by_cases h : (taskFault t).1 = 0
  · rw [if_pos h]
    cases hx : explored t with
    | none => exact .inl ⟨10, -7, by decide, rfl⟩
    | some l => exact .inr ⟨taskFault_zero.1 h, l, rfl, rfl⟩
  · rw [if_neg h]
    exact .inl ⟨_, _, h, rfl⟩
theorem exp_none {t : Tsk} {c i : Int} (hc : c ≠ 0) (he : expF t = (c, i)) {l : List Nat} (ok : t.Ok) (hx : explored t = some l) : False := by
  unfold expF at he
  rw [if_pos (taskFault_zero.2 ok), hx] at he
  cases he; exact hc rfl

section
variable {w : World} {vi vg vo : Value} {t : Tsk}
theorem explore_bad (h : TaskAt w vi vg vo t) {c i : Int} (hc : c ≠ 0) (he : expF t = (c, i)) :
    Calls Try.prog 43 #[.agg #[.int .i64 t.n, vi, vg, vo]] w fun e w' => e = .returned (.tuple #[.slice none 0 0, fltV c i]) ∧ Keeps (fun _ => False) w w' := by
  refine (explore_any w vi vg vo t h).mono ?_
  rintro e w' ⟨hk, ⟨c', i', _, he', rfl⟩ | ⟨ok, l, ws, v, h1, _⟩⟩
  · rw [he] at he'; cases he'; exact ⟨rfl, hk⟩
  · exact (exp_none hc he ok h1).elim
theorem distances_bad (h : TaskAt w vi vg vo t) {c i : Int} (hc : c ≠ 0) (he : expF t = (c, i)) :
    Calls Try.prog 44 #[.agg #[.int .i64 t.n, vi, vg, vo]] w fun e w' => e = .returned (.tuple #[.slice none 0 0, fltV c i]) ∧ Keeps (fun _ => False) w w' := by
  refine (distances_any w vi vg vo t h).mono ?_
  rintro e w' ⟨hk, ⟨c', i', _, he', rfl⟩ | ⟨ok, l, ws, v, D, h1, _⟩⟩
  · rw [he] at he'; cases he'; exact ⟨rfl, hk⟩
  · exact (exp_none hc he ok h1).elim
theorem optimal_bad (h : TaskAt w vi vg vo t) {c i : Int} (hc : c ≠ 0) (he : expF t = (c, i)) :
    Calls Try.prog 45 #[.agg #[.int .i64 t.n, vi, vg, vo]] w fun e w' => e = .returned (.tuple #[.int .i64 0, fltV c i]) ∧ Keeps (fun _ => False) w w' := by
  refine (optimal_any w vi vg vo t h).mono ?_
  rintro e w' ⟨hk, ⟨c', i', _, he', rfl⟩ | ⟨ok, l, ws, D, h1, _⟩⟩
  · rw [he] at he'; cases he'; exact ⟨rfl, hk⟩
  · exact (exp_none hc he ok h1).elim
theorem spsteps_bad (h : TaskAt w vi vg vo t) {c i : Int} (hc : c ≠ 0) (he : expF t = (c, i)) :
    Calls Try.prog 46 #[.agg #[.int .i64 t.n, vi, vg, vo]] w fun e w' => e = .returned (.tuple #[.slice none 0 0, fltV c i]) ∧ Keeps (fun _ => False) w w' := by
  refine (spsteps_any w vi vg vo t h).mono ?_
  rintro e w' ⟨hk, ⟨c', i', _, he', rfl⟩ | ⟨ok, l, ws, v, j, h1, _⟩⟩
  · rw [he] at he'; cases he'; exact ⟨rfl, hk⟩
  · exact (exp_none hc he ok h1).elim

/-- The sorted states of a task. -/
def WsOf (t : Tsk) (l ws : List Nat) : Prop := ws.Perm l ∧ ws.Pairwise ordW
theorem WsOf.same {l a b : List Nat} (ok : t.Ok) (hx : explored t = some l) (ha : WsOf t l a) (hb : WsOf t l b) : a = b :=
  sorted_same (ha.1.trans hb.1.symm) ha.2 hb.2 (costs_need ok hx ha.1).2.2.2.2.2.1

theorem explore_good (h : TaskAt w vi vg vo t) (ok : t.Ok) {l : List Nat} (hx : explored t = some l) :
    Calls Try.prog 43 #[.agg #[.int .i64 t.n, vi, vg, vo]] w fun e w' => ∃ ws v, WsOf t l ws ∧ e = .returned (.tuple #[v, fltV 0 0]) ∧ Lists w' v (ws.map facts) ∧ Keeps (fun _ => False) w w' := by
  refine (explore_any w vi vg vo t h).mono ?_
  rintro e w' ⟨hk, ⟨c', i', hc, he', rfl⟩ | ⟨_, l', ws, v, h1, h2, h3, rfl, h4⟩⟩
  · exact (exp_none hc he' ok hx).elim
  · rw [hx] at h1; cases h1
    exact ⟨ws, v, ⟨h2, h3⟩, rfl, h4, hk⟩
theorem distances_good (h : TaskAt w vi vg vo t) (ok : t.Ok) {l ws : List Nat} (hx : explored t = some l) (hw : WsOf t l ws) :
    Calls Try.prog 44 #[.agg #[.int .i64 t.n, vi, vg, vo]] w fun e w' => ∃ v D, e = .returned (.tuple #[v, fltV 0 0]) ∧ CostOk (arcs (wordsOf t.ops) ws) (ws.map (goalB (wd t.goal))) (ws.map D) ∧ Ints w' v (ws.map D) ∧ Keeps (fun _ => False) w w' := by
  refine (distances_any w vi vg vo t h).mono ?_
  rintro e w' ⟨hk, ⟨c', i', hc, he', rfl⟩ | ⟨_, l', ws', v, D, h1, h2, h3, h4, rfl, h5⟩⟩
  · exact (exp_none hc he' ok hx).elim
  · rw [hx] at h1; cases h1
    have := WsOf.same ok hx ⟨h2, h3⟩ hw; subst this
    exact ⟨v, D, rfl, h4, h5, hk⟩
theorem optimal_good (h : TaskAt w vi vg vo t) (ok : t.Ok) {l ws : List Nat} (hx : explored t = some l) (hw : WsOf t l ws) :
    Calls Try.prog 45 #[.agg #[.int .i64 t.n, vi, vg, vo]] w fun e w' => ∃ D : Nat → Int, e = .returned (.tuple #[.int .i64 (D (wd t.init)), fltV 0 0]) ∧ CostOk (arcs (wordsOf t.ops) ws) (ws.map (goalB (wd t.goal))) (ws.map D) ∧ Keeps (fun _ => False) w w' := by
  refine (optimal_any w vi vg vo t h).mono ?_
  rintro e w' ⟨hk, ⟨c', i', hc, he', rfl⟩ | ⟨_, l', ws', D, h1, h2, h3, h4, rfl⟩⟩
  · exact (exp_none hc he' ok hx).elim
  · rw [hx] at h1; cases h1
    have := WsOf.same ok hx ⟨h2, h3⟩ hw; subst this
    exact ⟨D, rfl, h4, hk⟩
theorem spsteps_good (h : TaskAt w vi vg vo t) (ok : t.Ok) {l ws : List Nat} (hx : explored t = some l) (hw : WsOf t l ws) :
    Calls Try.prog 46 #[.agg #[.int .i64 t.n, vi, vg, vo]] w fun e w' => ∃ v i, e = .returned (.tuple #[v, fltV 0 0]) ∧ (tree (wordsOf t.ops) (wd t.init) i).length ≤ i ∧ Ints w' v (ws.map (depT (tree (wordsOf t.ops) (wd t.init) i))) ∧ Keeps (fun _ => False) w w' := by
  refine (spsteps_any w vi vg vo t h).mono ?_
  rintro e w' ⟨hk, ⟨c', i', hc, he', rfl⟩ | ⟨_, l', ws', v, i, h1, h2, h3, h4, rfl, h5⟩⟩
  · exact (exp_none hc he' ok hx).elim
  · rw [hx] at h1; cases h1
    have := WsOf.same ok hx ⟨h2, h3⟩ hw; subst this
    exact ⟨v, i, rfl, h4, h5, hk⟩
theorem states_good (h : TaskAt w vi vg vo t) (ok : t.Ok) {l ws : List Nat} (hx : explored t = some l) (hw : WsOf t l ws) :
    Calls Try.prog 47 #[.agg #[.int .i64 t.n, vi, vg, vo]] w fun e w' => ∃ v, e = .returned (.tuple #[v, .bool true]) ∧ Lists w' v (ws.map facts) ∧ Keeps (fun _ => False) w w' := by
  refine (states_any w vi vg vo t h ok l hx).mono ?_
  rintro e w' ⟨hk, L, v, h2, h3, rfl, h4⟩
  have := WsOf.same ok hx ⟨h2, h3⟩ hw; subst this
  exact ⟨v, rfl, h4, hk⟩
end

theorem WsOf.good {t : Tsk} (ok : t.Ok) {l ws : List Nat} (hx : explored t = some l) (hw : WsOf t l ws) : (∀ x ∈ ws, Good t.n x) ∧ (∃ k : Nat, ws[k]? = some (wd t.init) ∧ placeL (ws.map facts) t.init = k) ∧ (∀ x, x ∈ ws ↔ Reach (wordsOf t.ops) (wd t.init) x) ∧ ∀ a ∈ arcs (wordsOf t.ops) ws, a.frm < ws.length ∧ a.to < ws.length ∧ 0 ≤ a.cost ∧ a.cost ≤ 100 := by
  have hn32 : t.n ≤ 32 := by have := ok.n1; omega
  have hr := (reached_some (ops := wordsOf t.ops) (s := wd t.init) (l := l) hx).2.2.2
  have hr2 : ∀ x, x ∈ ws ↔ Reach (wordsOf t.ops) (wd t.init) x := fun x => hw.1.mem_iff.trans (hr x)
  have hg : ∀ x ∈ ws, Good t.n x := fun x h => good_reach ok (good_wd hn32 ok.init) ((hr2 x).1 h)
  refine ⟨hg, ?_, hr2, fun a ha => ?_⟩
  · rcases place_mem hn32 hg ok.init with h | ⟨h, _⟩
    · exact h
    · exact absurd ((hr2 _).2 .refl) h
  · obtain ⟨x, o, h1, h2, h3, h4, h5⟩ := mem_arcs.1 ha
    refine ⟨(List.getElem?_eq_some_iff.1 h1).1, (List.getElem?_eq_some_iff.1 h5).1, ?_⟩
    rw [h4]
    have ho := List.mem_of_getElem? h2
    unfold wordsOf at ho
    obtain ⟨o', ho', rfl⟩ := List.mem_map.1 ho
    exact ⟨(ok.ops o' ho').cost0, (ok.ops o' ho').cost1⟩

end Go.Proofs.Ytcfcmmajlkkabaa

/- space: SpaceFunctionsMatchSpec walked. -/
namespace Go.Proofs.Ytcfcmmajlkkabaa
open Go.RowKit

set_option maxRecDepth 100000 in
set_option maxHeartbeats 1000000 in
theorem spaceLaw_any (w : World) (vi vg vo : Value) (t : Tsk) (h : TaskAt w vi vg vo t) :
    Calls Try.prog 10 #[.agg #[.int .i64 t.n, vi, vg, vo]] w fun e w' => e = .returned (.bool true) ∧ Keeps (fun _ => False) w w' := by
  obtain ⟨ai, ci, h1, _⟩ := h.init.form
  obtain ⟨ag, cg, h2, _⟩ := h.goal.form
  obtain ⟨ao, co, h3, hmo⟩ := h.ops.form
  subst h1 h2 h3
  have HB := Lib.hid (Four.new w (.int .i64 t.n) (.slice ai t.init.length ci) (.slice ag t.goal.length cg) (.slice ao t.ops.length co) 25)
  have K1 := (Keeps.refl (fun _ => False) w).alloc (.cells #[.int .i64 t.n, .slice ai t.init.length ci, .slice ag t.goal.length cg, .slice ao t.ops.length co] 25)
  have HT := Lib.hid (h.keeps0 K1); have HK := Lib.hid K1
  clear h K1
  go_enter Try.func10, Try.ntmps10
  go_upto_region 1 with fail
  generalize (w.alloc (.cells #[.int .i64 t.n, .slice ai t.init.length ci, .slice ag t.goal.length cg, .slice ao t.ops.length co] 25)) = w1 at HB HT HK ⊢
  generalize w.heap.size = bt at HB ⊢
  go_wp2_with fail
  refine (spaceExample_any _).mono ?_; rintro e w2 ⟨rfl, hk⟩
  have HB2 := Lib.hid (HB.out.keeps0 hk); have HT2 := Lib.hid (HT.out.keeps0 hk); have K2 := Lib.hid (HK.out.trans hk)
  have hbx := HB2.out.lt
  obtain ⟨d0, d1, d2, d3⟩ := HB2.out
  clear hk
  go_wp2_with fail
  refine (wide_any _ _ _ _ t HT2.out).mono ?_; rintro e w3 ⟨rfl, hk⟩
  have HB3 := Lib.hid (HB2.out.keeps0 hk); have HT3 := Lib.hid (HT2.out.keeps0 hk); have K3 := Lib.hid (K2.out.trans hk)
  clear d0 d1 d2 d3 hk hbx HB HT HK HB2 HT2 K2
  cases hw : wideB t with
  | true =>
    go_wp2_with fail
    go_ret
    exact ⟨rfl, K3.out⟩
  | false =>
    clear hw
    rcases exp_cases t with ⟨c, i, hc, he⟩ | ⟨hok, l, hx, he⟩
    · have HC := Lib.hid hc; have HE := Lib.hid he
      clear hc he
      have hbx := HB3.out.lt
      obtain ⟨d0, d1, d2, d3⟩ := HB3.out
      go_wp2_with fail
      refine (explore_bad HT3.out HC.out HE.out).mono ?_; rintro e y1 ⟨rfl, hk⟩
      simp only [fltV]
      have KA := (Keeps.refl (fun _ => False) y1).alloc (.cells #[.int .i64 c, .int .i64 i] 29)
      have KB := hk.trans KA
      have HB4 := Lib.hid (HB3.out.keeps0 KB); have HT4 := Lib.hid (HT3.out.keeps0 KB); have K4 := Lib.hid (K3.out.trans KB); have F1 := Lib.hid (heap_alloc_new y1 (.cells #[.int .i64 c, .int .i64 i] 29))
      clear hk KA KB d0 d1 d2 d3 hbx HB3 HT3 K3 
      go_upto_region 6 with fail
      generalize y1.alloc (.cells #[.int .i64 c, .int .i64 i] 29) = z1 at HB4 HT4 K4 F1 ⊢
      generalize y1.heap.size = b1 at F1 ⊢
      have hbx := HB4.out.lt
      obtain ⟨d0, d1, d2, d3⟩ := HB4.out
      go_wp2_with fail
      refine (distances_bad HT4.out HC.out HE.out).mono ?_; rintro e y2 ⟨rfl, hk⟩
      simp only [fltV]
      have KA := (Keeps.refl (fun _ => False) y2).alloc (.cells #[.int .i64 c, .int .i64 i] 29)
      have KB := hk.trans KA
      have HB5 := Lib.hid (HB4.out.keeps0 KB); have HT5 := Lib.hid (HT4.out.keeps0 KB); have K5 := Lib.hid (K4.out.trans KB); have F2 := Lib.hid (heap_alloc_new y2 (.cells #[.int .i64 c, .int .i64 i] 29)); have F1' := Lib.hid (KB.heap F1.out (fun h => h))
      clear hk KA KB d0 d1 d2 d3 hbx HB4 HT4 K4 F1
      have F1 := F1'
      clear F1'
      go_upto_region 7 with fail
      generalize y2.alloc (.cells #[.int .i64 c, .int .i64 i] 29) = z2 at HB5 HT5 K5 F1 F2 ⊢
      generalize y2.heap.size = b2 at F2 ⊢
      have hbx := HB5.out.lt
      obtain ⟨d0, d1, d2, d3⟩ := HB5.out
      go_wp2_with fail
      refine (optimal_bad HT5.out HC.out HE.out).mono ?_; rintro e y3 ⟨rfl, hk⟩
      simp only [fltV]
      have KA := (Keeps.refl (fun _ => False) y3).alloc (.cells #[.int .i64 c, .int .i64 i] 29)
      have KB := hk.trans KA
      have HB6 := Lib.hid (HB5.out.keeps0 KB); have HT6 := Lib.hid (HT5.out.keeps0 KB); have K6 := Lib.hid (K5.out.trans KB); have F3 := Lib.hid (heap_alloc_new y3 (.cells #[.int .i64 c, .int .i64 i] 29)); have F1' := Lib.hid (KB.heap F1.out (fun h => h)); have F2' := Lib.hid (KB.heap F2.out (fun h => h))
      clear hk KA KB d0 d1 d2 d3 hbx HB5 HT5 K5 F1 F2
      have F1 := F1'
      have F2 := F2'
      clear F1' F2'
      go_upto_region 8 with fail
      generalize y3.alloc (.cells #[.int .i64 c, .int .i64 i] 29) = z3 at HB6 HT6 K6 F1 F2 F3 ⊢
      generalize y3.heap.size = b3 at F3 ⊢
      have hbx := HB6.out.lt
      obtain ⟨d0, d1, d2, d3⟩ := HB6.out
      go_wp2_with fail
      refine (spsteps_bad HT6.out HC.out HE.out).mono ?_; rintro e y4 ⟨rfl, hk⟩
      simp only [fltV]
      have KA := (Keeps.refl (fun _ => False) y4).alloc (.cells #[.int .i64 c, .int .i64 i] 29)
      have KB := hk.trans KA
      have HB7 := Lib.hid (HB6.out.keeps0 KB); have HT7 := Lib.hid (HT6.out.keeps0 KB); have K7 := Lib.hid (K6.out.trans KB); have F4 := Lib.hid (heap_alloc_new y4 (.cells #[.int .i64 c, .int .i64 i] 29)); have F1' := Lib.hid (KB.heap F1.out (fun h => h)); have F2' := Lib.hid (KB.heap F2.out (fun h => h)); have F3' := Lib.hid (KB.heap F3.out (fun h => h))
      clear hk KA KB d0 d1 d2 d3 hbx HB6 HT6 K6 F1 F2 F3
      have F1 := F1'
      have F2 := F2'
      have F3 := F3'
      clear F1' F2' F3'
      go_upto_region 9 with fail
      generalize y4.alloc (.cells #[.int .i64 c, .int .i64 i] 29) = z4 at HB7 HT7 K7 F1 F2 F3 F4 ⊢
      generalize y4.heap.size = b4 at F4 ⊢
      have hbx := HB7.out.lt
      obtain ⟨d0, d1, d2, d3⟩ := HB7.out
      go_wp2_with fail
      refine (explored_any _ _ _ _ t HT7.out).mono ?_; rintro e y5 ⟨rfl, hk⟩
      rw [HE.out]
      have KA := (Keeps.refl (fun _ => False) y5).alloc (.cells #[.int .i64 c, .int .i64 i] 29)
      have KB := hk.trans KA
      have HB8 := Lib.hid (HB7.out.keeps0 KB); have HT8 := Lib.hid (HT7.out.keeps0 KB); have K8 := Lib.hid (K7.out.trans KB); have F5 := Lib.hid (heap_alloc_new y5 (.cells #[.int .i64 c, .int .i64 i] 29)); have F1' := Lib.hid (KB.heap F1.out (fun h => h)); have F2' := Lib.hid (KB.heap F2.out (fun h => h)); have F3' := Lib.hid (KB.heap F3.out (fun h => h)); have F4' := Lib.hid (KB.heap F4.out (fun h => h))
      clear hk KA KB d0 d1 d2 d3 hbx HB7 HT7 K7 F1 F2 F3 F4
      have F1 := F1'
      have F2 := F2'
      have F3 := F3'
      have F4 := F4'
      clear F1' F2' F3' F4'
      go_upto_region 10 with fail
      generalize y5.alloc (.cells #[.int .i64 c, .int .i64 i] 29) = z5 at HB8 HT8 K8 F1 F2 F3 F4 F5 ⊢
      generalize y5.heap.size = b5 at F5 ⊢
      obtain ⟨p1, q1, r1, s1, l1⟩ := pair_cells F1.out
      clear r1 s1
      obtain ⟨p2, q2, r2, s2, l2⟩ := pair_cells F2.out
      clear r2 s2
      obtain ⟨p3, q3, r3, s3, l3⟩ := pair_cells F3.out
      clear r3 s3
      obtain ⟨p4, q4, r4, s4, l4⟩ := pair_cells F4.out
      clear r4 s4
      obtain ⟨p5, q5, r5, s5, l5⟩ := pair_cells F5.out
      clear r5 s5
      have hc3 : (c != 0) = true := by simpa using HC.out
      go_wp2_with fail
      go_ret
      exact ⟨rfl, K8.out⟩
    · have OK := Lib.hid hok; have HX := Lib.hid hx; have HE := Lib.hid he
      clear hok hx he
      have hbx := HB3.out.lt
      obtain ⟨d0, d1, d2, d3⟩ := HB3.out
      go_wp2_with fail
      refine (explore_good HT3.out OK.out HX.out).mono ?_; rintro e y1 ⟨ws, v1, hws, rfl, hr, hk⟩
      have WS := Lib.hid hws
      clear hws
      obtain ⟨a1, c1, hv, _⟩ := hr.form
      rw [List.length_map] at hv
      subst hv
      simp only [fltV]
      have KA := (Keeps.refl (fun _ => False) y1).alloc (.cells #[.int .i64 0, .int .i64 0] 29)
      have KB := hk.trans KA
      have HB4 := Lib.hid (HB3.out.keeps0 KB); have HT4 := Lib.hid (HT3.out.keeps0 KB); have K4 := Lib.hid (K3.out.trans KB); have F1 := Lib.hid (heap_alloc_new y1 (.cells #[.int .i64 0, .int .i64 0] 29)); have V1 := Lib.hid (hr.keeps0 KA)
      clear hk KA KB d0 d1 d2 d3 hbx HB3 HT3 K3  hr
      go_upto_region 6 with fail
      generalize y1.alloc (.cells #[.int .i64 0, .int .i64 0] 29) = z1 at HB4 HT4 K4 F1 V1 ⊢
      generalize y1.heap.size = b1 at F1 ⊢
      have hbx := HB4.out.lt
      obtain ⟨d0, d1, d2, d3⟩ := HB4.out
      go_wp2_with fail
      refine (distances_good HT4.out OK.out HX.out WS.out).mono ?_; rintro e y2 ⟨v2, D, rfl, hd, hr, hk⟩
      have HD := Lib.hid hd
      clear hd
      obtain ⟨a2, c2, hv, _⟩ := hr.form
      rw [List.length_map] at hv
      subst hv
      simp only [fltV]
      have KA := (Keeps.refl (fun _ => False) y2).alloc (.cells #[.int .i64 0, .int .i64 0] 29)
      have KB := hk.trans KA
      have HB5 := Lib.hid (HB4.out.keeps0 KB); have HT5 := Lib.hid (HT4.out.keeps0 KB); have K5 := Lib.hid (K4.out.trans KB); have F2 := Lib.hid (heap_alloc_new y2 (.cells #[.int .i64 0, .int .i64 0] 29)); have F1' := Lib.hid (KB.heap F1.out (fun h => h)); have V1' := Lib.hid (V1.out.keeps0 KB); have V2 := Lib.hid (hr.keeps0 KA)
      clear hk KA KB d0 d1 d2 d3 hbx HB4 HT4 K4 F1 V1 hr
      have F1 := F1'
      have V1 := V1'
      clear F1' V1'
      go_upto_region 7 with fail
      generalize y2.alloc (.cells #[.int .i64 0, .int .i64 0] 29) = z2 at HB5 HT5 K5 F1 V1 F2 V2 ⊢
      generalize y2.heap.size = b2 at F2 ⊢
      have hbx := HB5.out.lt
      obtain ⟨d0, d1, d2, d3⟩ := HB5.out
      go_wp2_with fail
      refine (optimal_good HT5.out OK.out HX.out WS.out).mono ?_; rintro e y3 ⟨D2, rfl, hd, hk⟩
      have HD2 := Lib.hid hd
      clear hd
      simp only [fltV]
      have KA := (Keeps.refl (fun _ => False) y3).alloc (.cells #[.int .i64 0, .int .i64 0] 29)
      have KB := hk.trans KA
      have HB6 := Lib.hid (HB5.out.keeps0 KB); have HT6 := Lib.hid (HT5.out.keeps0 KB); have K6 := Lib.hid (K5.out.trans KB); have F3 := Lib.hid (heap_alloc_new y3 (.cells #[.int .i64 0, .int .i64 0] 29)); have F1' := Lib.hid (KB.heap F1.out (fun h => h)); have V1' := Lib.hid (V1.out.keeps0 KB); have F2' := Lib.hid (KB.heap F2.out (fun h => h)); have V2' := Lib.hid (V2.out.keeps0 KB)
      clear hk KA KB d0 d1 d2 d3 hbx HB5 HT5 K5 F1 V1 F2 V2
      have F1 := F1'
      have V1 := V1'
      have F2 := F2'
      have V2 := V2'
      clear F1' V1' F2' V2'
      go_upto_region 8 with fail
      generalize y3.alloc (.cells #[.int .i64 0, .int .i64 0] 29) = z3 at HB6 HT6 K6 F1 V1 F2 V2 F3 ⊢
      generalize y3.heap.size = b3 at F3 ⊢
      have hbx := HB6.out.lt
      obtain ⟨d0, d1, d2, d3⟩ := HB6.out
      go_wp2_with fail
      refine (spsteps_good HT6.out OK.out HX.out WS.out).mono ?_; rintro e y4 ⟨v4, j, rfl, hd, hr, hk⟩
      have HJ := Lib.hid hd
      clear hd
      obtain ⟨a4, c4, hv, _⟩ := hr.form
      rw [List.length_map] at hv
      subst hv
      simp only [fltV]
      have KA := (Keeps.refl (fun _ => False) y4).alloc (.cells #[.int .i64 0, .int .i64 0] 29)
      have KB := hk.trans KA
      have HB7 := Lib.hid (HB6.out.keeps0 KB); have HT7 := Lib.hid (HT6.out.keeps0 KB); have K7 := Lib.hid (K6.out.trans KB); have F4 := Lib.hid (heap_alloc_new y4 (.cells #[.int .i64 0, .int .i64 0] 29)); have F1' := Lib.hid (KB.heap F1.out (fun h => h)); have V1' := Lib.hid (V1.out.keeps0 KB); have F2' := Lib.hid (KB.heap F2.out (fun h => h)); have V2' := Lib.hid (V2.out.keeps0 KB); have F3' := Lib.hid (KB.heap F3.out (fun h => h)); have V4 := Lib.hid (hr.keeps0 KA)
      clear hk KA KB d0 d1 d2 d3 hbx HB6 HT6 K6 F1 V1 F2 V2 F3 hr
      have F1 := F1'
      have V1 := V1'
      have F2 := F2'
      have V2 := V2'
      have F3 := F3'
      clear F1' V1' F2' V2' F3'
      go_upto_region 9 with fail
      generalize y4.alloc (.cells #[.int .i64 0, .int .i64 0] 29) = z4 at HB7 HT7 K7 F1 V1 F2 V2 F3 F4 V4 ⊢
      generalize y4.heap.size = b4 at F4 ⊢
      have hbx := HB7.out.lt
      obtain ⟨d0, d1, d2, d3⟩ := HB7.out
      go_wp2_with fail
      refine (explored_any _ _ _ _ t HT7.out).mono ?_; rintro e y5 ⟨rfl, hk⟩
      rw [HE.out]
      have KA := (Keeps.refl (fun _ => False) y5).alloc (.cells #[.int .i64 0, .int .i64 0] 29)
      have KB := hk.trans KA
      have HB8 := Lib.hid (HB7.out.keeps0 KB); have HT8 := Lib.hid (HT7.out.keeps0 KB); have K8 := Lib.hid (K7.out.trans KB); have F5 := Lib.hid (heap_alloc_new y5 (.cells #[.int .i64 0, .int .i64 0] 29)); have F1' := Lib.hid (KB.heap F1.out (fun h => h)); have V1' := Lib.hid (V1.out.keeps0 KB); have F2' := Lib.hid (KB.heap F2.out (fun h => h)); have V2' := Lib.hid (V2.out.keeps0 KB); have F3' := Lib.hid (KB.heap F3.out (fun h => h)); have F4' := Lib.hid (KB.heap F4.out (fun h => h)); have V4' := Lib.hid (V4.out.keeps0 KB)
      clear hk KA KB d0 d1 d2 d3 hbx HB7 HT7 K7 F1 V1 F2 V2 F3 F4 V4
      have F1 := F1'
      have V1 := V1'
      have F2 := F2'
      have V2 := V2'
      have F3 := F3'
      have F4 := F4'
      have V4 := V4'
      clear F1' V1' F2' V2' F3' F4' V4'
      go_upto_region 10 with fail
      generalize y5.alloc (.cells #[.int .i64 0, .int .i64 0] 29) = z5 at HB8 HT8 K8 F1 V1 F2 V2 F3 F4 V4 F5 ⊢
      generalize y5.heap.size = b5 at F5 ⊢
      obtain ⟨p1, q1, r1, s1, l1⟩ := pair_cells F1.out
      clear r1 s1
      obtain ⟨p2, q2, r2, s2, l2⟩ := pair_cells F2.out
      clear r2 s2
      obtain ⟨p3, q3, r3, s3, l3⟩ := pair_cells F3.out
      clear r3 s3
      obtain ⟨p4, q4, r4, s4, l4⟩ := pair_cells F4.out
      clear r4 s4
      obtain ⟨p5, q5, r5, s5, l5⟩ := pair_cells F5.out
      clear r5 s5
      have hbx := HB8.out.lt
      obtain ⟨d0, d1, d2, d3⟩ := HB8.out
      go_wp2_with fail
      refine (states_good HT8.out OK.out HX.out WS.out).mono ?_; rintro e u1 ⟨v6, rfl, hl, hk⟩
      obtain ⟨a6, c6, hv, _⟩ := hl.form
      rw [List.length_map] at hv
      subst hv
      have HL := Lib.hid hl; have HB9 := Lib.hid (HB8.out.keeps0 hk); have HT9 := Lib.hid (HT8.out.keeps0 hk); have K9 := Lib.hid (K8.out.trans hk); have V1a := Lib.hid (V1.out.keeps0 hk); have V2a := Lib.hid (V2.out.keeps0 hk); have V4a := Lib.hid (V4.out.keeps0 hk)
      clear hl hk d0 d1 d2 d3 hbx HB8 HT8 K8 V1 V2 V4 p1 q1 l1 p2 q2 l2 p3 q3 l3 p4 q4 l4 p5 q5 l5 F1 F2 F3 F4 F5
      obtain ⟨hgd, ⟨st, hst, hpl⟩, hrc, har⟩ := WS.out.good OK.out HX.out
      have HGD := Lib.hid hgd; have HSTT := Lib.hid hst; have HPL := Lib.hid hpl; have HRC := Lib.hid hrc; have HAR := Lib.hid har
      have hstl : st < ws.length := (List.getElem?_eq_some_iff.1 hst).1
      have hfew : ws.length ≤ 2000 := (costs_need OK.out HX.out WS.out.1).2.2.2.2.1
      clear hgd hst hpl hrc har
      have hbx := HB9.out.lt
      obtain ⟨d0, d1, d2, d3⟩ := HB9.out
      go_wp2_with fail
      refine (place_any _ _ _ _ t.init HL.out HT9.out.init).mono ?_; rintro e u2 ⟨rfl, hk⟩
      rw [HPL.out]
      have HLb := Lib.hid (HL.out.keeps0 hk); have HBb := Lib.hid (HB9.out.keeps0 hk); have HTb := Lib.hid (HT9.out.keeps0 hk); have Kb := Lib.hid (K9.out.trans hk); have V1b := Lib.hid (V1a.out.keeps0 hk); have V2b := Lib.hid (V2a.out.keeps0 hk); have V4b := Lib.hid (V4a.out.keeps0 hk)
      clear hk d0 d1 d2 d3 hbx HB9 HT9 K9 V1a V2a V4a HL
      have hbx := HBb.out.lt
      obtain ⟨d0, d1, d2, d3⟩ := HBb.out
      go_wp2_with fail
      refine (rcosts_any _ _ _ _ _ t ws HTb.out OK.out HLb.out HGD.out hfew (by omega)).mono ?_; rintro e u3 ⟨vc, dc, rfl, hco, hown, hk⟩
      rw [goals_eq OK.out HGD.out] at hco
      have hlen : dc.length = ws.length := by rw [hco.len, List.length_map]
      rw [List.length_map, ← hlen] at hown
      have hcost0 : ∀ a ∈ arcs (wordsOf t.ops) ws, 0 ≤ a.cost := fun a ha => (HAR.out a ha).2.2.1
      have hdd : ws.map D = dc := HD.out.unique hco hcost0
      have hd2 : ws.map D2 = dc := HD2.out.unique hco hcost0
      have hdst : dc[st]? = some (D2 (wd t.init)) := by rw [← hd2, List.getElem?_map, HSTT.out]; rfl
      have HOC := Lib.hid (Ints.of_own hown)
      obtain ⟨ac, cc, hv⟩ := ownsRow_form1 hown
      rw [hlen] at hv
      subst hv
      have HDC := Lib.hid (show Ints u3 (.slice ac ws.length cc) dc by have h := HOC.out; exact h)
      have hcd := HDC.out.cell (show Value.slice ac ws.length cc = .slice ac dc.length cc by rw [hlen])
      obtain ⟨bc, oc, hac, hcd2⟩ := hcd (by omega)
      subst hac
      have hcell := hcd2 st _ hdst
      have HDD := Lib.hid hdd; have HDS := Lib.hid hdst; have HLN := Lib.hid hlen
      have HLc := Lib.hid (HLb.out.keeps0 hk); have HBc := Lib.hid (HBb.out.keeps0 hk); have HTc := Lib.hid (HTb.out.keeps0 hk); have Kc := Lib.hid (Kb.out.trans hk); have V1c := Lib.hid (V1b.out.keeps0 hk); have V2c := Lib.hid (V2b.out.keeps0 hk); have V4c := Lib.hid (V4b.out.keeps0 hk)
      clear hk d0 d1 d2 d3 hbx HBb HTb Kb V1b V2b V4b HLb hco hown hcost0 hdd hd2 hdst hcd hcd2 HOC hlen
      go_wp2_with fail
      refine (lists_any _ _ _ (ws.map facts) (ws.map facts) V1c.out HLc.out).mono ?_; rintro e u4 ⟨rfl, hk⟩
      rw [beq_self_eq_true]
      have hcell4 := hk.cell hcell (fun h => h)
      have HLd := Lib.hid (HLc.out.keeps0 hk); have HBd := Lib.hid (HBc.out.keeps0 hk); have HTd := Lib.hid (HTc.out.keeps0 hk); have Kd := Lib.hid (Kc.out.trans hk); have V2d := Lib.hid (V2c.out.keeps0 hk); have V4d := Lib.hid (V4c.out.keeps0 hk); have HDd := Lib.hid (HDC.out.keeps0 hk)
      clear hk hcell HBc HTc Kc V1c V2c V4c HLc HDC
      go_wp2_with fail
      refine (ints_any _ _ _ (ws.map D) dc V2d.out HDd.out).mono ?_; rintro e u5 ⟨rfl, hk⟩
      rw [HDD.out, beq_self_eq_true]
      have hcell5 := hk.cell hcell4 (fun h => h)
      have HLe := Lib.hid (HLd.out.keeps0 hk); have HBe := Lib.hid (HBd.out.keeps0 hk); have HTe := Lib.hid (HTd.out.keeps0 hk); have Ke := Lib.hid (Kd.out.trans hk); have V4e := Lib.hid (V4d.out.keeps0 hk)
      clear hk hcell4 HBd HTd Kd V2d V4d HLd HDd
      have hbx := HBe.out.lt
      obtain ⟨d0, d1, d2, d3⟩ := HBe.out
      have q1 : (st : Int) < (ws.length : Int) := by omega
      have q2 : (0 : Int) ≤ (st : Int) := by omega
      go_wp2_with fail
      refine (arcs_any _ _ _ _ _ t ws HTe.out OK.out HLe.out HGD.out hfew).mono ?_; rintro e u6 ⟨va, rfl, hoa, hk⟩
      obtain ⟨aa, ca, haa⟩ := ownsRow_formS hoa
      subst haa
      have HA6 := Lib.hid hoa.at
      have HLf := Lib.hid (HLe.out.keeps0 hk); have Kf := Lib.hid (Ke.out.trans hk); have V4f := Lib.hid (V4e.out.keeps0 hk)
      clear hk hoa d0 d1 d2 d3 hbx HBe HTe Ke V4e HLe hcell5
      go_wp2_with fail
      refine (prices_any _ _ _ (ws.map facts) (arcs (wordsOf t.ops) ws) st 0 1 HLf.out HA6.out (by rw [List.length_map]; omega) (by rw [List.length_map]; exact hstl) (by rw [List.length_map]; exact HAR.out) (by decide) (by decide) (by decide) (by decide)).mono ?_; rintro e u7 ⟨vp, dp, rfl, hpo, hown, hk⟩
      rw [List.length_map] at hpo hown
      have hdep := dep_ok (costs_need OK.out HX.out WS.out.1).2.2.2.1 HRC.out HSTT.out HJ.out (wt := fun a => 0 * a.cost + 1) (fun a => by omega)
      have hpe := hdep.unique hpo (fun a ha => by omega)
      have HPE := Lib.hid hpe
      have hpl : dp.length = ws.length := hpo.len
      rw [← hpl] at hown
      have HP7 := Lib.hid (Ints.of_own hown)
      obtain ⟨ap, cp, hv⟩ := ownsRow_form1 hown
      rw [hpl] at hv
      subst hv
      have Kg := Lib.hid (Kf.out.trans hk); have V4g := Lib.hid (V4f.out.keeps0 hk)
      clear hk hown hpo hdep hpe V4f Kf HLf HA6
      go_wp2_with fail
      refine (ints_any _ _ _ _ dp V4g.out HP7.out).mono ?_; rintro e u8 ⟨rfl, hk⟩
      rw [HPE.out, beq_self_eq_true]
      have Kh := Lib.hid (Kg.out.trans hk)
      go_wp2_with fail
      go_ret
      exact ⟨rfl, Kh.out⟩

end Go.Proofs.Ytcfcmmajlkkabaa
