/- noResult, isOne, StateFault of the reference. -/
import Derived.Test.YtcfcmmajlkkabaaResult
import Derived.Test.YtcfcmmajlkkabaaLists
import Derived.Test.YtcfcmmajlkkabaaSmall
import Derived.Test.YtcfcmmajlkkabaaStateW
import Derived.Test.YtcfcmmajlkkabaaExB
namespace Go.Proofs.Ytcfcmmajlkkabaa
open Go.RowKit

def noResB (f : Bool) (m : Nat) (c n : Int) : Bool := !f && (m == 0) && (c == 0) && (n == 0)

set_option maxRecDepth 100000 in
set_option maxHeartbeats 1000000 in
theorem noResult_any (w : World) (f : Bool) (ao : Option Addr) (m cap : Nat) (c n : Int) (hm : m ≤ 9223372036854775807) :
    Calls Try.prog 35 #[resV f (.slice ao m cap) c n] w fun e w' => e = .returned (.bool (noResB f m c n)) ∧ Keeps (fun _ => False) w w' := by
  have HK := Lib.hid ((Keeps.refl (fun _ => False) w).alloc (.cells #[.bool f, .slice ao m cap, .int .i64 c, .int .i64 n] 52))
  have HX := heap_alloc_new w (.cells #[.bool f, .slice ao m cap, .int .i64 c, .int .i64 n] 52)
  have HE : Hid (noResB f m c n = (!f && (m == 0) && (c == 0) && (n == 0))) := rfl
  unfold resV
  go_enter Try.func35, Try.ntmps35
  go_upto_region 1 with fail
  generalize w.alloc (.cells #[.bool f, .slice ao m cap, .int .i64 c, .int .i64 n] 52) = w1 at HX HK ⊢
  have s0 : w1.cell? ⟨w.heap.size, 0, none⟩ = some (.bool f) := by rw [cell_of_blk HX]; rfl
  have s1 : w1.cell? ⟨w.heap.size, 1, none⟩ = some (.slice ao m cap) := by rw [cell_of_blk HX]; rfl
  have s2 : w1.cell? ⟨w.heap.size, 2, none⟩ = some (.int .i64 c) := by rw [cell_of_blk HX]; rfl
  have s3 : w1.cell? ⟨w.heap.size, 3, none⟩ = some (.int .i64 n) := by rw [cell_of_blk HX]; rfl
  have hl := lt_of_heap HX
  clear HX
  cases f with
  | true =>
    go_wp2_with fail
    go_ret
    exact ⟨congrArg (fun b => Ending.returned (Value.bool b)) (show false = noResB true m c n by rw [HE.out]; rfl), HK.out⟩
  | false =>
    by_cases h1 : m = 0
    · subst h1
      cases h2 : (c == 0) with
      | true =>
        go_wp2_with fail
        go_ret
        exact ⟨congrArg (fun b => Ending.returned (Value.bool b)) (show (n == 0) = noResB false 0 c n by rw [HE.out, h2]; rfl), HK.out⟩
      | false =>
        go_wp2_with fail
        go_ret
        exact ⟨congrArg (fun b => Ending.returned (Value.bool b)) (show false = noResB false 0 c n by rw [HE.out, h2]; rfl), HK.out⟩
    · have h2 : ((m : Int) == 0) = false := by simp; omega
      go_wp2_with fail
      go_ret
      exact ⟨congrArg (fun b => Ending.returned (Value.bool b)) (show false = noResB false m c n by rw [HE.out]; simp [h1]), HK.out⟩

/-! ### StateFault of the reference -/
set_option maxRecDepth 100000 in
set_option maxHeartbeats 2000000 in
theorem rStateFault_any (w : World) (vi vg vo vs : Value) (t : Tsk) (s : List Int) (h : TaskAt w vi vg vo t) (hs : Ints w vs s) :
    Calls Try.prog 40 #[.agg #[.int .i64 t.n, vi, vg, vo], vs] w fun e w' => e = .returned (fltV (stateFault t s).1 (stateFault t s).2) ∧ Keeps (fun _ => False) w w' := by
  obtain ⟨ai, ci, h1, _⟩ := h.init.form
  obtain ⟨ag, cg, h2, _⟩ := h.goal.form
  obtain ⟨ao, co, h3, hmo⟩ := h.ops.form
  obtain ⟨aa, cs, h4, _⟩ := hs.form
  subst h1 h2 h3 h4
  have K1 := (Keeps.refl (fun _ => False) w).alloc (.cells #[.int .i64 t.n, .slice ai t.init.length ci, .slice ag t.goal.length cg, .slice ao t.ops.length co] 25)
  have HT := h.keeps0 (K1.alloc (.cells #[.int .i64 0, .int .i64 0] 29))
  have HSS : Ints _ (.slice aa s.length cs) s := hs.keeps0 (K1.alloc (.cells #[.int .i64 0, .int .i64 0] 29))
  have HB := (Four.new w (.int .i64 t.n) (.slice ai t.init.length ci) (.slice ag t.goal.length cg) (.slice ao t.ops.length co) 25).keeps0 ((Keeps.refl _ _).alloc (.cells #[.int .i64 0, .int .i64 0] 29))
  have HF : Flt w ((w.alloc (.cells #[.int .i64 t.n, .slice ai t.init.length ci, .slice ag t.goal.length cg, .slice ao t.ops.length co] 25)).alloc (.cells #[.int .i64 0, .int .i64 0] 29)) (w.heap.size + 1) 29 :=
    ⟨by have := heap_alloc_new (w.alloc (.cells #[.int .i64 t.n, .slice ai t.init.length ci, .slice ag t.goal.length cg, .slice ao t.ops.length co] 25)) (.cells #[.int .i64 0, .int .i64 0] 29); rwa [World.size_alloc] at this, by omega, K1.alloc _⟩
  replace HT := Lib.hid HT; replace HB := Lib.hid HB; replace HF := Lib.hid HF; replace HSS := Lib.hid HSS
  clear h K1 hs
  go_enter Try.func40, Try.ntmps40
  go_upto_region 1 with fail
  generalize ((w.alloc (.cells #[.int .i64 t.n, .slice ai t.init.length ci, .slice ag t.goal.length cg, .slice ao t.ops.length co] 25)).alloc (.cells #[.int .i64 0, .int .i64 0] 29)) = w1 at HT HB HF HSS ⊢
  have hbx := HB.out.lt
  obtain ⟨d0, d1, d2, d3⟩ := HB.out
  go_wp2_with fail
  refine (taskFault_any _ _ _ _ t HT.out).mono ?_; rintro e w2 ⟨rfl, hk⟩
  have HF2 := Lib.hid (HF.out.keeps0 hk)
  have HB2 := Lib.hid (HB.out.keeps0 hk)
  have HT2 := Lib.hid (HT.out.keeps0 hk)
  have HS2 := Lib.hid (show Ints w2 (.slice aa s.length cs) s from HSS.out.keeps0 hk)
  have hbx2 := HB2.out.lt
  have hlt3 := HF2.out.cells.2.2.2.2
  clear d0 d1 d2 d3 hk hbx
  generalize hfe : taskFault t = f
  have HFE := Lib.hid hfe
  have KA := (Keeps.refl (fun _ => False) w2).alloc (.cells #[.int .i64 f.1, .int .i64 f.2] 29)
  have HF3 := Lib.hid (HF2.out.keeps0 KA); have HB3 := Lib.hid (HB2.out.keeps0 KA); have HT3 := Lib.hid (HT2.out.keeps0 KA); have HS3 := Lib.hid (show Ints _ (.slice aa s.length cs) s from HS2.out.keeps0 KA)
  have H3 := Lib.hid (heap_alloc_new w2 (.cells #[.int .i64 f.1, .int .i64 f.2] 29))
  clear KA hfe
  go_upto_region 2 with fail
  generalize w2.alloc (.cells #[.int .i64 f.1, .int .i64 f.2] 29) = w3 at HF3 HB3 HT3 H3 HS3 ⊢
  generalize w2.heap.size = b3 at hlt3 hbx2 H3 ⊢
  obtain ⟨p0, p1, z0, z1, hl3⟩ := pair_cells H3.out
  obtain ⟨e0, e1, y0, y1, hF⟩ := HF3.out.cells
  by_cases hc : f.1 = 0
  · have hok : t.Ok := taskFault_zero.1 (by rw [HFE.out]; exact hc)
    have hft : f = (0, 0) := by rw [← HFE.out]; exact taskFault_ok hok
    subst hft
    have OK := Lib.hid hok
    obtain ⟨d0, d1, d2, d3⟩ := HB3.out
    have hbx3 := HB3.out.lt
    clear hc hok
    go_wp2_with fail
    refine (stateOk_any _ _ _ _ _ t s HT3.out HS3.out OK.out.n0 (by have := OK.out.n1; omega)).mono ?_; rintro e w4 ⟨rfl, hk⟩
    have H4 := Lib.hid (hk.heap H3.out (fun h => h))
    have HF4 := Lib.hid (HF3.out.keeps0 hk)
    clear p0 p1 z0 z1 e0 e1 y0 y1 d0 d1 d2 d3 hk hl3 hF hbx3
    cases hset : isSetB s t.n with
    | false =>
      have HP := Lib.hid (show stateFault t s = (5, -4) by unfold stateFault; rw [HFE.out, if_pos rfl, hset]; rfl)
      clear hset
      go_wp2_with fail
      refine (at_any _ _ _).mono ?_; rintro e w5 ⟨rfl, hk⟩
      have H5 := Lib.hid (hk.heap H4.out (fun h => h))
      have HF5 := Lib.hid (HF4.out.keeps0 hk)
      obtain ⟨p0, p1, z0, z1, hl3⟩ := pair_cells H5.out
      have H6 := Lib.hid (pair_set H5.out (.int .i64 5) (.int .i64 (-4)))
      have HF6 := Lib.hid (HF5.out.keepsS (keeps_pair (w := w5) b3 (.int .i64 5) (.int .i64 (-4))) (by omega) (fun i hi => by omega))
      clear hk
      go_upto_region 4 with fail
      generalize (w5.setCell ⟨b3, 0, none⟩ (.int .i64 5)).setCell ⟨b3, 1, none⟩ (.int .i64 (-4)) = w6 at H6 HF6 ⊢
      clear p0 p1 z0 z1 hl3
      obtain ⟨p0, p1, z0, z1, hl3⟩ := pair_cells H6.out
      obtain ⟨e0, e1, y0, y1, hF⟩ := HF6.out.cells
      go_wp2_with fail
      refine bodyPost_ret (results_cell_row rfl _ _ (w.heap.size + 1) 29 _ (0, 0) _ rfl (HF6.out.set (.int .i64 5) (.int .i64 (-4))).1 Try.underlying29 rfl (by kernel_rfl)) rfl ?_
      exact ⟨by rw [HP.out]; rfl, (HF6.out.set _ _).2⟩
    | true =>
      have HP := Lib.hid (show stateFault t s = (0, 0) by unfold stateFault; rw [HFE.out, if_pos rfl, hset]; rfl)
      clear hset
      obtain ⟨p0, p1, z0, z1, hl3⟩ := pair_cells H4.out
      obtain ⟨e0, e1, y0, y1, hF⟩ := HF4.out.cells
      go_wp2_with fail
      refine bodyPost_ret (results_cell_row rfl _ _ (w.heap.size + 1) 29 _ (0, 0) _ rfl (HF4.out.set (.int .i64 0) (.int .i64 0)).1 Try.underlying29 rfl (by kernel_rfl)) rfl ?_
      exact ⟨by rw [HP.out]; rfl, (HF4.out.set _ _).2⟩
  · have HP := Lib.hid (show stateFault t s = f by unfold stateFault; rw [HFE.out, if_neg hc])
    have hc2 : (f.1 == 0) = false := by simpa using hc
    clear hc
    go_wp2_with fail
    refine bodyPost_ret (results_cell_row rfl _ _ (w.heap.size + 1) 29 _ (0, 0) _ rfl (HF3.out.set (.int .i64 f.1) (.int .i64 f.2)).1 Try.underlying29 rfl (by kernel_rfl)) rfl ?_
    exact ⟨by rw [HP.out]; rfl, (HF3.out.set _ _).2⟩

end Go.Proofs.Ytcfcmmajlkkabaa

/- isOne at the task step. -/
namespace Go.Proofs.Ytcfcmmajlkkabaa
open Go.RowKit

set_option maxRecDepth 100000 in
set_option maxHeartbeats 1000000 in
theorem isOne_any (w : World) (vp : Value) (n : Int) (h : Ints w vp [0]) :
    Calls Try.prog 70 #[resV true vp 3 n, fltV 0 0] w fun e w' => e = .returned (.bool true) ∧ Keeps (fun _ => False) w w' := by
  obtain ⟨ap, cp, h4, _⟩ := h.form
  subst h4
  have KA := (Keeps.refl (fun _ => False) w).alloc (.cells #[.bool true, .slice ap 1 cp, .int .i64 3, .int .i64 n] 52)
  have KB := (Keeps.refl (fun _ => False) (w.alloc (.cells #[.bool true, .slice ap 1 cp, .int .i64 3, .int .i64 n] 52))).alloc (.cells #[.int .i64 0, .int .i64 0] 29)
  have HK := Lib.hid (KA.trans KB)
  have HX := KB.heap (heap_alloc_new w (.cells #[.bool true, .slice ap 1 cp, .int .i64 3, .int .i64 n] 52)) (fun h => h)
  have HF := heap_alloc_new (w.alloc (.cells #[.bool true, .slice ap 1 cp, .int .i64 3, .int .i64 n] 52)) (.cells #[.int .i64 0, .int .i64 0] 29)
  rw [World.size_alloc] at HF
  have HP := Lib.hid (show Ints _ (.slice ap 1 cp) [0] from h.keeps0 (KA.trans KB))
  clear KA KB h
  unfold resV fltV
  go_enter Try.func70, Try.ntmps70
  go_upto_region 1 with fail
  generalize (w.alloc (.cells #[.bool true, .slice ap 1 cp, .int .i64 3, .int .i64 n] 52)).alloc (.cells #[.int .i64 0, .int .i64 0] 29) = w1 at HX HF HK HP ⊢
  have s0 : w1.cell? ⟨w.heap.size, 0, none⟩ = some (.bool true) := by rw [cell_of_blk HX]; rfl
  have s1 : w1.cell? ⟨w.heap.size, 1, none⟩ = some (.slice ap 1 cp) := by rw [cell_of_blk HX]; rfl
  have s2 : w1.cell? ⟨w.heap.size, 2, none⟩ = some (.int .i64 3) := by rw [cell_of_blk HX]; rfl
  have f0 : w1.cell? ⟨w.heap.size + 1, 0, none⟩ = some (.int .i64 0) := by rw [cell_of_blk HF]; rfl
  have hl := lt_of_heap HX
  have hlF := lt_of_heap HF
  have kc := (Keeps.refl (fun _ => False) w1).alloc (.cells #[.int .i64 0] 3)
  have HQ := Lib.hid (Ints.one (x := 0) (heap_alloc_new w1 (.cells #[.int .i64 0] 3)))
  have HP2 := Lib.hid (show Ints _ (.slice ap 1 cp) [0] from HP.out.keeps0 kc)
  have HK2 := Lib.hid (HK.out.trans kc)
  have HX2 := Lib.hid (kc.heap HX (fun h => h))
  clear kc HX HF
  go_wp2_with fail
  refine (ints_any _ _ _ _ _ HP2.out HQ.out).mono ?_; rintro e w3 ⟨rfl, hk⟩
  have hx := hk.heap HX2.out (fun h => h)
  clear s0 s1 s2 hl
  have s2 : w3.cell? ⟨w.heap.size, 2, none⟩ = some (.int .i64 3) := by rw [cell_of_blk hx]; rfl
  have hl := lt_of_heap hx
  have HKE := Lib.hid (HK2.out.trans hk)
  clear hx hk
  go_wp2_with fail
  go_ret
  exact ⟨rfl, HKE.out⟩

end Go.Proofs.Ytcfcmmajlkkabaa
