/- strips.StateFault, breadth.Reach. -/
import Derived.Test.YtcfcmmajlkkabaaWay
namespace Go.Proofs.Ytcfcmmajlkkabaa
open Go.RowKit

def stateFault (t : Tsk) (s : List Int) : Int × Int := if (taskFault t).1 = 0 then (if isSetB s t.n = true then (0, 0) else (5, -4)) else taskFault t

set_option maxHeartbeats 1000000 in
theorem stateFault_any (w : World) (vi vg vo vs : Value) (t : Tsk) (s : List Int) (h : TaskAt w vi vg vo t) (hs : Ints w vs s) :
    Calls Try.prog 64 #[.agg #[.int .i64 t.n, vi, vg, vo], vs] w fun e w' => e = .returned (.agg #[.int .i64 (stateFault t s).1, .int .i64 (stateFault t s).2]) ∧ Keeps (fun _ => False) w w' := by
  obtain ⟨ai, ci, h1, _⟩ := h.init.form
  obtain ⟨ag, cg, h2, _⟩ := h.goal.form
  obtain ⟨ao, co, h3, hmo⟩ := h.ops.form
  obtain ⟨aa, cs, h4, _⟩ := hs.form
  subst h1 h2 h3 h4
  have K1 := (Keeps.refl (fun _ => False) w).alloc (.cells #[.int .i64 t.n, .slice ai t.init.length ci, .slice ag t.goal.length cg, .slice ao t.ops.length co] 25)
  have HT := h.keeps0 (K1.alloc (.cells #[.int .i64 0, .int .i64 0] 29))
  have HSS : Ints _ _ s := hs.keeps0 (K1.alloc (.cells #[.int .i64 0, .int .i64 0] 29))
  have HB := (Four.new w (.int .i64 t.n) (.slice ai t.init.length ci) (.slice ag t.goal.length cg) (.slice ao t.ops.length co) 25).keeps0 ((Keeps.refl _ _).alloc (.cells #[.int .i64 0, .int .i64 0] 29))
  have HF : Flt w ((w.alloc (.cells #[.int .i64 t.n, .slice ai t.init.length ci, .slice ag t.goal.length cg, .slice ao t.ops.length co] 25)).alloc (.cells #[.int .i64 0, .int .i64 0] 29)) (w.heap.size + 1) 29 :=
    ⟨by have := heap_alloc_new (w.alloc (.cells #[.int .i64 t.n, .slice ai t.init.length ci, .slice ag t.goal.length cg, .slice ao t.ops.length co] 25)) (.cells #[.int .i64 0, .int .i64 0] 29); rwa [World.size_alloc] at this, by omega, K1.alloc _⟩
  replace HT := Lib.hid HT; replace HB := Lib.hid HB; replace HF := Lib.hid HF; replace HSS := Lib.hid HSS
  clear h hs K1
  go_enter Try.func64, Try.ntmps64
  go_upto_region 1 with fail
  generalize ((w.alloc (.cells #[.int .i64 t.n, .slice ai t.init.length ci, .slice ag t.goal.length cg, .slice ao t.ops.length co] 25)).alloc (.cells #[.int .i64 0, .int .i64 0] 29)) = w1 at HT HB HF HSS ⊢
  have hbx := HB.out.lt
  obtain ⟨d0, d1, d2, d3⟩ := HB.out
  go_wp2_with fail
  refine (validate_any _ _ _ _ t HT.out).mono ?_; rintro e w2 ⟨rfl, hk⟩
  have HF2 := Lib.hid (HF.out.keeps0 hk)
  have HB2 := HB.out.keeps0 hk
  have hbx2 := HB2.lt
  have KA := (Keeps.refl (fun _ => False) w2).alloc (.cells #[.int .i64 (taskFault t).1, .int .i64 (taskFault t).2] 29)
  have HF3 := Lib.hid (HF2.out.keeps0 KA)
  have HS3 := Lib.hid ((HSS.out.keeps0 hk : Ints w2 _ s).keeps0 KA)
  clear d0 d1 d2 d3 hk
  obtain ⟨d0, d1, d2, d3⟩ := HB2.keeps0 KA
  obtain ⟨e0, e1, z0, z1, hF⟩ := HF3.out.cells
  clear KA HB2
  by_cases hc : (taskFault t).1 = 0
  · have hok := taskFault_zero.1 hc
    have hft := taskFault_ok hok
    rw [hft] at HF3 HS3 d0 d1 d2 d3 e0 e1 z0 z1 hF ⊢
    cases b1 : isSetB s t.n with
    | true =>
      have HP : Hid (stateFault t s = (0, 0)) := by unfold Hid stateFault; rw [if_pos hc, if_pos b1]
      have B1 := Lib.hid b1
      clear hc hft hok b1
      go_wp2_with fail
      refine (sIsSet_val HS3.out B1.out).mono ?_; rintro e w5 ⟨rfl, rfl⟩
      go_wp2_with fail
      refine bodyPost_ret (results_cell_row rfl _ _ (w.heap.size + 1) 29 _ (0, 0) _ rfl (HF3.out.set (.int .i64 0) (.int .i64 0)).1 Try.underlying29 rfl (by kernel_rfl)) rfl ?_
      exact ⟨by rw [HP.out], (HF3.out.set _ _).2⟩
    | false =>
      have HP : Hid (stateFault t s = (5, -4)) := by unfold Hid stateFault; rw [if_pos hc, if_neg (by simp [b1])]
      have B1 := Lib.hid b1
      clear hc hft hok b1
      go_wp2_with fail
      refine (sIsSet_val HS3.out B1.out).mono ?_; rintro e w5 ⟨rfl, rfl⟩
      go_wp2_with fail
      refine bodyPost_ret (results_cell_row rfl _ _ (w.heap.size + 1) 29 _ (0, 0) _ rfl (HF3.out.set (.int .i64 5) (.int .i64 (-4))).1 Try.underlying29 rfl (by kernel_rfl)) rfl ?_
      exact ⟨by rw [HP.out], (HF3.out.set _ _).2⟩
  · have HP : Hid (stateFault t s = taskFault t) := by unfold Hid stateFault; rw [if_neg hc]
    have hc2 : ((taskFault t).1 == 0) = false := by simpa using hc
    clear hc
    generalize hfe : taskFault t = f at hc2 HP HF3 HS3 d0 d1 d2 d3 e0 e1 z0 z1 hF ⊢
    clear hfe
    go_wp2_with fail
    refine bodyPost_ret (results_cell_row rfl _ _ (w.heap.size + 1) 29 _ (0, 0) _ rfl (HF3.out.set (.int .i64 f.1) (.int .i64 f.2)).1 Try.underlying29 rfl (by kernel_rfl)) rfl ?_
    exact ⟨by rw [HP.out], (HF3.out.set _ _).2⟩

/-! ### breadth.Reach -/
theorem asked_want (w : World) (B g : Nat) (T : TypeId) (hb : Boxed w B T (.int .u32 (g : Int))) : Asked w 66 #[] #[.pointer (some ⟨B, 0, none⟩)] (fun x => x == g) := by
  refine ⟨enters_of Try.func66 (by kernel_rfl) rfl, fun W x hk hx => ?_⟩
  have hc := (show Boxed W B T (.int .u32 (g : Int)) from hk.heap hb (fun h => h)).cell
  show Calls Try.prog _ #[.int .u32 (x : Int), .pointer (some ⟨B, 0, none⟩)] W _
  have HE : Hid (((x : Int) == (g : Int)) = (x == g)) := by
    unfold Hid
    cases h : x == g with
    | true => rw [beq_iff_eq] at h ⊢; exact_mod_cast h
    | false => rw [beq_eq_false_iff_ne] at h ⊢; intro e; exact h (by exact_mod_cast e)
  clear hk hb
  go_enter Try.func66, Try.ntmps66
  go_wp2_with fail
  go_ret
  exact ⟨congrArg (fun b => Ending.returned (Value.bool b)) HE.out, 0, rfl⟩

end Go.Proofs.Ytcfcmmajlkkabaa
