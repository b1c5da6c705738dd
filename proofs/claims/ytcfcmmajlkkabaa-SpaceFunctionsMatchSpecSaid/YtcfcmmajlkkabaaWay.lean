/- breadth.limited and breadth.Plan. -/
import Derived.Test.YtcfcmmajlkkabaaFirst
import Derived.Test.YtcfcmmajlkkabaaChk
namespace Go.Proofs.Ytcfcmmajlkkabaa
open Go.RowKit

/-- What limited hands back. -/
def limV (v : Value) (n : Nat) (ok : Bool) : Value := if n ≤ 60 then .tuple #[v, .bool ok, .agg #[.int .i64 0, .int .i64 0]] else .tuple #[.slice none 0 0, .bool false, .agg #[.int .i64 10, .int .i64 (-9)]]

theorem limited_any (w : World) (ao : Option Addr) (n cap : Nat) (ok : Bool) :
    Calls Try.prog 58 #[.slice ao n cap, .bool ok] w fun e w' => e = .returned (limV (.slice ao n cap) n ok) ∧ Keeps (fun _ => False) w w' := by
  by_cases hn : n ≤ 60
  · have HV : Hid (limV (.slice ao n cap) n ok = .tuple #[.slice ao n cap, .bool ok, .agg #[.int .i64 0, .int .i64 0]]) := by unfold Hid limV; rw [if_pos hn]
    go_enter Try.func58, Try.ntmps58
    go_wp2_with fail
    refine bodyPost_ret (results_tmp2_cell _ _ w.heap.size 29 #[.int .i64 0, .int .i64 0] (0, 0) _ rfl rfl (heap_alloc_new _ _) Try.underlying29 rfl (by kernel_rfl)) rfl ?_
    exact ⟨congrArg Ending.returned HV.out.symm, (Keeps.refl _ _).alloc _⟩
  · have HV : Hid (limV (.slice ao n cap) n ok = .tuple #[.slice none 0 0, .bool false, .agg #[.int .i64 10, .int .i64 (-9)]]) := by unfold Hid limV; rw [if_neg hn]
    go_enter Try.func58, Try.ntmps58
    go_wp2_with fail
    refine bodyPost_ret (results_tmp2_cell _ _ w.heap.size 29 #[.int .i64 10, .int .i64 (-9)] (0, 0) _ rfl rfl (heap_alloc_new _ _) Try.underlying29 rfl (by kernel_rfl)) rfl ?_
    exact ⟨congrArg Ending.returned HV.out.symm, (Keeps.refl _ _).alloc _⟩

/-- Whether a word holds all facts of a goal. -/
def goalB (g x : Nat) : Bool := x &&& g == g

theorem goal_bits {x g : Nat} (hx : x < 4294967296) (hg : g < 4294967296) : (bits .and .u32 (x : Int) (g : Int) == (g : Int)) = goalB g x := by
  rw [(u32_bits hx hg).1]
  unfold goalB
  cases h : x &&& g == g with
  | true => rw [beq_iff_eq] at h ⊢; exact_mod_cast h
  | false => rw [beq_eq_false_iff_ne] at h ⊢; intro e; exact h (by exact_mod_cast e)

theorem asked_goal (w : World) (base b s g : Nat) (v : Value) (ops : List Wop) (h : WordsAt w base b s g v ops) (hg : g < 4294967296) : Asked w 60 #[.pointer (some ⟨b, 0, none⟩)] #[] (goalB g) := by
  refine ⟨enters_of Try.func60 (by kernel_rfl) rfl, fun W x hk hx => ?_⟩
  refine (goal_any W base b s g x v ops (h.keeps0 hk)).mono ?_
  rintro e w' ⟨rfl, hq⟩
  rw [goal_bits hx hg]
  exact ⟨rfl, hq⟩

def fltV (c i : Int) : Value := .agg #[.int .i64 c, .int .i64 i]

/-- A way as breadth hands it back. -/
def WayPost (ops : List Wop) (s : Nat) (acc : Nat → Bool) (w : World) (e : Ending) (w' : World) : Prop :=
  (Best ops s acc none ∧ e = .returned (.tuple #[.slice none 0 0, .bool false, fltV 0 0])) ∨
  (∃ p, Best ops s acc (some p) ∧ ((60 < p.length ∧ e = .returned (.tuple #[.slice none 0 0, .bool false, fltV 10 (-9)])) ∨
    (p.length ≤ 60 ∧ ∃ v, e = .returned (.tuple #[v, .bool true, fltV 0 0]) ∧ w'.ownsRow w.heap.size 3 1 v p.length ((intsP p).map (Value.int .i64)))))

def PlanPost (t : Tsk) (w : World) (e : Ending) (w' : World) : Prop := Keeps (fun _ => False) w w' ∧
  (((taskFault t).1 ≠ 0 ∧ e = .returned (.tuple #[.slice none 0 0, .bool false, fltV (taskFault t).1 (taskFault t).2])) ∨
   (t.Ok ∧ explored t = none ∧ e = .returned (.tuple #[.slice none 0 0, .bool false, fltV 10 (-7)])) ∨
   (t.Ok ∧ ∃ l, explored t = some l ∧ WayPost (wordsOf t.ops) (wd t.init) (goalB (wd t.goal)) w e w'))

set_option maxHeartbeats 2000000 in
theorem plan_any (w : World) (vi vg vo : Value) (t : Tsk) (h : TaskAt w vi vg vo t) :
    Calls Try.prog 17 #[.agg #[.int .i64 t.n, vi, vg, vo]] w (PlanPost t w) := by
  obtain ⟨ai, ci, h1, _⟩ := h.init.form
  obtain ⟨ag, cg, h2, _⟩ := h.goal.form
  obtain ⟨ao, co, h3, hmo⟩ := h.ops.form
  subst h1 h2 h3
  have K1 := (Keeps.refl (fun _ => False) w).alloc (.cells #[.int .i64 t.n, .slice ai t.init.length ci, .slice ag t.goal.length cg, .slice ao t.ops.length co] 25)
  have HT := h.keeps0 (K1.alloc (.cells #[.int .i64 0, .int .i64 0] 29))
  have HB := (Four.new w (.int .i64 t.n) (.slice ai t.init.length ci) (.slice ag t.goal.length cg) (.slice ao t.ops.length co) 25).keeps0 ((Keeps.refl _ _).alloc (.cells #[.int .i64 0, .int .i64 0] 29))
  have HF : Flt w ((w.alloc (.cells #[.int .i64 t.n, .slice ai t.init.length ci, .slice ag t.goal.length cg, .slice ao t.ops.length co] 25)).alloc (.cells #[.int .i64 0, .int .i64 0] 29)) (w.heap.size + 1) 29 :=
    ⟨by have := heap_alloc_new (w.alloc (.cells #[.int .i64 t.n, .slice ai t.init.length ci, .slice ag t.goal.length cg, .slice ao t.ops.length co] 25)) (.cells #[.int .i64 0, .int .i64 0] 29); rwa [World.size_alloc] at this, by omega, K1.alloc _⟩
  replace HT := Lib.hid HT; replace HB := Lib.hid HB; replace HF := Lib.hid HF
  clear h K1
  go_enter Try.func17, Try.ntmps17
  go_upto_region 1 with fail
  generalize ((w.alloc (.cells #[.int .i64 t.n, .slice ai t.init.length ci, .slice ag t.goal.length cg, .slice ao t.ops.length co] 25)).alloc (.cells #[.int .i64 0, .int .i64 0] 29)) = w1 at HT HB HF ⊢
  have hbx := HB.out.lt
  obtain ⟨d0, d1, d2, d3⟩ := HB.out
  go_wp2_with fail
  refine (checked_any _ _ _ _ t HT.out).mono ?_; rintro e w2 ⟨hk, hr⟩
  have K2 := Lib.hid hk
  have HF2 := Lib.hid (HF.out.keeps0 hk)
  clear d0 d1 d2 d3 hk
  have hb0 := HF2.out.keep.size
  rcases hr with ⟨hc, rfl⟩ | ⟨hok, hx, rfl⟩ | ⟨hok, l, hx, b, v, vl, ws, rfl, hw, _, _, _⟩
  · have hc2 : ((taskFault t).1 == 0) = false := by simpa using hc
    have HC := Lib.hid hc
    clear hc
    generalize hfe : taskFault t = f at hc2 HC ⊢
    have HFE := Lib.hid hfe
    clear hfe
    have HF3 := Lib.hid (HF2.out.keeps0 ((Keeps.refl _ _).alloc (.cells #[.int .i64 f.1, .int .i64 f.2] 29)))
    obtain ⟨e0, e1, z0, z1, hF⟩ := HF3.out.cells
    go_wp2_with fail
    go_region
    all_goals
      go_wp2
      refine bodyPost_ret (results_tmp2_cell _ _ (w.heap.size + 1) 29 #[.int .i64 f.1, .int .i64 f.2] (0, 0) _ rfl rfl (((Keeps.refl (fun _ => False) _).drew).heap (HF3.out.set (.int .i64 f.1) (.int .i64 f.2)).1 (fun h => h)) Try.underlying29 rfl (by kernel_rfl)) rfl ?_
      refine ⟨((HF3.out.set (.int .i64 f.1) (.int .i64 f.2)).2).drew, .inl ?_⟩
      rw [HFE.out]
      exact ⟨HC.out, rfl⟩
  · have HX := Lib.hid hx; have OK := Lib.hid hok
    clear hx hok
    have HF3 := Lib.hid (HF2.out.keeps0 ((Keeps.refl _ _).alloc (.cells #[.int .i64 10, .int .i64 (-7)] 29)))
    obtain ⟨e0, e1, z0, z1, hF⟩ := HF3.out.cells
    go_wp2_with fail
    go_region
    all_goals
      go_wp2
      refine bodyPost_ret (results_tmp2_cell _ _ (w.heap.size + 1) 29 #[.int .i64 10, .int .i64 (-7)] (0, 0) _ rfl rfl (((Keeps.refl (fun _ => False) _).drew).heap (HF3.out.set (.int .i64 10) (.int .i64 (-7))).1 (fun h => h)) Try.underlying29 rfl (by kernel_rfl)) rfl ?_
      exact ⟨((HF3.out.set (.int .i64 10) (.int .i64 (-7))).2).drew, .inr (.inl ⟨OK.out, HX.out, rfl⟩)⟩
  · have HX := Lib.hid hx; have OK := Lib.hid hok
    have KA := (Keeps.refl (fun _ => False) w2).alloc (.cells #[.int .i64 0, .int .i64 0] 29)
    have HW := Lib.hid (hw.keeps0 KA)
    have HF3 := Lib.hid (HF2.out.keeps0 KA)
    clear hx hok hw KA
    go_wp2_with fail
    generalize w2.alloc (.cells #[.int .i64 0, .int .i64 0] 29) = w3 at HW HF3 ⊢
    have hs32 : wd t.init < 4294967296 := wd_lt32 (by have := OK.out.n1; omega : t.n ≤ 32) OK.out.init
    have hg32 : wd t.goal < 4294967296 := wd_lt32 (by have := OK.out.n1; omega : t.n ≤ 32) OK.out.goal
    refine (first_any w3 b (wd t.init) (wd t.goal) _ v (wordsOf t.ops) HW.out (wops_ok OK.out) (by unfold wordsOf; rw [List.length_map]; exact OK.out.few) hs32 l HX.out _ _ _ (goalB (wd t.goal)) (asked_goal w3 _ b _ _ v _ HW.out hg32)).mono ?_
    rintro e w4 ⟨hk4, hr⟩
    have HF4 := Lib.hid (HF3.out.keeps0 hk4)
    have hlow := HF3.out.keep.size
    clear hk4
    rcases hr with ⟨hbest, rfl⟩ | ⟨p, hbest, v', rfl, hown⟩
    · have HBE := Lib.hid hbest
      clear hbest
      go_wp2_with fail
      refine (limited_any _ none 0 0 false).mono ?_; rintro e w5 ⟨rfl, hk5⟩
      have HF5 := Lib.hid (HF4.out.keeps0 hk5)
      obtain ⟨e0, e1, z0, z1, hF⟩ := HF5.out.cells
      clear hk5
      simp only [limV, Nat.zero_le, if_true]
      go_wp2_with fail
      refine bodyPost_ret (results_tmp2_cell _ _ (w.heap.size + 1) 29 #[.int .i64 0, .int .i64 0] (0, 0) _ rfl rfl (HF5.out.set (.int .i64 0) (.int .i64 0)).1 Try.underlying29 rfl (by kernel_rfl)) rfl ?_
      exact ⟨(HF5.out.set _ _).2, .inr (.inr ⟨OK.out, l, HX.out, .inl ⟨HBE.out, rfl⟩⟩)⟩
    · have HBE := Lib.hid hbest
      obtain ⟨av, cv, hav⟩ := ownsRow_form1 hown
      subst hav
      have HO := Lib.hid hown
      clear hbest hown
      go_wp2_with fail
      refine (limited_any _ av p.length cv true).mono ?_; rintro e w5 ⟨rfl, hk5⟩
      have HF5 := Lib.hid (HF4.out.keeps0 hk5)
      have HO5 := Lib.hid (hk5.ownsRow HO.out (fun _ _ h => h))
      obtain ⟨e0, e1, z0, z1, hF⟩ := HF5.out.cells
      clear hk5
      by_cases hp : p.length ≤ 60
      · simp only [limV, hp, if_true]
        go_wp2_with fail
        refine bodyPost_ret (results_tmp2_cell _ _ (w.heap.size + 1) 29 #[.int .i64 0, .int .i64 0] (0, 0) _ rfl rfl (HF5.out.set (.int .i64 0) (.int .i64 0)).1 Try.underlying29 rfl (by kernel_rfl)) rfl ?_
        have kS := keeps_pair (w := w5) (w.heap.size + 1) (.int .i64 0) (.int .i64 0)
        refine ⟨(HF5.out.set _ _).2, .inr (.inr ⟨OK.out, l, HX.out, .inr ⟨p, HBE.out, .inr ⟨hp, _, rfl, ?_⟩⟩⟩)⟩
        refine ownsRow_mono (kS.ownsRow HO5.out (fun k hk e => ?_)) hlow
        have h1 := (World.ownsRow.lt HO5.out k hk).1
        have h2 := lt_of_heap HF3.out.blk
        omega
      · simp only [limV, hp, if_false]
        go_wp2_with fail
        refine bodyPost_ret (results_tmp2_cell _ _ (w.heap.size + 1) 29 #[.int .i64 10, .int .i64 (-9)] (0, 0) _ rfl rfl (HF5.out.set (.int .i64 10) (.int .i64 (-9))).1 Try.underlying29 rfl (by kernel_rfl)) rfl ?_
        exact ⟨(HF5.out.set _ _).2, .inr (.inr ⟨OK.out, l, HX.out, .inr ⟨p, HBE.out, .inl ⟨by omega, rfl⟩⟩⟩)⟩

end Go.Proofs.Ytcfcmmajlkkabaa
